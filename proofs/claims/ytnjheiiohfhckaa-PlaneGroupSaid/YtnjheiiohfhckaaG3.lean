/- Lemmas and contracts of functions (what each call returns, and that it changes nothing that was there) that the proof of a law of this seat uses; each lemma states its own conditions. -/
import Derived.Test.YtnjheiiohfhckaaG2
namespace Go.Proofs.Ytnjheiiohfhckaa
open Go.RowKit
set_option linter.unusedVariables false
set_option linter.unusedSimpArgs false
open Z (IsGcd Normal nrm)
def GcdPost (g : Int) (a b : Z.Pt) (w : World) (r : Ending) (w' : World) : Prop :=
  ∃ d : Z.Pt, r = .returned (.tuple #[.agg #[.int .i64 (d.1), .int .i64 (d.2)], .int .i64 0]) ∧ IsGcd g a b d ∧ Normal d ∧ nrm g d ≤ 3 * (1048576 * 1048576) ∧ Below w.heap.size w w'
def gcdW (w : World) (p q : Z.Pt) : World := ((w.alloc (.cells #[.int .i64 (p.1), .int .i64 (p.2)] 32)).alloc (.cells #[.int .i64 (q.1), .int .i64 (q.2)] 32)).alloc (.cells #[.int .i64 (0), .int .i64 (0)] 32)
def ptB (p : Z.Pt) : Prop := (-2097152 ≤ p.1 ∧ p.1 ≤ 2097152) ∧ (-2097152 ≤ p.2 ∧ p.2 ≤ 2097152)
theorem ptB_of {g : Int} (hg : Z.G g) {p : Z.Pt} (h : nrm g p ≤ 3 * (1048576 * 1048576)) : ptB p := Z.part_bd hg (by omega) (by omega)
theorem turn_back {g : Int} (hg : Z.G g) (p : Z.Pt) : Z.Dvd g (Z.turn g p) p := by
  have h : Z.tn g 6 (Z.tn g 6 p) = p := by
    rcases hg with rfl | rfl <;> apply Z.ext2 <;> simp [Z.tn, Z.turn] <;> omega
  have h2 : Z.Dvd g (Z.turn g p) (Z.tn g 11 (Z.turn g p)) := Z.dvd_tn hg 11 _
  have h3 : Z.tn g 11 (Z.turn g p) = p := h
  rwa [h3] at h2
set_option maxRecDepth 100000 in
set_option maxHeartbeats 8000000 in
theorem Gcd_ok (g x y x2 y2 : Int) (w : World) (he : fltE g [(x,y),(x2,y2)] = 0) :
    Calls Try.prog 14 #[.int .i64 (g), .agg #[.int .i64 (x), .int .i64 (y)], .agg #[.int .i64 (x2), .int .i64 (y2)]] w (GcdPost g (x,y) (x2,y2) w) := by
  obtain ⟨hg, h2, h3⟩ := fltE_two_ok he
  have HW := Lib.hid (two_wf (x := x) (y := y) (x2 := x2) (y2 := y2) (by omega) (by omega) (by omega) (by omega))
  have HE := Lib.hid he
  have n1 := Z.nrm_bd hg (a := (x,y)) (B := 1048576) (by simp; omega) (by simp; omega)
  have n2 := Z.nrm_bd hg (a := (x2,y2)) (B := 1048576) (by simp; omega) (by simp; omega)
  clear he
  go_enter Try.func14, Try.ntmps14
  go_wp2_with fail
  refine (fault_any g (w.heap.size+1+1+1) 2 2 [(x,y),(x2,y2)] _ rfl (by simp) (two_cells (by simp [go_sem]) (by simp [go_sem]) (by simp [go_sem]) (by simp [go_sem])) HW.out (by omega)).mono ?_
  rintro e w1 ⟨rfl, hb1⟩
  rw [HE.out]
  obtain ⟨E1, d1, rfl⟩ := bExt hb1; clear hb1
  go_wp2_with fail
  go_loopw [] (fun wr => ∃ (p q : Z.Pt) (E : Array Obj) (d : Nat), wr = extW (gcdW w p q) E d ∧ nrm g p ≤ 3 * (1048576 * 1048576) ∧ nrm g q ≤ 3 * (1048576 * 1048576) ∧ ∀ d, IsGcd g p q d → IsGcd g (x,y) (x2,y2) d)
    (fun wr => (nrm g (cellInt wr (w.heap.size+1) 0, cellInt wr (w.heap.size+1) 1)).toNat)
  case atStart => exact ⟨(x,y), (x2,y2), _, _, by rw [alloc_ext, extW_extW]; rfl, n1, n2, fun d h => h⟩
  case round =>
    obtain ⟨p, q, E, d, rfl, np, nq, hgcd⟩ := hrel
    have HG := Lib.hid hgcd
    clear hgcd
    obtain ⟨px, py⟩ := p
    obtain ⟨qx, qy⟩ := q
    unfold gcdW
    have bp := ptB_of hg np
    have bq := ptB_of hg nq
    simp only [ptB] at bp bq
    have hov : (qx, qy) ≠ ((0,0) : Z.Pt) → ((-4194304 ≤ (Z.over g (px,py) (qx,qy)).1 ∧ (Z.over g (px,py) (qx,qy)).1 ≤ 4194304) ∧ (-4194304 ≤ (Z.over g (px,py) (qx,qy)).2 ∧ (Z.over g (px,py) (qx,qy)).2 ≤ 4194304)) ∧
        4 * nrm g (Z.rem g (px,py) (qx,qy)) ≤ 3 * nrm g (qx,qy) ∧ 1 ≤ nrm g (qx,qy) ∧ ptB (Z.rem g (px,py) (qx,qy)) := by
      intro h
      have h1 := Z.over_bd hg h np
      have h2 := Z.rem_lt hg (a := (px,py)) h
      have h3 := Z.nrm_pos hg h
      exact ⟨Z.part_bd hg (by omega) (by omega), h2, h3, ptB_of hg (by omega)⟩
    have hrem : Z.rem g (px,py) (qx,qy) = (px - tmX (Z.over g (px,py) (qx,qy)).1 (Z.over g (px,py) (qx,qy)).2 qx qy, py - tmY g (Z.over g (px,py) (qx,qy)).1 (Z.over g (px,py) (qx,qy)).2 qx qy) := rfl
    by_cases hx : qx = 0
    · subst hx
      by_cases hy : qy = 0
      · subst hy
        have HGZ := Lib.hid (HG.out _ (IsGcd.zero g (px,py)))
        clear hov hrem
        go_wp2_with fail
        go_loopw [] (fun wr => ∃ (p : Z.Pt) (E : Array Obj) (d : Nat), wr = extW (gcdW w p (0,0)) E d ∧ nrm g p ≤ 3 * (1048576 * 1048576) ∧ IsGcd g (x,y) (x2,y2) p)
          (fun wr => Z.rank g (cellInt wr w.heap.size 0, cellInt wr w.heap.size 1))
        case atStart => exact ⟨(px,py), _, _, rfl, np, HGZ.out⟩
        case round =>
          obtain ⟨⟨ax, ay⟩, E, d, rfl, na, hgc⟩ := hrel
          have HGC := Lib.hid hgc
          have ba := ptB_of hg na
          simp only [ptB] at ba
          clear hgc bp HGZ
          unfold gcdW
          by_cases hx0 : ax = 0
          · subst hx0
            by_cases hy0 : ay = 0
            · subst hy0
              go_wp2
              refine bodyPost_ret (v := .tuple #[.agg #[.int .i64 (0), .int .i64 (0)], .int .i64 0]) (by simp [results, Try.results14, go_sem]) rfl ⟨(0,0), rfl, HGC.out, .inl rfl, na, (by repeat (first | exact Below.refl _ _ | refine Below.drew ?_ | refine below_drewN ?_ _ | refine Below.alloc ?_ (by first | exact Nat.le_refl _ | (simp; done) | (simp; omega) | omega) _ | refine Below.setCell ?_ (by first | exact Nat.le_refl _ | (simp; done) | (simp; omega) | omega) _ | refine bExtW ?_ (by first | exact Nat.le_refl _ | (simp; done) | (simp; omega) | omega) | refine Below.trans ?_ (Below.mono (by assumption) (by first | exact Nat.le_refl _ | (simp; done) | (simp; omega) | omega))))⟩
            · (go_wp2_with fail; refine (turned1_any g 0 ay _ hg (by omega) (by omega)).mono ?_; rintro r w1 ⟨rfl, hb⟩; obtain ⟨E', d', rfl⟩ := bExt hb; clear hb; go_wp2; go_roundw; (case rel => exact ⟨Z.turn g (0, ay), _, _, by simp only [extW_extW]; rfl, by rw [Z.nrm_turn hg]; exact na, HGC.out.unit (Z.dvd_tn hg 1 _) (turn_back hg _)⟩); case measure => (rw [cellInt_of (n := (Z.turn g (0, ay)).1) (by simp [go_sem]), cellInt_of (n := (Z.turn g (0, ay)).2) (by simp [go_sem]), cellInt_of (n := 0) (by simp [go_sem]), cellInt_of (n := ay) (by simp [go_sem])]; exact Z.rank_turn hg (by intro h; simp at h; omega) (by simp only; omega)))
          · by_cases hx1 : 0 < ax
            · by_cases hy1 : 0 ≤ ay
              · go_wp2
                refine bodyPost_ret (v := .tuple #[.agg #[.int .i64 (ax), .int .i64 (ay)], .int .i64 0]) (by simp [results, Try.results14, go_sem]) rfl ⟨(ax,ay), rfl, HGC.out, .inr ⟨hx1, hy1⟩, na, (by repeat (first | exact Below.refl _ _ | refine Below.drew ?_ | refine below_drewN ?_ _ | refine Below.alloc ?_ (by first | exact Nat.le_refl _ | (simp; done) | (simp; omega) | omega) _ | refine Below.setCell ?_ (by first | exact Nat.le_refl _ | (simp; done) | (simp; omega) | omega) _ | refine bExtW ?_ (by first | exact Nat.le_refl _ | (simp; done) | (simp; omega) | omega) | refine Below.trans ?_ (Below.mono (by assumption) (by first | exact Nat.le_refl _ | (simp; done) | (simp; omega) | omega))))⟩
              · (go_wp2_with fail; refine (turned1_any g ax ay _ hg (by omega) (by omega)).mono ?_; rintro r w1 ⟨rfl, hb⟩; obtain ⟨E', d', rfl⟩ := bExt hb; clear hb; go_wp2; go_roundw; (case rel => exact ⟨Z.turn g (ax, ay), _, _, by simp only [extW_extW]; rfl, by rw [Z.nrm_turn hg]; exact na, HGC.out.unit (Z.dvd_tn hg 1 _) (turn_back hg _)⟩); case measure => (rw [cellInt_of (n := (Z.turn g (ax, ay)).1) (by simp [go_sem]), cellInt_of (n := (Z.turn g (ax, ay)).2) (by simp [go_sem]), cellInt_of (n := ax) (by simp [go_sem]), cellInt_of (n := ay) (by simp [go_sem])]; exact Z.rank_turn hg (by intro h; simp at h; omega) (by simp only; omega)))
            · (go_wp2_with fail; refine (turned1_any g ax ay _ hg (by omega) (by omega)).mono ?_; rintro r w1 ⟨rfl, hb⟩; obtain ⟨E', d', rfl⟩ := bExt hb; clear hb; go_wp2; go_roundw; (case rel => exact ⟨Z.turn g (ax, ay), _, _, by simp only [extW_extW]; rfl, by rw [Z.nrm_turn hg]; exact na, HGC.out.unit (Z.dvd_tn hg 1 _) (turn_back hg _)⟩); case measure => (rw [cellInt_of (n := (Z.turn g (ax, ay)).1) (by simp [go_sem]), cellInt_of (n := (Z.turn g (ax, ay)).2) (by simp [go_sem]), cellInt_of (n := ax) (by simp [go_sem]), cellInt_of (n := ay) (by simp [go_sem])]; exact Z.rank_turn hg (by intro h; simp at h; omega) (by simp only; omega)))
      · have HQ : Hid ((0, qy) ≠ ((0,0) : Z.Pt)) := Lib.hid (by simpa using hy)
        obtain ⟨ho, h4, h5, hrb⟩ := hov HQ.out
        rw [hrem] at hrb
        simp only [ptB] at hrb
        have HR := Lib.hid hrem
        have HRn := Lib.hid h4
        clear hov hrem h4
        go_wp2_with fail
        (refine wp_region_ext_alloc 7 32 (some 10) _ (by kernel_rfl) (by kernel_rfl) rfl allocPt ?_; simp only [List.take_succ_cons, List.take_zero, List.drop_succ_cons, List.drop_zero]; (repeat (first | (refine wpV_step (fun K hK => ?_); go_simp; first | (refine hK _ ?_; clear hK K) | (apply Exists.intro; refine ⟨fun _ _ => ?_, hK _ ?_⟩; (first | (go_at_call 35; exact vOf (over_any g px py 0 qy _ hg (by omega) (by omega) (by omega) (by omega) HQ.out)) | (go_at_call 33; exact vOf (times_any g _ _ _ _ _ (by omega) (by omega) (by omega) (by omega)))); clear hK K)))); refine wpV_nil ?_; intro E d E' d'; go_simp)
        go_wp2_with fail
        go_region
        go_wp2
        go_roundw
        case rel => exact ⟨(0, qy), (px - tmX (Z.over g (px,py) (0,qy)).1 (Z.over g (px,py) (0,qy)).2 0 qy, py - tmY g (Z.over g (px,py) (0,qy)).1 (Z.over g (px,py) (0,qy)).2 0 qy), _, _, by simp only [alloc_extW, extW_extW]; rfl, nq, by have := HRn.out; rw [HR.out] at this; omega, fun d hd => HG.out d (IsGcd.step (q := Z.over g (px,py) (0,qy)) hd)⟩
        case measure =>
          have hn := HRn.out
          rw [HR.out] at hn
          rw [cellInt_of (n := px - tmX (Z.over g (px,py) (0,qy)).1 (Z.over g (px,py) (0,qy)).2 0 qy) (by simp [go_sem]), cellInt_of (n := py - tmY g (Z.over g (px,py) (0,qy)).1 (Z.over g (px,py) (0,qy)).2 0 qy) (by simp [go_sem]), cellInt_of (n := 0) (by simp [go_sem]), cellInt_of (n := qy) (by simp [go_sem])]
          have hp := Z.nrm_nonneg hg (px - tmX (Z.over g (px,py) (0,qy)).1 (Z.over g (px,py) (0,qy)).2 0 qy, py - tmY g (Z.over g (px,py) (0,qy)).1 (Z.over g (px,py) (0,qy)).2 0 qy)
          omega
    · have HQ : Hid ((qx, qy) ≠ ((0,0) : Z.Pt)) := Lib.hid (by simp [hx])
      obtain ⟨ho, h4, h5, hrb⟩ := hov HQ.out
      rw [hrem] at hrb
      simp only [ptB] at hrb
      have HR := Lib.hid hrem
      have HRn := Lib.hid h4
      clear hov hrem h4
      · go_wp2_with fail
        (refine wp_region_ext_alloc 7 32 (some 10) _ (by kernel_rfl) (by kernel_rfl) rfl allocPt ?_; simp only [List.take_succ_cons, List.take_zero, List.drop_succ_cons, List.drop_zero]; (repeat (first | (refine wpV_step (fun K hK => ?_); go_simp; first | (refine hK _ ?_; clear hK K) | (apply Exists.intro; refine ⟨fun _ _ => ?_, hK _ ?_⟩; (first | (go_at_call 35; exact vOf (over_any g px py qx qy _ hg (by omega) (by omega) (by omega) (by omega) HQ.out)) | (go_at_call 33; exact vOf (times_any g _ _ _ _ _ (by omega) (by omega) (by omega) (by omega)))); clear hK K)))); refine wpV_nil ?_; intro E d E' d'; go_simp)
        go_wp2_with fail
        go_region
        go_wp2
        go_roundw
        case rel => exact ⟨(qx, qy), (px - tmX (Z.over g (px,py) (qx,qy)).1 (Z.over g (px,py) (qx,qy)).2 qx qy, py - tmY g (Z.over g (px,py) (qx,qy)).1 (Z.over g (px,py) (qx,qy)).2 qx qy), _, _, by simp only [alloc_extW, extW_extW]; rfl, nq, by have := HRn.out; rw [HR.out] at this; omega, fun d hd => HG.out d (IsGcd.step (q := Z.over g (px,py) (qx,qy)) hd)⟩
        case measure =>
          have hn := HRn.out
          rw [HR.out] at hn
          rw [cellInt_of (n := px - tmX (Z.over g (px,py) (qx,qy)).1 (Z.over g (px,py) (qx,qy)).2 qx qy) (by simp [go_sem]), cellInt_of (n := py - tmY g (Z.over g (px,py) (qx,qy)).1 (Z.over g (px,py) (qx,qy)).2 qx qy) (by simp [go_sem]), cellInt_of (n := qx) (by simp [go_sem]), cellInt_of (n := qy) (by simp [go_sem])]
          have hp := Z.nrm_nonneg hg (px - tmX (Z.over g (px,py) (qx,qy)).1 (Z.over g (px,py) (qx,qy)).2 qx qy, py - tmY g (Z.over g (px,py) (qx,qy)).1 (Z.over g (px,py) (qx,qy)).2 qx qy)
          omega
end Go.Proofs.Ytnjheiiohfhckaa
