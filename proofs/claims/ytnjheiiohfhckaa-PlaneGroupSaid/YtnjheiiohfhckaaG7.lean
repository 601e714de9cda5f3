/- Lemmas and contracts of functions (what each call returns, and that it changes nothing that was there) that the proof of a law of this seat uses; each lemma states its own conditions. -/
import Derived.Test.YtnjheiiohfhckaaG6
import Derived.Test.YtnjheiiohfhckaaRegC
namespace Go.Proofs.Ytnjheiiohfhckaa
open Go.RowKit
set_option linter.unusedVariables false
set_option linter.unusedSimpArgs false
open Z (IsGcd Normal nrm)
set_option maxRecDepth 100000 in
set_option maxHeartbeats 400000 in
theorem rGrid_any (g : Int) (w : World) (hw : (-9223372036854775808 ≤ g ∧ g ≤ 9223372036854775807)) : Calls Try.prog 42 #[.int .i64 (g)] w fun e w' => e = .returned (.bool (knB g)) ∧ Below w.heap.size w w' := by
  by_cases h4 : g = 4
  · subst h4
    go_enter Try.func42, Try.ntmps42
    go_wp2
    refine bodyPost_ret (v := .bool true) (by simp [results, Try.results42, go_sem]) rfl ⟨rfl, (by repeat (first | exact Below.refl _ _ | refine Below.drew ?_ | refine below_drewN ?_ _ | refine Below.alloc ?_ (by first | exact Nat.le_refl _ | (simp; done) | (simp; omega) | omega) _ | refine Below.setCell ?_ (by first | exact Nat.le_refl _ | (simp; done) | (simp; omega) | omega) _ | refine bExtW ?_ (by first | exact Nat.le_refl _ | (simp; done) | (simp; omega) | omega) | refine Below.trans ?_ (Below.mono (by assumption) (by first | exact Nat.le_refl _ | (simp; done) | (simp; omega) | omega))))⟩
  · by_cases h6 : g = 6
    · subst h6
      go_enter Try.func42, Try.ntmps42
      go_wp2
      refine bodyPost_ret (v := .bool true) (by simp [results, Try.results42, go_sem]) rfl ⟨rfl, (by repeat (first | exact Below.refl _ _ | refine Below.drew ?_ | refine below_drewN ?_ _ | refine Below.alloc ?_ (by first | exact Nat.le_refl _ | (simp; done) | (simp; omega) | omega) _ | refine Below.setCell ?_ (by first | exact Nat.le_refl _ | (simp; done) | (simp; omega) | omega) _ | refine bExtW ?_ (by first | exact Nat.le_refl _ | (simp; done) | (simp; omega) | omega) | refine Below.trans ?_ (Below.mono (by assumption) (by first | exact Nat.le_refl _ | (simp; done) | (simp; omega) | omega))))⟩
    · have hd : knB g = false := by simp [knB, h4, h6]
      have HD := Lib.hid hd
      clear hd
      go_enter Try.func42, Try.ntmps42
      go_wp2
      refine bodyPost_ret (v := .bool false) (by simp [results, Try.results42, go_sem, h4, h6]) rfl ⟨by rw [HD.out], (by repeat (first | exact Below.refl _ _ | refine Below.drew ?_ | refine below_drewN ?_ _ | refine Below.alloc ?_ (by first | exact Nat.le_refl _ | (simp; done) | (simp; omega) | omega) _ | refine Below.setCell ?_ (by first | exact Nat.le_refl _ | (simp; done) | (simp; omega) | omega) _ | refine bExtW ?_ (by first | exact Nat.le_refl _ | (simp; done) | (simp; omega) | omega) | refine Below.trans ?_ (Below.mono (by assumption) (by first | exact Nat.le_refl _ | (simp; done) | (simp; omega) | omega))))⟩
set_option maxRecDepth 100000 in
set_option maxHeartbeats 400000 in
theorem rSmall_any (x y : Int) (w : World) (h1 : (-9223372036854775808 ≤ x ∧ x ≤ 9223372036854775807)) (h2 : (-9223372036854775808 ≤ y ∧ y ≤ 9223372036854775807)) : Calls Try.prog 43 #[.agg #[.int .i64 (x), .int .i64 (y)]] w fun e w' => e = .returned (.bool (smB x y)) ∧ Below w.heap.size w w' := by
  by_cases a1 : x ≤ 1048576
  · by_cases a2 : -1048576 ≤ x
    · by_cases a3 : y ≤ 1048576
      · by_cases a4 : -1048576 ≤ y
        · have HD : Hid (smB x y = true) := Lib.hid (by simp [smB]; omega)
          (go_enter Try.func43, Try.ntmps43; go_wp2; refine bodyPost_ret (v := .bool true) (by simp [results, Try.results43, go_sem]) rfl ⟨by rw [HD.out], (by repeat (first | exact Below.refl _ _ | refine Below.drew ?_ | refine below_drewN ?_ _ | refine Below.alloc ?_ (by first | exact Nat.le_refl _ | (simp; done) | (simp; omega) | omega) _ | refine Below.setCell ?_ (by first | exact Nat.le_refl _ | (simp; done) | (simp; omega) | omega) _ | refine bExtW ?_ (by first | exact Nat.le_refl _ | (simp; done) | (simp; omega) | omega) | refine Below.trans ?_ (Below.mono (by assumption) (by first | exact Nat.le_refl _ | (simp; done) | (simp; omega) | omega))))⟩)
        · have HD : Hid (smB x y = false) := Lib.hid (by simp [smB]; omega)
          (go_enter Try.func43, Try.ntmps43; go_wp2; refine bodyPost_ret (v := .bool false) (by simp [results, Try.results43, go_sem]) rfl ⟨by rw [HD.out], (by repeat (first | exact Below.refl _ _ | refine Below.drew ?_ | refine below_drewN ?_ _ | refine Below.alloc ?_ (by first | exact Nat.le_refl _ | (simp; done) | (simp; omega) | omega) _ | refine Below.setCell ?_ (by first | exact Nat.le_refl _ | (simp; done) | (simp; omega) | omega) _ | refine bExtW ?_ (by first | exact Nat.le_refl _ | (simp; done) | (simp; omega) | omega) | refine Below.trans ?_ (Below.mono (by assumption) (by first | exact Nat.le_refl _ | (simp; done) | (simp; omega) | omega))))⟩)
      · have HD : Hid (smB x y = false) := Lib.hid (by simp [smB]; omega)
        (go_enter Try.func43, Try.ntmps43; go_wp2; refine bodyPost_ret (v := .bool false) (by simp [results, Try.results43, go_sem]) rfl ⟨by rw [HD.out], (by repeat (first | exact Below.refl _ _ | refine Below.drew ?_ | refine below_drewN ?_ _ | refine Below.alloc ?_ (by first | exact Nat.le_refl _ | (simp; done) | (simp; omega) | omega) _ | refine Below.setCell ?_ (by first | exact Nat.le_refl _ | (simp; done) | (simp; omega) | omega) _ | refine bExtW ?_ (by first | exact Nat.le_refl _ | (simp; done) | (simp; omega) | omega) | refine Below.trans ?_ (Below.mono (by assumption) (by first | exact Nat.le_refl _ | (simp; done) | (simp; omega) | omega))))⟩)
    · have HD : Hid (smB x y = false) := Lib.hid (by simp [smB]; omega)
      (go_enter Try.func43, Try.ntmps43; go_wp2; refine bodyPost_ret (v := .bool false) (by simp [results, Try.results43, go_sem]) rfl ⟨by rw [HD.out], (by repeat (first | exact Below.refl _ _ | refine Below.drew ?_ | refine below_drewN ?_ _ | refine Below.alloc ?_ (by first | exact Nat.le_refl _ | (simp; done) | (simp; omega) | omega) _ | refine Below.setCell ?_ (by first | exact Nat.le_refl _ | (simp; done) | (simp; omega) | omega) _ | refine bExtW ?_ (by first | exact Nat.le_refl _ | (simp; done) | (simp; omega) | omega) | refine Below.trans ?_ (Below.mono (by assumption) (by first | exact Nat.le_refl _ | (simp; done) | (simp; omega) | omega))))⟩)
  · have HD : Hid (smB x y = false) := Lib.hid (by simp [smB]; omega)
    (go_enter Try.func43, Try.ntmps43; go_wp2; refine bodyPost_ret (v := .bool false) (by simp [results, Try.results43, go_sem]) rfl ⟨by rw [HD.out], (by repeat (first | exact Below.refl _ _ | refine Below.drew ?_ | refine below_drewN ?_ _ | refine Below.alloc ?_ (by first | exact Nat.le_refl _ | (simp; done) | (simp; omega) | omega) _ | refine Below.setCell ?_ (by first | exact Nat.le_refl _ | (simp; done) | (simp; omega) | omega) _ | refine bExtW ?_ (by first | exact Nat.le_refl _ | (simp; done) | (simp; omega) | omega) | refine Below.trans ?_ (Below.mono (by assumption) (by first | exact Nat.le_refl _ | (simp; done) | (simp; omega) | omega))))⟩)
def restR (g : Int) (a b : Z.Pt) (v : Value) : Prop := ∃ p : Z.Pt, v = .agg #[.int .i64 (p.1), .int .i64 (p.2)] ∧ Z.Dvd g b (Z.sub a p) ∧ 2 * nrm g p ≤ nrm g b
set_option maxRecDepth 100000 in
set_option maxHeartbeats 8000000 in
theorem rGcd_ok (g x y x2 y2 : Int) (w : World) (he : fltE g [(x,y),(x2,y2)] = 0) :
    Calls Try.prog 19 #[.int .i64 (g), .agg #[.int .i64 (x), .int .i64 (y)], .agg #[.int .i64 (x2), .int .i64 (y2)]] w (GcdPost g (x,y) (x2,y2) w) := by
  obtain ⟨hg, h2, h3⟩ := fltE_two_ok he
  have HK : Hid (knB g = true) := Lib.hid (by simp [knB]; exact hg)
  have HS1 : Hid (smB x y = true) := Lib.hid (by simp only [smB, decide_eq_true_eq]; exact h2)
  have HS2 : Hid (smB x2 y2 = true) := Lib.hid (by simp only [smB, decide_eq_true_eq]; exact h3)
  have n1 := Z.nrm_bd hg (a := (x,y)) (B := 1048576) (by simp; omega) (by simp; omega)
  have n2 := Z.nrm_bd hg (a := (x2,y2)) (B := 1048576) (by simp; omega) (by simp; omega)
  clear he
  go_enter Try.func19, Try.ntmps19
  (go_wp2_with fail; refine (rGrid_any g _ (by omega)).mono ?_; rintro r w1 ⟨rfl, hb⟩; obtain ⟨E, d, rfl⟩ := bExt hb; clear hb)
  rw [HK.out]
  (go_wp2_with fail; refine (rSmall_any x y _ (by omega) (by omega)).mono ?_; rintro r w1 ⟨rfl, hb⟩; obtain ⟨E, d, rfl⟩ := bExt hb; clear hb)
  rw [HS1.out]
  (go_wp2_with fail; refine (rSmall_any x2 y2 _ (by omega) (by omega)).mono ?_; rintro r w1 ⟨rfl, hb⟩; obtain ⟨E, d, rfl⟩ := bExt hb; clear hb)
  rw [HS2.out]
  go_wp2_with fail
  go_loopw [] (fun wr => ∃ (p q : Z.Pt) (E : Array Obj) (d : Nat), wr = extW (gcdW w p q) E d ∧ nrm g p ≤ 3 * (1048576 * 1048576) ∧ nrm g q ≤ 3 * (1048576 * 1048576) ∧ ∀ d, IsGcd g p q d → IsGcd g (x,y) (x2,y2) d)
    (fun wr => (nrm g (cellInt wr (w.heap.size+1) 0, cellInt wr (w.heap.size+1) 1)).toNat)
  case atStart => exact ⟨(x,y), (x2,y2), _, _, by simp only [extW_extW]; rfl, n1, n2, fun d h => h⟩
  case round =>
    obtain ⟨p, q, E, d, rfl, np, nq, hgcd⟩ := hrel
    have HG := Lib.hid hgcd
    clear hgcd
    obtain ⟨px, py⟩ := p
    obtain ⟨qx, qy⟩ := q
    unfold gcdW
    have bp := ptB_of hg np
    have bq := ptB_of hg nq
    simp only [ptB] at bp bq
    by_cases hx : qx = 0
    · subst hx
      by_cases hy : qy = 0
      · subst hy
        have HGZ := Lib.hid (HG.out _ (IsGcd.zero g (px,py)))
        go_wp2_with fail
        go_loopw [] (fun wr => ∃ (p : Z.Pt) (E : Array Obj) (d : Nat), wr = extW (gcdW w p (0,0)) E d ∧ nrm g p ≤ 3 * (1048576 * 1048576) ∧ IsGcd g (x,y) (x2,y2) p)
          (fun wr => Z.rank g (cellInt wr w.heap.size 0, cellInt wr w.heap.size 1))
        case atStart => exact ⟨(px,py), _, _, rfl, np, HGZ.out⟩
        case round =>
          obtain ⟨⟨ax, ay⟩, E, d, rfl, na, hgc⟩ := hrel
          have HGC := Lib.hid hgc
          have ba := ptB_of hg na
          simp only [ptB] at ba
          clear hgc bp HGZ
          unfold gcdW
          by_cases hx0 : ax = 0
          · subst hx0
            by_cases hy0 : ay = 0
            · subst hy0
              go_wp2
              refine bodyPost_ret (v := .tuple #[.agg #[.int .i64 (0), .int .i64 (0)], .int .i64 0]) (by simp [results, Try.results19, go_sem]) rfl ⟨(0,0), rfl, HGC.out, .inl rfl, na, (by repeat (first | exact Below.refl _ _ | refine Below.drew ?_ | refine below_drewN ?_ _ | refine Below.alloc ?_ (by first | exact Nat.le_refl _ | (simp; done) | (simp; omega) | omega) _ | refine Below.setCell ?_ (by first | exact Nat.le_refl _ | (simp; done) | (simp; omega) | omega) _ | refine bExtW ?_ (by first | exact Nat.le_refl _ | (simp; done) | (simp; omega) | omega) | refine Below.trans ?_ (Below.mono (by assumption) (by first | exact Nat.le_refl _ | (simp; done) | (simp; omega) | omega))))⟩
            · (go_wp2_with fail; refine (rTurned_any g 0 ay _ (by omega) (by omega)).mono ?_; rintro r w1 ⟨rfl, hb⟩; obtain ⟨E', d', rfl⟩ := bExt hb; clear hb; go_wp2; go_roundw; (case rel => exact ⟨Z.turn g (0, ay), _, _, by simp only [extW_extW]; rfl, by rw [Z.nrm_turn hg]; exact na, HGC.out.unit (Z.dvd_tn hg 1 _) (turn_back hg _)⟩); case measure => (rw [cellInt_of (n := (Z.turn g (0, ay)).1) (by simp [go_sem, Z.turn, rtY]), cellInt_of (n := (Z.turn g (0, ay)).2) (by simp [go_sem, Z.turn, rtY]), cellInt_of (n := 0) (by simp [go_sem]), cellInt_of (n := ay) (by simp [go_sem])]; exact Z.rank_turn hg (by intro h; simp at h; omega) (by simp only; omega)))
          · by_cases hx1 : 0 < ax
            · by_cases hy1 : 0 ≤ ay
              · go_wp2
                refine bodyPost_ret (v := .tuple #[.agg #[.int .i64 (ax), .int .i64 (ay)], .int .i64 0]) (by simp [results, Try.results19, go_sem]) rfl ⟨(ax,ay), rfl, HGC.out, .inr ⟨hx1, hy1⟩, na, (by repeat (first | exact Below.refl _ _ | refine Below.drew ?_ | refine below_drewN ?_ _ | refine Below.alloc ?_ (by first | exact Nat.le_refl _ | (simp; done) | (simp; omega) | omega) _ | refine Below.setCell ?_ (by first | exact Nat.le_refl _ | (simp; done) | (simp; omega) | omega) _ | refine bExtW ?_ (by first | exact Nat.le_refl _ | (simp; done) | (simp; omega) | omega) | refine Below.trans ?_ (Below.mono (by assumption) (by first | exact Nat.le_refl _ | (simp; done) | (simp; omega) | omega))))⟩
              · (go_wp2_with fail; refine (rTurned_any g ax ay _ (by omega) (by omega)).mono ?_; rintro r w1 ⟨rfl, hb⟩; obtain ⟨E', d', rfl⟩ := bExt hb; clear hb; go_wp2; go_roundw; (case rel => exact ⟨Z.turn g (ax, ay), _, _, by simp only [extW_extW]; rfl, by rw [Z.nrm_turn hg]; exact na, HGC.out.unit (Z.dvd_tn hg 1 _) (turn_back hg _)⟩); case measure => (rw [cellInt_of (n := (Z.turn g (ax, ay)).1) (by simp [go_sem, Z.turn, rtY]), cellInt_of (n := (Z.turn g (ax, ay)).2) (by simp [go_sem, Z.turn, rtY]), cellInt_of (n := ax) (by simp [go_sem]), cellInt_of (n := ay) (by simp [go_sem])]; exact Z.rank_turn hg (by intro h; simp at h; omega) (by simp only; omega)))
            · (go_wp2_with fail; refine (rTurned_any g ax ay _ (by omega) (by omega)).mono ?_; rintro r w1 ⟨rfl, hb⟩; obtain ⟨E', d', rfl⟩ := bExt hb; clear hb; go_wp2; go_roundw; (case rel => exact ⟨Z.turn g (ax, ay), _, _, by simp only [extW_extW]; rfl, by rw [Z.nrm_turn hg]; exact na, HGC.out.unit (Z.dvd_tn hg 1 _) (turn_back hg _)⟩); case measure => (rw [cellInt_of (n := (Z.turn g (ax, ay)).1) (by simp [go_sem, Z.turn, rtY]), cellInt_of (n := (Z.turn g (ax, ay)).2) (by simp [go_sem, Z.turn, rtY]), cellInt_of (n := ax) (by simp [go_sem]), cellInt_of (n := ay) (by simp [go_sem])]; exact Z.rank_turn hg (by intro h; simp at h; omega) (by simp only; omega)))
      · have HQ : Hid ((0, qy) ≠ ((0,0) : Z.Pt)) := Lib.hid (by simpa using hy)
        go_wp2_with fail
        (refine wp_region_ext_call 4 (restR g (px,py) (0,qy)) _ (by kernel_rfl) (by kernel_rfl) rfl rfl ?_; simp only [List.take_succ_cons, List.take_zero, List.drop_succ_cons, List.drop_zero]; (repeat (first | (refine ext_step (fun K hK => ?_); go_simp; first | (refine hK _ ?_; clear hK K) | (apply Exists.intro; refine ⟨fun _ _ => ?_, hK _ ?_⟩; fail; clear hK K)))); refine wpQuiet_nil ?_)
        refine ⟨fun w hw => ?_, fun v E d hv => ?_⟩
        · obtain ⟨E, d, rfl⟩ := hw
          go_simp
          refine (rest_any g px py 0 qy _ hg HQ.out np nq).mono ?_
          rintro e w' ⟨p, rfl, h1, h2, hb⟩
          obtain ⟨F, k, rfl⟩ := bExt hb
          exact ⟨_, rfl, ⟨p, rfl, h1, h2⟩, _, _, extW_extW _ _ _ _ _⟩
        · obtain ⟨⟨rx, ry⟩, rfl, hdv, hrn⟩ := hv
          have HDV := Lib.hid hdv
          have nr : nrm g (rx,ry) ≤ 3 * (1048576 * 1048576) := by have := Z.nrm_nonneg hg (rx,ry); omega
          have hq1 := Z.nrm_pos hg HQ.out
          clear hdv
          go_wp2
          go_roundw
          case rel =>
            refine ⟨(0, qy), (rx, ry), _, _, by simp only [alloc_extW, extW_extW]; rfl, nq, nr, fun d hd => HG.out d ?_⟩
            obtain ⟨c, hc⟩ := HDV.out
            refine IsGcd.step (q := c) ?_
            rw [← hc]
            have e : Z.sub (px,py) (Z.sub (px,py) (rx,ry)) = (rx,ry) := by apply Z.ext2 <;> simp [Z.sub] <;> omega
            rw [e]; exact hd
          case measure =>
            rw [cellInt_of (n := rx) (by simp [go_sem]), cellInt_of (n := ry) (by simp [go_sem]), cellInt_of (n := 0) (by simp [go_sem]), cellInt_of (n := qy) (by simp [go_sem])]
            have hp := Z.nrm_nonneg hg (rx,ry)
            omega
    · have HQ : Hid ((qx, qy) ≠ ((0,0) : Z.Pt)) := Lib.hid (by simp [hx])
      go_wp2_with fail
      (refine wp_region_ext_call 4 (restR g (px,py) (qx,qy)) _ (by kernel_rfl) (by kernel_rfl) rfl rfl ?_; simp only [List.take_succ_cons, List.take_zero, List.drop_succ_cons, List.drop_zero]; (repeat (first | (refine ext_step (fun K hK => ?_); go_simp; first | (refine hK _ ?_; clear hK K) | (apply Exists.intro; refine ⟨fun _ _ => ?_, hK _ ?_⟩; fail; clear hK K)))); refine wpQuiet_nil ?_)
      refine ⟨fun w hw => ?_, fun v E d hv => ?_⟩
      · obtain ⟨E, d, rfl⟩ := hw
        go_simp
        refine (rest_any g px py qx qy _ hg HQ.out np nq).mono ?_
        rintro e w' ⟨p, rfl, h1, h2, hb⟩
        obtain ⟨F, k, rfl⟩ := bExt hb
        exact ⟨_, rfl, ⟨p, rfl, h1, h2⟩, _, _, extW_extW _ _ _ _ _⟩
      · obtain ⟨⟨rx, ry⟩, rfl, hdv, hrn⟩ := hv
        have HDV := Lib.hid hdv
        have nr : nrm g (rx,ry) ≤ 3 * (1048576 * 1048576) := by have := Z.nrm_nonneg hg (rx,ry); omega
        have hq1 := Z.nrm_pos hg HQ.out
        clear hdv
        go_wp2
        go_roundw
        case rel =>
          refine ⟨(qx, qy), (rx, ry), _, _, by simp only [alloc_extW, extW_extW]; rfl, nq, nr, fun d hd => HG.out d ?_⟩
          obtain ⟨c, hc⟩ := HDV.out
          refine IsGcd.step (q := c) ?_
          rw [← hc]
          have e : Z.sub (px,py) (Z.sub (px,py) (rx,ry)) = (rx,ry) := by apply Z.ext2 <;> simp [Z.sub] <;> omega
          rw [e]; exact hd
        case measure =>
          rw [cellInt_of (n := rx) (by simp [go_sem]), cellInt_of (n := ry) (by simp [go_sem]), cellInt_of (n := qx) (by simp [go_sem]), cellInt_of (n := qy) (by simp [go_sem])]
          have hp := Z.nrm_nonneg hg (rx,ry)
          omega
set_option maxRecDepth 100000 in
set_option maxHeartbeats 8000000 in
theorem rGcd_bad (g x y x2 y2 e : Int) (w : World) (hg : (-9223372036854775808 ≤ g ∧ g ≤ 9223372036854775807)) (h0 : (-9223372036854775808 ≤ x ∧ x ≤ 9223372036854775807)) (h1 : (-9223372036854775808 ≤ y ∧ y ≤ 9223372036854775807)) (h2 : (-9223372036854775808 ≤ x2 ∧ x2 ≤ 9223372036854775807)) (h3 : (-9223372036854775808 ≤ y2 ∧ y2 ≤ 9223372036854775807)) (he : fltE g [(x,y),(x2,y2)] = e) (hne : e ≠ 0) :
    Calls Try.prog 19 #[.int .i64 (g), .agg #[.int .i64 (x), .int .i64 (y)], .agg #[.int .i64 (x2), .int .i64 (y2)]] w fun r w' => r = .returned (.tuple #[.agg #[.int .i64 (0), .int .i64 (0)], .int .i64 (e)]) ∧ Below w.heap.size w w' := by
  cases hk : knB g with
  | false =>
    have e1 : e = 1 := by rw [← he]; simp [fltE, hk]
    subst e1
    have HK := Lib.hid hk
    clear hk he hne
    go_enter Try.func19, Try.ntmps19
    (go_wp2_with fail; refine (rGrid_any g _ (by omega)).mono ?_; rintro r w1 ⟨rfl, hb⟩; obtain ⟨E, d, rfl⟩ := bExt hb; clear hb)
    rw [HK.out]
    go_wp2
    refine bodyPost_ret (v := .tuple #[.agg #[.int .i64 (0), .int .i64 (0)], .int .i64 (1)]) (by simp [results, Try.results19, go_sem]) rfl ⟨rfl, (by repeat (first | exact Below.refl _ _ | refine Below.drew ?_ | refine below_drewN ?_ _ | refine Below.alloc ?_ (by first | exact Nat.le_refl _ | (simp; done) | (simp; omega) | omega) _ | refine Below.setCell ?_ (by first | exact Nat.le_refl _ | (simp; done) | (simp; omega) | omega) _ | refine bExtW ?_ (by first | exact Nat.le_refl _ | (simp; done) | (simp; omega) | omega) | refine Below.trans ?_ (Below.mono (by assumption) (by first | exact Nat.le_refl _ | (simp; done) | (simp; omega) | omega))))⟩
  | true =>
    have hs : smL [(x,y),(x2,y2)] = false := by
      cases hs : smL [(x,y),(x2,y2)] with
      | false => rfl
      | true => exfalso; apply hne; rw [← he]; simp [fltE, hk, hs]
    have e3 : e = 3 := by rw [← he]; simp [fltE, hk, hs]
    subst e3
    have HK := Lib.hid hk
    clear hk he hne
    simp only [smL, List.all_cons, List.all_nil, Bool.and_true] at hs
    cases hs1 : smB x y with
    | false =>
      have HS1 := Lib.hid hs1
      clear hs1 hs
      go_enter Try.func19, Try.ntmps19
      (go_wp2_with fail; refine (rGrid_any g _ (by omega)).mono ?_; rintro r w1 ⟨rfl, hb⟩; obtain ⟨E, d, rfl⟩ := bExt hb; clear hb)
      rw [HK.out]
      (go_wp2_with fail; refine (rSmall_any x y _ (by omega) (by omega)).mono ?_; rintro r w1 ⟨rfl, hb⟩; obtain ⟨E, d, rfl⟩ := bExt hb; clear hb)
      rw [HS1.out]
      go_wp2
      refine bodyPost_ret (v := .tuple #[.agg #[.int .i64 (0), .int .i64 (0)], .int .i64 (3)]) (by simp [results, Try.results19, go_sem]) rfl ⟨rfl, (by repeat (first | exact Below.refl _ _ | refine Below.drew ?_ | refine below_drewN ?_ _ | refine Below.alloc ?_ (by first | exact Nat.le_refl _ | (simp; done) | (simp; omega) | omega) _ | refine Below.setCell ?_ (by first | exact Nat.le_refl _ | (simp; done) | (simp; omega) | omega) _ | refine bExtW ?_ (by first | exact Nat.le_refl _ | (simp; done) | (simp; omega) | omega) | refine Below.trans ?_ (Below.mono (by assumption) (by first | exact Nat.le_refl _ | (simp; done) | (simp; omega) | omega))))⟩
    | true =>
      rw [hs1, Bool.true_and] at hs
      have HS1 := Lib.hid hs1
      have HS2 := Lib.hid hs
      clear hs1 hs
      go_enter Try.func19, Try.ntmps19
      (go_wp2_with fail; refine (rGrid_any g _ (by omega)).mono ?_; rintro r w1 ⟨rfl, hb⟩; obtain ⟨E, d, rfl⟩ := bExt hb; clear hb)
      rw [HK.out]
      (go_wp2_with fail; refine (rSmall_any x y _ (by omega) (by omega)).mono ?_; rintro r w1 ⟨rfl, hb⟩; obtain ⟨E, d, rfl⟩ := bExt hb; clear hb)
      rw [HS1.out]
      (go_wp2_with fail; refine (rSmall_any x2 y2 _ (by omega) (by omega)).mono ?_; rintro r w1 ⟨rfl, hb⟩; obtain ⟨E, d, rfl⟩ := bExt hb; clear hb)
      rw [HS2.out]
      go_wp2
      refine bodyPost_ret (v := .tuple #[.agg #[.int .i64 (0), .int .i64 (0)], .int .i64 (3)]) (by simp [results, Try.results19, go_sem]) rfl ⟨rfl, (by repeat (first | exact Below.refl _ _ | refine Below.drew ?_ | refine below_drewN ?_ _ | refine Below.alloc ?_ (by first | exact Nat.le_refl _ | (simp; done) | (simp; omega) | omega) _ | refine Below.setCell ?_ (by first | exact Nat.le_refl _ | (simp; done) | (simp; omega) | omega) _ | refine bExtW ?_ (by first | exact Nat.le_refl _ | (simp; done) | (simp; omega) | omega) | refine Below.trans ?_ (Below.mono (by assumption) (by first | exact Nat.le_refl _ | (simp; done) | (simp; omega) | omega))))⟩
end Go.Proofs.Ytnjheiiohfhckaa
