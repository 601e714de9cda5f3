/- Lemmas and contracts of functions (what each call returns, and that it changes nothing that was there) that the proof of a law of this seat uses; each lemma states its own conditions. -/
import Derived.Test.YtooilennejakhaaB18
namespace Go.Proofs.Ytooilennejakhaa
open Go.RowKit
set_option linter.unusedVariables false
set_option linter.unusedSimpArgs false
open Z (IsGcd Normal nrm Mv To lin mir okT idm both bothT)
def wE (g t x y : Int) : Int := if fltE g [(x,y)] ≠ 0 then fltE g [(x,y)] else if t < 0 ∨ g ≤ t then 3 else 0
set_option maxRecDepth 100000 in
set_option maxHeartbeats 8000000 in
theorem Wrong_any (g t x y : Int) (f : Bool) (w : World) (hw : (-9223372036854775808 ≤ g ∧ g ≤ 9223372036854775807)) (ht : (-9223372036854775808 ≤ t ∧ t ≤ 9223372036854775807)) (h0 : (-9223372036854775808 ≤ x ∧ x ≤ 9223372036854775807)) (h1 : (-9223372036854775808 ≤ y ∧ y ≤ 9223372036854775807)) :
    Calls Try.prog 40 #[.int .i64 (g), .agg #[.int .i64 (t), .bool (f), .int .i64 (x), .int .i64 (y)]] w fun e w' => e = .returned (.int .i64 (wE g t x y)) ∧ Below w.heap.size w w' := by
  have HW := Lib.hid (one_wf h0 h1)
  clear h0 h1
  by_cases he : fltE g [(x,y)] = 0
  · have HE := Lib.hid he
    by_cases ha : t < 0
    · have HT : Hid (wE g t x y = 3) := Lib.hid (by simp [wE, he, ha])
      clear he
      go_enter Try.func40, Try.ntmps40
      go_wp2_with fail
      refine (fault_any g (w.heap.size+1) 1 1 [(x,y)] _ rfl (by simp) (one_cells (by simp [go_sem]) (by simp [go_sem])) HW.out (by omega)).mono ?_
      rintro e w1 ⟨rfl, hb1⟩
      obtain ⟨E1, d1, rfl⟩ := bExt hb1; clear hb1
      rw [HE.out]
      go_wp2
      go_ret
      exact ⟨by rw [HT.out]; rfl, (by repeat (first | exact Below.refl _ _ | refine Below.drew ?_ | refine below_drewN ?_ _ | refine Below.alloc ?_ (by first | exact Nat.le_refl _ | (simp; done) | (simp; omega) | omega) _ | refine Below.setCell ?_ (by first | exact Nat.le_refl _ | (simp; done) | (simp; omega) | omega) _ | refine bExtW ?_ (by first | exact Nat.le_refl _ | (simp; done) | (simp; omega) | omega) | refine Below.trans ?_ (Below.mono (by assumption) (by first | exact Nat.le_refl _ | (simp; done) | (simp; omega) | omega))))⟩
    · by_cases hb : g ≤ t
      · have HT : Hid (wE g t x y = 3) := Lib.hid (by simp [wE, he, hb])
        clear he
        go_enter Try.func40, Try.ntmps40
        go_wp2_with fail
        refine (fault_any g (w.heap.size+1) 1 1 [(x,y)] _ rfl (by simp) (one_cells (by simp [go_sem]) (by simp [go_sem])) HW.out (by omega)).mono ?_
        rintro e w1 ⟨rfl, hb1⟩
        obtain ⟨E1, d1, rfl⟩ := bExt hb1; clear hb1
        rw [HE.out]
        go_wp2
        go_ret
        exact ⟨by rw [HT.out]; rfl, (by repeat (first | exact Below.refl _ _ | refine Below.drew ?_ | refine below_drewN ?_ _ | refine Below.alloc ?_ (by first | exact Nat.le_refl _ | (simp; done) | (simp; omega) | omega) _ | refine Below.setCell ?_ (by first | exact Nat.le_refl _ | (simp; done) | (simp; omega) | omega) _ | refine bExtW ?_ (by first | exact Nat.le_refl _ | (simp; done) | (simp; omega) | omega) | refine Below.trans ?_ (Below.mono (by assumption) (by first | exact Nat.le_refl _ | (simp; done) | (simp; omega) | omega))))⟩
      · have HT : Hid (wE g t x y = 0) := Lib.hid (by simp [wE, he, ha, hb])
        clear he
        go_enter Try.func40, Try.ntmps40
        go_wp2_with fail
        refine (fault_any g (w.heap.size+1) 1 1 [(x,y)] _ rfl (by simp) (one_cells (by simp [go_sem]) (by simp [go_sem])) HW.out (by omega)).mono ?_
        rintro e w1 ⟨rfl, hb1⟩
        obtain ⟨E1, d1, rfl⟩ := bExt hb1; clear hb1
        rw [HE.out]
        go_wp2
        go_ret
        exact ⟨by rw [HT.out]; rfl, (by repeat (first | exact Below.refl _ _ | refine Below.drew ?_ | refine below_drewN ?_ _ | refine Below.alloc ?_ (by first | exact Nat.le_refl _ | (simp; done) | (simp; omega) | omega) _ | refine Below.setCell ?_ (by first | exact Nat.le_refl _ | (simp; done) | (simp; omega) | omega) _ | refine bExtW ?_ (by first | exact Nat.le_refl _ | (simp; done) | (simp; omega) | omega) | refine Below.trans ?_ (Below.mono (by assumption) (by first | exact Nat.le_refl _ | (simp; done) | (simp; omega) | omega))))⟩
  · have hb : (fltE g [(x,y)] != 0) = true := by simpa using he
    have HT : Hid (wE g t x y = fltE g [(x,y)]) := Lib.hid (by simp [wE, he])
    clear he
    go_enter Try.func40, Try.ntmps40
    go_wp2_with fail
    refine (fault_any g (w.heap.size+1) 1 1 [(x,y)] _ rfl (by simp) (one_cells (by simp [go_sem]) (by simp [go_sem])) HW.out (by omega)).mono ?_
    rintro e w1 ⟨rfl, hb1⟩
    obtain ⟨E1, d1, rfl⟩ := bExt hb1; clear hb1
    go_wp2
    go_ret
    exact ⟨by rw [HT.out]; rfl, (by repeat (first | exact Below.refl _ _ | refine Below.drew ?_ | refine below_drewN ?_ _ | refine Below.alloc ?_ (by first | exact Nat.le_refl _ | (simp; done) | (simp; omega) | omega) _ | refine Below.setCell ?_ (by first | exact Nat.le_refl _ | (simp; done) | (simp; omega) | omega) _ | refine bExtW ?_ (by first | exact Nat.le_refl _ | (simp; done) | (simp; omega) | omega) | refine Below.trans ?_ (Below.mono (by assumption) (by first | exact Nat.le_refl _ | (simp; done) | (simp; omega) | omega))))⟩
theorem wE_zero {g t x y : Int} (h : wE g t x y = 0) : (g = 4 ∨ g = 6) ∧ (-1048576 ≤ x ∧ x ≤ 1048576 ∧ -1048576 ≤ y ∧ y ≤ 1048576) ∧ ∃ n : Nat, t = n ∧ n < g.toNat := by
  unfold wE at h
  split at h
  · exact absurd h (by assumption)
  · rename_i h0
    split at h
    · omega
    · obtain ⟨hg, hs⟩ := fltE_one_ok (Decidable.not_not.1 h0)
      exact ⟨hg, hs, t.toNat, by omega, by omega⟩
theorem nrm_sm {g x y : Int} (hg : Z.G g) (h : -1048576 ≤ x ∧ x ≤ 1048576 ∧ -1048576 ≤ y ∧ y ≤ 1048576) : nrm g (x,y) ≤ 3 * (1048576 * 1048576) := Z.nrm_bd hg (a := (x,y)) (B := 1048576) ⟨h.1, h.2.1⟩ h.2.2
/-- What Apply answers. -/
def apV (g t : Int) (f : Bool) (ox oy x y : Int) : Value :=
  if wE g t ox oy ≠ 0 then .tuple #[.agg #[.int .i64 (0), .int .i64 (0)], .int .i64 (wE g t ox oy)] else if smB x y = false then .tuple #[.agg #[.int .i64 (0), .int .i64 (0)], .int .i64 (3)]
  else .tuple #[.agg #[.int .i64 (tdX (To g ⟨t.toNat,f,(ox,oy)⟩ (x,y)).1 (To g ⟨t.toNat,f,(ox,oy)⟩ (x,y)).2), .int .i64 (tdY (To g ⟨t.toNat,f,(ox,oy)⟩ (x,y)).1 (To g ⟨t.toNat,f,(ox,oy)⟩ (x,y)).2)], .int .i64 (tdE (To g ⟨t.toNat,f,(ox,oy)⟩ (x,y)).1 (To g ⟨t.toNat,f,(ox,oy)⟩ (x,y)).2)]
set_option maxRecDepth 100000 in
set_option maxHeartbeats 8000000 in
theorem Apply_any (g t ox oy x y : Int) (f : Bool) (w : World) (hw : (-9223372036854775808 ≤ g ∧ g ≤ 9223372036854775807)) (ht : (-9223372036854775808 ≤ t ∧ t ≤ 9223372036854775807)) (h0 : (-9223372036854775808 ≤ ox ∧ ox ≤ 9223372036854775807)) (h1 : (-9223372036854775808 ≤ oy ∧ oy ≤ 9223372036854775807)) (h2 : (-9223372036854775808 ≤ x ∧ x ≤ 9223372036854775807)) (h3 : (-9223372036854775808 ≤ y ∧ y ≤ 9223372036854775807)) :
    Calls Try.prog 46 #[.int .i64 (g), .agg #[.int .i64 (t), .bool (f), .int .i64 (ox), .int .i64 (oy)], .agg #[.int .i64 (x), .int .i64 (y)]] w fun e w' => e = .returned (apV g t f ox oy x y) ∧ Below w.heap.size w w' := by
  have HWR := Lib.hid (Wrong_any g t ox oy f)
  by_cases he : wE g t ox oy = 0
  · obtain ⟨hg, hs, n, rfl, hn⟩ := wE_zero he
    have hk : knB g = true := by simp [knB]; exact hg
    cases hz : smB x y with
    | false =>
      have HT : Hid (apV g n f ox oy x y = .tuple #[.agg #[.int .i64 (0), .int .i64 (0)], .int .i64 (3)]) := Lib.hid (by simp [apV, he, hz])
      have HF : Hid (fltE g [(x,y)] = 3) := Lib.hid (by simp [fltE, hk, smL, hz])
      have HE := Lib.hid he
      have HW := Lib.hid (one_wf h2 h3)
      clear he hz hk
      go_enter Try.func46, Try.ntmps46
      (go_wp2_with fail; refine (HWR.out _ hw ht h0 h1).mono ?_; rintro r w1 ⟨rfl, hb⟩; obtain ⟨E, d, rfl⟩ := bExt hb; clear hb)
      rw [HE.out]
      go_wp2_with fail
      refine (fault_any g _ 1 1 [(x,y)] _ rfl (by simp) (one_cells (by simp [go_sem]) (by simp [go_sem])) HW.out (by omega)).mono ?_
      rintro e w1 ⟨rfl, hb1⟩
      obtain ⟨E1, d1, rfl⟩ := bExt hb1; clear hb1
      rw [HF.out]
      go_wp2
      refine bodyPost_ret (v := .tuple #[.agg #[.int .i64 (0), .int .i64 (0)], .int .i64 (3)]) (by simp [results, Try.results46, go_sem]) rfl ⟨by rw [HT.out], (by repeat (first | exact Below.refl _ _ | refine Below.drew ?_ | refine below_drewN ?_ _ | refine Below.alloc ?_ (by first | exact Nat.le_refl _ | (simp; done) | (simp; omega) | omega) _ | refine Below.setCell ?_ (by first | exact Nat.le_refl _ | (simp; done) | (simp; omega) | omega) _ | refine bExtW ?_ (by first | exact Nat.le_refl _ | (simp; done) | (simp; omega) | omega) | refine Below.trans ?_ (Below.mono (by assumption) (by first | exact Nat.le_refl _ | (simp; done) | (simp; omega) | omega))))⟩
    | true =>
      have hz' : -1048576 ≤ x ∧ x ≤ 1048576 ∧ -1048576 ≤ y ∧ y ≤ 1048576 := by simpa [smB] using hz
      have HT : Hid (apV g n f ox oy x y = .tuple #[.agg #[.int .i64 (tdX (To g ⟨n,f,(ox,oy)⟩ (x,y)).1 (To g ⟨n,f,(ox,oy)⟩ (x,y)).2), .int .i64 (tdY (To g ⟨n,f,(ox,oy)⟩ (x,y)).1 (To g ⟨n,f,(ox,oy)⟩ (x,y)).2)], .int .i64 (tdE (To g ⟨n,f,(ox,oy)⟩ (x,y)).1 (To g ⟨n,f,(ox,oy)⟩ (x,y)).2)]) := Lib.hid (by simp [apV, he, hz])
      have HF : Hid (fltE g [(x,y)] = 0) := Lib.hid (by simp [fltE, hk, smL, hz])
      have HE := Lib.hid he
      have HW := Lib.hid (one_wf h2 h3)
      have hb := nrm_sm hg hz'
      have hbo := nrm_sm hg hs
      have hbT := Z.nrm_To hg ⟨n,f,(ox,oy)⟩ (x,y)
      have bT := parts_of hg (p := To g ⟨n,f,(ox,oy)⟩ (x,y)) (by simp only at hbT; omega)
      clear he hz hk hbT hbo
      go_enter Try.func46, Try.ntmps46
      (go_wp2_with fail; refine (HWR.out _ hw ht h0 h1).mono ?_; rintro r w1 ⟨rfl, hb⟩; obtain ⟨E, d, rfl⟩ := bExt hb; clear hb)
      rw [HE.out]
      go_wp2_with fail
      refine (fault_any g _ 1 1 [(x,y)] _ rfl (by simp) (one_cells (by simp [go_sem]) (by simp [go_sem])) HW.out (by omega)).mono ?_
      rintro e w1 ⟨rfl, hb1⟩
      obtain ⟨E1, d1, rfl⟩ := bExt hb1; clear hb1
      rw [HF.out]
      (go_wp2_with fail; refine (apply_any g x y ox oy n f _ hg (by omega) (by omega) (by omega) (by omega)).mono ?_; rintro r w1 ⟨rfl, hb⟩; obtain ⟨E, d, rfl⟩ := bExt hb; clear hb)
      generalize To g ⟨n,f,(ox,oy)⟩ (x,y) = p at *
      (go_wp2_with fail; refine (told_any p.1 p.2 _ (by omega) (by omega)).mono ?_; rintro r w1 ⟨rfl, hb⟩; obtain ⟨E, d, rfl⟩ := bExt hb; clear hb)
      go_wp2
      refine bodyPost_ret (v := .tuple #[.agg #[.int .i64 (tdX p.1 p.2), .int .i64 (tdY p.1 p.2)], .int .i64 (tdE p.1 p.2)]) (by simp [results, Try.results46, go_sem]) rfl ⟨by rw [HT.out], (by repeat (first | exact Below.refl _ _ | refine Below.drew ?_ | refine below_drewN ?_ _ | refine Below.alloc ?_ (by first | exact Nat.le_refl _ | (simp; done) | (simp; omega) | omega) _ | refine Below.setCell ?_ (by first | exact Nat.le_refl _ | (simp; done) | (simp; omega) | omega) _ | refine bExtW ?_ (by first | exact Nat.le_refl _ | (simp; done) | (simp; omega) | omega) | refine Below.trans ?_ (Below.mono (by assumption) (by first | exact Nat.le_refl _ | (simp; done) | (simp; omega) | omega))))⟩
  · have hb : (wE g t ox oy != 0) = true := by simpa using he
    have HT : Hid (apV g t f ox oy x y = .tuple #[.agg #[.int .i64 (0), .int .i64 (0)], .int .i64 (wE g t ox oy)]) := Lib.hid (by simp [apV, he])
    clear he
    go_enter Try.func46, Try.ntmps46
    (go_wp2_with fail; refine (HWR.out _ hw ht h0 h1).mono ?_; rintro r w1 ⟨rfl, hb⟩; obtain ⟨E, d, rfl⟩ := bExt hb; clear hb)
    go_wp2
    refine bodyPost_ret (v := .tuple #[.agg #[.int .i64 (0), .int .i64 (0)], .int .i64 (wE g t ox oy)]) (by simp [results, Try.results46, go_sem]) rfl ⟨by rw [HT.out], (by repeat (first | exact Below.refl _ _ | refine Below.drew ?_ | refine below_drewN ?_ _ | refine Below.alloc ?_ (by first | exact Nat.le_refl _ | (simp; done) | (simp; omega) | omega) _ | refine Below.setCell ?_ (by first | exact Nat.le_refl _ | (simp; done) | (simp; omega) | omega) _ | refine bExtW ?_ (by first | exact Nat.le_refl _ | (simp; done) | (simp; omega) | omega) | refine Below.trans ?_ (Below.mono (by assumption) (by first | exact Nat.le_refl _ | (simp; done) | (simp; omega) | omega))))⟩
end Go.Proofs.Ytooilennejakhaa

namespace Go.Proofs.Ytooilennejakhaa
open Go.RowKit
set_option linter.unusedVariables false
set_option linter.unusedSimpArgs false
open Z (IsGcd Normal nrm Mv To lin mir okT idm both bothT)
theorem lin_unit {g : Int} (hg : Z.G g) (t : Nat) (f : Bool) {z : Z.Pt} (hz : z = (1,0) ∨ z = (0,1)) : (-10 ≤ (lin g t f z).1 ∧ (lin g t f z).1 ≤ 10) ∧ (-10 ≤ (lin g t f z).2 ∧ (lin g t f z).2 ≤ 10) := by
  have h := Z.nrm_lin hg t f z
  have h1 : nrm g z = 1 := by rcases hg with rfl | rfl <;> rcases hz with rfl | rfl <;> decide
  exact Z.part_bd hg (by omega) (by omega)
/-- Fitting finds the move that takes 0, 1 and the turning number there. -/
def fitA (g : Int) (m : Mv) : Z.Pt := To g m (1,0)
def fitB (g : Int) (m : Mv) : Z.Pt := To g m (0,1)
theorem fit_ne {g : Int} (hg : Z.G g) {m : Mv} (hm : okT g m) {i : Nat} {k : Bool} (hi : i < g.toNat) (hne : ¬ (i = m.t ∧ k = m.f)) : ¬ (To g ⟨i,k,m.o⟩ (1,0) = To g m (1,0) ∧ To g ⟨i,k,m.o⟩ (0,1) = To g m (0,1)) := by
  rintro ⟨h1, h2⟩
  exact hne (Z.lin_inj hg hi hm (Z.add_cancel h1) (Z.add_cancel h2))
end Go.Proofs.Ytooilennejakhaa
