/- Lemmas and contracts of functions (what each call returns, and that it changes nothing that was there) that the proof of a law of this seat uses; each lemma states its own conditions. -/
import Derived.Test.YtnjheiiohfhckaaT5
import Derived.Test.YtnjheiiohfhckaaExt
namespace Go.Proofs.Ytnjheiiohfhckaa
open Go.RowKit
set_option linter.unusedVariables false
set_option linter.unusedSimpArgs false
def TE (g x y x2 y2 : Int) : Int := if fltE g [(x,y),(x2,y2)] = 0 then tdE (tmX x y x2 y2) (tmY g x y x2 y2) else fltE g [(x,y),(x2,y2)]
def TX (g x y x2 y2 : Int) : Int := if fltE g [(x,y),(x2,y2)] = 0 then tdX (tmX x y x2 y2) (tmY g x y x2 y2) else 0
def TY (g x y x2 y2 : Int) : Int := if fltE g [(x,y),(x2,y2)] = 0 then tdY (tmX x y x2 y2) (tmY g x y x2 y2) else 0
theorem Times_any (g x y x2 y2 : Int) (w : World) (h0 : (-9223372036854775808 ≤ x ∧ x ≤ 9223372036854775807)) (h1 : (-9223372036854775808 ≤ y ∧ y ≤ 9223372036854775807)) (h2 : (-9223372036854775808 ≤ x2 ∧ x2 ≤ 9223372036854775807)) (h3 : (-9223372036854775808 ≤ y2 ∧ y2 ≤ 9223372036854775807)) :
    Calls Try.prog 12 #[.int .i64 (g), .agg #[.int .i64 (x), .int .i64 (y)], .agg #[.int .i64 (x2), .int .i64 (y2)]] w fun r w' => r = .returned (.tuple #[.agg #[.int .i64 (TX g x y x2 y2), .int .i64 (TY g x y x2 y2)], .int .i64 (TE g x y x2 y2)]) ∧ Below w.heap.size w w' := by
  by_cases h : fltE g [(x,y),(x2,y2)] = 0
  · refine (Times_ok g x y x2 y2 w h).mono ?_
    rintro r w' ⟨rfl, hb⟩
    exact ⟨by simp [TX, TY, TE, h], hb⟩
  · refine (Times_bad g x y x2 y2 _ w h0 h1 h2 h3 rfl h).mono ?_
    rintro r w' ⟨rfl, hb⟩
    exact ⟨by simp [TX, TY, TE, h], hb⟩
def NE (g x y : Int) : Int := fltE g [(x,y)]
def NV (g x y : Int) : Int := if fltE g [(x,y)] = 0 then tmX x y (miX g x y) (-y) else 0
set_option maxRecDepth 100000 in
set_option maxHeartbeats 400000 in
theorem Norm_any (g x y : Int) (w : World) (h0 : (-9223372036854775808 ≤ x ∧ x ≤ 9223372036854775807)) (h1 : (-9223372036854775808 ≤ y ∧ y ≤ 9223372036854775807)) :
    Calls Try.prog 13 #[.int .i64 (g), .agg #[.int .i64 (x), .int .i64 (y)]] w fun r w' => r = .returned (.tuple #[.int .i64 (NV g x y), .int .i64 (NE g x y)]) ∧ Below w.heap.size w w' := by
  have HW := Lib.hid (one_wf h0 h1)
  clear h0 h1
  by_cases he : fltE g [(x,y)] = 0
  · obtain ⟨h1, h2⟩ := fltE_one_ok he
    have HE := Lib.hid he
    have HP : Hid (Ending.returned (.tuple #[.int .i64 (NV g x y), .int .i64 (NE g x y)]) = Ending.returned (.tuple #[.int .i64 (tmX x y (miX g x y) (-y)), .int .i64 (0)])) := Lib.hid (by simp [NV, NE, he])
    clear he h1
    go_enter Try.func13, Try.ntmps13
    go_wp2_with fail
    refine (fault_any g (w.heap.size+1) 1 1 [(x,y)] _ rfl (by simp) (one_cells (by simp [go_sem]) (by simp [go_sem])) HW.out (by omega)).mono ?_
    rintro e w1 ⟨rfl, hb1⟩
    rw [HE.out]
    obtain ⟨E1, d1, rfl⟩ := bExt hb1; clear hb1
    go_wp2_with fail
    refine (norm_any g x y _ (by omega) (by omega)).mono ?_
    rintro e w1 ⟨rfl, hb2⟩
    obtain ⟨E2, d2, rfl⟩ := bExt hb2; clear hb2
    go_wp2
    go_ret2
    exact ⟨HP.out.symm, (by repeat (first | exact Below.refl _ _ | refine Below.drew ?_ | refine below_drewN ?_ _ | refine Below.alloc ?_ (by first | exact Nat.le_refl _ | (simp; done) | (simp; omega) | omega) _ | refine Below.setCell ?_ (by first | exact Nat.le_refl _ | (simp; done) | (simp; omega) | omega) _ | refine bExtW ?_ (by first | exact Nat.le_refl _ | (simp; done) | (simp; omega) | omega) | refine Below.trans ?_ (Below.mono (by assumption) (by first | exact Nat.le_refl _ | (simp; done) | (simp; omega) | omega))))⟩
  · have hb : (fltE g [(x,y)] != 0) = true := by simpa using he
    have HP : Hid (Ending.returned (.tuple #[.int .i64 (NV g x y), .int .i64 (NE g x y)]) = Ending.returned (.tuple #[.int .i64 (0), .int .i64 (fltE g [(x,y)])])) := Lib.hid (by simp [NV, NE, he])
    clear he
    go_enter Try.func13, Try.ntmps13
    go_wp2_with fail
    refine (fault_any g (w.heap.size+1) 1 1 [(x,y)] _ rfl (by simp) (one_cells (by simp [go_sem]) (by simp [go_sem])) HW.out (by omega)).mono ?_
    rintro e w1 ⟨rfl, hb1⟩
    obtain ⟨E1, d1, rfl⟩ := bExt hb1; clear hb1
    go_wp2
    go_ret2
    exact ⟨HP.out.symm, (by repeat (first | exact Below.refl _ _ | refine Below.drew ?_ | refine below_drewN ?_ _ | refine Below.alloc ?_ (by first | exact Nat.le_refl _ | (simp; done) | (simp; omega) | omega) _ | refine Below.setCell ?_ (by first | exact Nat.le_refl _ | (simp; done) | (simp; omega) | omega) _ | refine bExtW ?_ (by first | exact Nat.le_refl _ | (simp; done) | (simp; omega) | omega) | refine Below.trans ?_ (Below.mono (by assumption) (by first | exact Nat.le_refl _ | (simp; done) | (simp; omega) | omega))))⟩
set_option maxRecDepth 100000 in
set_option maxHeartbeats 400000 in
theorem alive1_any (w : World) :
    Calls Try.prog 11 #[] w fun r w' => r = .returned (.bool true) ∧ Below w.heap.size w w' := by
  have HX : Hid (TX 6 0 1 0 1 = -1) := Lib.hid (by decide)
  have HY : Hid (TY 6 0 1 0 1 = 1) := Lib.hid (by decide)
  have HE : Hid (TE 6 0 1 0 1 = 0) := Lib.hid (by decide)
  go_enter Try.func11, Try.ntmps11
  go_wp2_with fail
  refine (Times_any 6 0 1 0 1 _ (by omega) (by omega) (by omega) (by omega)).mono ?_
  rintro r w1 ⟨rfl, hb1⟩
  rw [HX.out, HY.out, HE.out]
  obtain ⟨E1, d1, rfl⟩ := bExt hb1; clear hb1
  go_wp2
  go_ret
  exact ⟨rfl, (by repeat (first | exact Below.refl _ _ | refine Below.drew ?_ | refine below_drewN ?_ _ | refine Below.alloc ?_ (by first | exact Nat.le_refl _ | (simp; done) | (simp; omega) | omega) _ | refine Below.setCell ?_ (by first | exact Nat.le_refl _ | (simp; done) | (simp; omega) | omega) _ | refine bExtW ?_ (by first | exact Nat.le_refl _ | (simp; done) | (simp; omega) | omega) | refine Below.trans ?_ (Below.mono (by assumption) (by first | exact Nat.le_refl _ | (simp; done) | (simp; omega) | omega))))⟩
end Go.Proofs.Ytnjheiiohfhckaa
