/- Lemmas and contracts of functions (what each call returns, and that it changes nothing that was there) that the proof of a law of this seat uses; each lemma states its own conditions. -/
import Derived.Test.YtnjheiiohfhckaaT4
import Derived.Test.YtnjheiiohfhckaaExt
namespace Go.Proofs.Ytnjheiiohfhckaa
open Go.RowKit
set_option linter.unusedVariables false
set_option linter.unusedSimpArgs false
theorem fltE_two (g x y x2 y2 : Int) : fltE g [(x,y),(x2,y2)] = if ¬ (g = 4 ∨ g = 6) then 1 else if ¬ ((-1048576 ≤ x ∧ x ≤ 1048576 ∧ -1048576 ≤ y ∧ y ≤ 1048576) ∧ (-1048576 ≤ x2 ∧ x2 ≤ 1048576 ∧ -1048576 ≤ y2 ∧ y2 ≤ 1048576)) then 3 else 0 := by
  simp only [fltE, knB, smL, smB, List.all_cons, List.all_nil, Bool.and_true, decide_eq_false_iff_not, Bool.and_eq_false_iff, Decidable.not_and_iff_or_not]
theorem fltE_one (g x y : Int) : fltE g [(x,y)] = if ¬ (g = 4 ∨ g = 6) then 1 else if ¬ (-1048576 ≤ x ∧ x ≤ 1048576 ∧ -1048576 ≤ y ∧ y ≤ 1048576) then 3 else 0 := by
  simp only [fltE, knB, smL, smB, List.all_cons, List.all_nil, Bool.and_true, decide_eq_false_iff_not]
theorem fltE_two_ok {g x y x2 y2 : Int} (h : fltE g [(x,y),(x2,y2)] = 0) : (g = 4 ∨ g = 6) ∧ (-1048576 ≤ x ∧ x ≤ 1048576 ∧ -1048576 ≤ y ∧ y ≤ 1048576) ∧ (-1048576 ≤ x2 ∧ x2 ≤ 1048576 ∧ -1048576 ≤ y2 ∧ y2 ≤ 1048576) := by
  rw [fltE_two] at h
  split at h
  · omega
  · split at h <;> omega
theorem fltE_one_ok {g x y : Int} (h : fltE g [(x,y)] = 0) : (g = 4 ∨ g = 6) ∧ (-1048576 ≤ x ∧ x ≤ 1048576 ∧ -1048576 ≤ y ∧ y ≤ 1048576) := by
  rw [fltE_one] at h
  split at h
  · omega
  · split at h <;> omega

set_option maxRecDepth 100000 in
set_option maxHeartbeats 400000 in
theorem Times_bad (g x y x2 y2 e : Int) (w : World) (h0 : (-9223372036854775808 ≤ x ∧ x ≤ 9223372036854775807)) (h1 : (-9223372036854775808 ≤ y ∧ y ≤ 9223372036854775807)) (h2 : (-9223372036854775808 ≤ x2 ∧ x2 ≤ 9223372036854775807)) (h3 : (-9223372036854775808 ≤ y2 ∧ y2 ≤ 9223372036854775807)) (he : fltE g [(x,y),(x2,y2)] = e) (hne : e ≠ 0) :
    Calls Try.prog 12 #[.int .i64 (g), .agg #[.int .i64 (x), .int .i64 (y)], .agg #[.int .i64 (x2), .int .i64 (y2)]] w fun r w' => r = .returned (.tuple #[.agg #[.int .i64 (0), .int .i64 (0)], .int .i64 (e)]) ∧ Below w.heap.size w w' := by
  have HW := Lib.hid (two_wf h0 h1 h2 h3)
  clear h0 h1 h2 h3
  have HE := Lib.hid he
  clear he
  have hb : (e != 0) = true := by simpa using hne
  clear hne
  go_enter Try.func12, Try.ntmps12
  go_wp2_with fail
  refine (fault_any g (w.heap.size+1+1+1) 2 2 [(x,y),(x2,y2)] _ rfl (by simp) (two_cells (by simp [go_sem]) (by simp [go_sem]) (by simp [go_sem]) (by simp [go_sem])) HW.out (by omega)).mono ?_
  rintro e w1 ⟨rfl, hb1⟩
  rw [HE.out]
  obtain ⟨E1, d1, rfl⟩ := bExt hb1; clear hb1
  go_wp2
  refine bodyPost_ret (v := .tuple #[.agg #[.int .i64 (0), .int .i64 (0)], .int .i64 (e)]) (by simp [results, Try.results12, go_sem]) rfl ⟨rfl, (by repeat (first | exact Below.refl _ _ | refine Below.drew ?_ | refine below_drewN ?_ _ | refine Below.alloc ?_ (by first | exact Nat.le_refl _ | (simp; done) | (simp; omega) | omega) _ | refine Below.setCell ?_ (by first | exact Nat.le_refl _ | (simp; done) | (simp; omega) | omega) _ | refine bExtW ?_ (by first | exact Nat.le_refl _ | (simp; done) | (simp; omega) | omega) | refine Below.trans ?_ (Below.mono (by assumption) (by first | exact Nat.le_refl _ | (simp; done) | (simp; omega) | omega))))⟩

set_option maxRecDepth 100000 in
set_option maxHeartbeats 400000 in
theorem Times_ok (g x y x2 y2 : Int) (w : World) (he : fltE g [(x,y),(x2,y2)] = 0)  :
    Calls Try.prog 12 #[.int .i64 (g), .agg #[.int .i64 (x), .int .i64 (y)], .agg #[.int .i64 (x2), .int .i64 (y2)]] w fun r w' => r = .returned (.tuple #[.agg #[.int .i64 (tdX (tmX x y x2 y2) (tmY g x y x2 y2)), .int .i64 (tdY (tmX x y x2 y2) (tmY g x y x2 y2))], .int .i64 (tdE (tmX x y x2 y2) (tmY g x y x2 y2))]) ∧ Below w.heap.size w w' := by
  obtain ⟨h1, h2, h3⟩ := fltE_two_ok he
  have HW := Lib.hid (two_wf (x := x) (y := y) (x2 := x2) (y2 := y2) (by omega) (by omega) (by omega) (by omega))
  have HE := Lib.hid he
  clear he h1
  have m1 := mul_bd h2.1 h2.2.1 h3.1 h3.2.1
  have m2 := mul_bd h2.2.2.1 h2.2.2.2 h3.2.2.1 h3.2.2.2
  have m3 := mul_bd h2.1 h2.2.1 h3.2.2.1 h3.2.2.2
  have m4 := mul_bd h2.2.2.1 h2.2.2.2 h3.1 h3.2.1
  have t1 : -10000000000000 ≤ tmX x y x2 y2 ∧ tmX x y x2 y2 ≤ 10000000000000 := by unfold tmX; omega
  have t2 : -10000000000000 ≤ tmY g x y x2 y2 ∧ tmY g x y x2 y2 ≤ 10000000000000 := by unfold tmY; split <;> omega
  clear m1 m2 m3 m4
  go_enter Try.func12, Try.ntmps12
  go_wp2_with fail
  refine (fault_any g (w.heap.size+1+1+1) 2 2 [(x,y),(x2,y2)] _ rfl (by simp) (two_cells (by simp [go_sem]) (by simp [go_sem]) (by simp [go_sem]) (by simp [go_sem])) HW.out (by omega)).mono ?_
  rintro e w1 ⟨rfl, hb1⟩
  rw [HE.out]
  obtain ⟨E1, d1, rfl⟩ := bExt hb1; clear hb1
  go_wp2_with fail
  refine (times_any g x y x2 y2 _ (by omega) (by omega) (by omega) (by omega)).mono ?_
  rintro e w1 ⟨rfl, hb2⟩
  obtain ⟨E2, d2, rfl⟩ := bExt hb2; clear hb2
  go_wp2_with fail
  refine (told_any _ _ _ (by omega) (by omega)).mono ?_
  rintro e w1 ⟨rfl, hb3⟩
  obtain ⟨E3, d3, rfl⟩ := bExt hb3; clear hb3
  go_wp2
  refine bodyPost_ret (v := .tuple #[.agg #[.int .i64 (tdX (tmX x y x2 y2) (tmY g x y x2 y2)), .int .i64 (tdY (tmX x y x2 y2) (tmY g x y x2 y2))], .int .i64 (tdE (tmX x y x2 y2) (tmY g x y x2 y2))]) (by simp [results, Try.results12, go_sem]) rfl ⟨rfl, (by repeat (first | exact Below.refl _ _ | refine Below.drew ?_ | refine below_drewN ?_ _ | refine Below.alloc ?_ (by first | exact Nat.le_refl _ | (simp; done) | (simp; omega) | omega) _ | refine Below.setCell ?_ (by first | exact Nat.le_refl _ | (simp; done) | (simp; omega) | omega) _ | refine bExtW ?_ (by first | exact Nat.le_refl _ | (simp; done) | (simp; omega) | omega) | refine Below.trans ?_ (Below.mono (by assumption) (by first | exact Nat.le_refl _ | (simp; done) | (simp; omega) | omega))))⟩
end Go.Proofs.Ytnjheiiohfhckaa
