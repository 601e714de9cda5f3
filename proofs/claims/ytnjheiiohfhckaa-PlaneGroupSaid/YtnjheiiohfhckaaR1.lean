/- Lemmas and contracts of functions (what each call returns, and that it changes nothing that was there) that the proof of a law of this seat uses; each lemma states its own conditions. -/
import Derived.Test.YtnjheiiohfhckaaT7
import Derived.Test.YtnjheiiohfhckaaReg
namespace Go.Proofs.Ytnjheiiohfhckaa
open Go.RowKit
set_option linter.unusedVariables false
set_option linter.unusedSimpArgs false
def rtY (g x y : Int) : Int := if g = 4 then x else x + y
set_option maxRecDepth 100000 in
set_option maxHeartbeats 400000 in
theorem rTurned_any (g x y : Int) (w : World) (b1 : -1152921504606846976 ≤ x ∧ x ≤ 1152921504606846976) (b2 : -1152921504606846976 ≤ y ∧ y ≤ 1152921504606846976) :
    Calls Try.prog 41 #[.int .i64 (g), .agg #[.int .i64 (x), .int .i64 (y)]] w fun e w' => e = .returned (.agg #[.int .i64 (-y), .int .i64 (rtY g x y)]) ∧ Below w.heap.size w w' := by
  rcases Decidable.em (g = 4) with h6 | h6
  · have HE := Lib.hid (show rtY g x y = x by rw [rtY, if_pos h6])
    subst h6
    go_enter Try.func41, Try.ntmps41
    go_wp2
    refine bodyPost_ret (v := .agg #[.int .i64 (-y), .int .i64 (x)]) (by simp [results, Try.results41, go_sem]) rfl ⟨by rw [HE.out], (by repeat (first | exact Below.refl _ _ | refine Below.drew ?_ | refine below_drewN ?_ _ | refine Below.alloc ?_ (by first | exact Nat.le_refl _ | (simp; done) | (simp; omega) | omega) _ | refine Below.setCell ?_ (by first | exact Nat.le_refl _ | (simp; done) | (simp; omega) | omega) _ | refine bExtW ?_ (by first | exact Nat.le_refl _ | (simp; done) | (simp; omega) | omega) | refine Below.trans ?_ (Below.mono (by assumption) (by first | exact Nat.le_refl _ | (simp; done) | (simp; omega) | omega))))⟩
  · have e2 : (g == 4) = false := by simpa using h6
    have HE := Lib.hid (show rtY g x y = x + y by rw [rtY, if_neg h6])
    clear h6
    go_enter Try.func41, Try.ntmps41
    go_wp2
    refine bodyPost_ret (v := .agg #[.int .i64 (-y), .int .i64 (x+y)]) (by simp [results, Try.results41, go_sem]) rfl ⟨by rw [HE.out], (by repeat (first | exact Below.refl _ _ | refine Below.drew ?_ | refine below_drewN ?_ _ | refine Below.alloc ?_ (by first | exact Nat.le_refl _ | (simp; done) | (simp; omega) | omega) _ | refine Below.setCell ?_ (by first | exact Nat.le_refl _ | (simp; done) | (simp; omega) | omega) _ | refine bExtW ?_ (by first | exact Nat.le_refl _ | (simp; done) | (simp; omega) | omega) | refine Below.trans ?_ (Below.mono (by assumption) (by first | exact Nat.le_refl _ | (simp; done) | (simp; omega) | omega))))⟩
set_option maxRecDepth 100000 in
set_option maxHeartbeats 400000 in
theorem rMirrored_any (g x y : Int) (w : World) (hg : g = 4 ∨ g = 6) (b1 : -1152921504606846976 ≤ x ∧ x ≤ 1152921504606846976) (b2 : -1152921504606846976 ≤ y ∧ y ≤ 1152921504606846976) :
    Calls Try.prog 37 #[.int .i64 (g), .agg #[.int .i64 (x), .int .i64 (y)]] w fun e w' => e = .returned (.agg #[.int .i64 (miX g x y), .int .i64 (-y)]) ∧ Below w.heap.size w w' := by
  rcases hg with rfl | rfl
  · have HE := Lib.hid (show miX 4 x y = x by simp [miX])
    go_enter Try.func37, Try.ntmps37
    go_wp2
    refine bodyPost_ret (v := .agg #[.int .i64 (x), .int .i64 (-y)]) (by simp [results, Try.results37, go_sem]) rfl ⟨by rw [HE.out], (by repeat (first | exact Below.refl _ _ | refine Below.drew ?_ | refine below_drewN ?_ _ | refine Below.alloc ?_ (by first | exact Nat.le_refl _ | (simp; done) | (simp; omega) | omega) _ | refine Below.setCell ?_ (by first | exact Nat.le_refl _ | (simp; done) | (simp; omega) | omega) _ | refine bExtW ?_ (by first | exact Nat.le_refl _ | (simp; done) | (simp; omega) | omega) | refine Below.trans ?_ (Below.mono (by assumption) (by first | exact Nat.le_refl _ | (simp; done) | (simp; omega) | omega))))⟩
  · have HE := Lib.hid (show miX 6 x y = x + y by simp [miX])
    go_enter Try.func37, Try.ntmps37
    go_wp2
    refine bodyPost_ret (v := .agg #[.int .i64 (x+y), .int .i64 (-y)]) (by simp [results, Try.results37, go_sem]) rfl ⟨by rw [HE.out], (by repeat (first | exact Below.refl _ _ | refine Below.drew ?_ | refine below_drewN ?_ _ | refine Below.alloc ?_ (by first | exact Nat.le_refl _ | (simp; done) | (simp; omega) | omega) _ | refine Below.setCell ?_ (by first | exact Nat.le_refl _ | (simp; done) | (simp; omega) | omega) _ | refine bExtW ?_ (by first | exact Nat.le_refl _ | (simp; done) | (simp; omega) | omega) | refine Below.trans ?_ (Below.mono (by assumption) (by first | exact Nat.le_refl _ | (simp; done) | (simp; omega) | omega))))⟩
set_option maxRecDepth 100000 in
set_option maxHeartbeats 400000 in
theorem rplus_any (x y a b : Int) (w : World) (h1 : (-9223372036854775808 ≤ x+a ∧ x+a ≤ 9223372036854775807)) (h2 : (-9223372036854775808 ≤ y+b ∧ y+b ≤ 9223372036854775807)) :
    Calls Try.prog 39 #[.agg #[.int .i64 (x), .int .i64 (y)], .agg #[.int .i64 (a), .int .i64 (b)]] w fun e w' => e = .returned (.agg #[.int .i64 (x+a), .int .i64 (y+b)]) ∧ Below w.heap.size w w' := by
  go_enter Try.func39, Try.ntmps39
  go_wp2
  refine bodyPost_ret (v := .agg #[.int .i64 (x+a), .int .i64 (y+b)]) (by simp [results, Try.results39, go_sem]) rfl ⟨rfl, (by repeat (first | exact Below.refl _ _ | refine Below.drew ?_ | refine below_drewN ?_ _ | refine Below.alloc ?_ (by first | exact Nat.le_refl _ | (simp; done) | (simp; omega) | omega) _ | refine Below.setCell ?_ (by first | exact Nat.le_refl _ | (simp; done) | (simp; omega) | omega) _ | refine bExtW ?_ (by first | exact Nat.le_refl _ | (simp; done) | (simp; omega) | omega) | refine Below.trans ?_ (Below.mono (by assumption) (by first | exact Nat.le_refl _ | (simp; done) | (simp; omega) | omega))))⟩
set_option maxRecDepth 100000 in
set_option maxHeartbeats 400000 in
theorem rscaled_any (n x y : Int) (w : World) (h1 : (-9223372036854775808 ≤ n*x ∧ n*x ≤ 9223372036854775807)) (h2 : (-9223372036854775808 ≤ n*y ∧ n*y ≤ 9223372036854775807)) :
    Calls Try.prog 40 #[.int .i64 (n), .agg #[.int .i64 (x), .int .i64 (y)]] w fun e w' => e = .returned (.agg #[.int .i64 (n*x), .int .i64 (n*y)]) ∧ Below w.heap.size w w' := by
  go_enter Try.func40, Try.ntmps40
  go_wp2
  refine bodyPost_ret (v := .agg #[.int .i64 (n*x), .int .i64 (n*y)]) (by simp [results, Try.results40, go_sem]) rfl ⟨rfl, (by repeat (first | exact Below.refl _ _ | refine Below.drew ?_ | refine below_drewN ?_ _ | refine Below.alloc ?_ (by first | exact Nat.le_refl _ | (simp; done) | (simp; omega) | omega) _ | refine Below.setCell ?_ (by first | exact Nat.le_refl _ | (simp; done) | (simp; omega) | omega) _ | refine bExtW ?_ (by first | exact Nat.le_refl _ | (simp; done) | (simp; omega) | omega) | refine Below.trans ?_ (Below.mono (by assumption) (by first | exact Nat.le_refl _ | (simp; done) | (simp; omega) | omega))))⟩
set_option maxRecDepth 100000 in
set_option maxHeartbeats 8000000 in
theorem rProduct_any (g x y x2 y2 : Int) (w : World) (hg : g = 4 ∨ g = 6) (b1 : -1073741824 ≤ x ∧ x ≤ 1073741824) (b2 : -1073741824 ≤ y ∧ y ≤ 1073741824) (b3 : -1073741824 ≤ x2 ∧ x2 ≤ 1073741824) (b4 : -1073741824 ≤ y2 ∧ y2 ≤ 1073741824)  :
    Calls Try.prog 16 #[.int .i64 (g), .agg #[.int .i64 (x), .int .i64 (y)], .agg #[.int .i64 (x2), .int .i64 (y2)]] w fun e w' =>
      e = .returned (.agg #[.int .i64 (tmX x y x2 y2), .int .i64 (tmY g x y x2 y2)]) ∧ Below w.heap.size w w' := by
  have m1 := mul_bd b1.1 b1.2 b3.1 b3.2
  have m3 := mul_bd (a := y) (b := -y2) b2.1 b2.2 (B := 1073741824) (by omega) (by omega)
  have m5 := mul_bd b1.1 b1.2 b4.1 b4.2
  have hr : -2147483648 ≤ rtY g x2 y2 ∧ rtY g x2 y2 ≤ 2147483648 := by unfold rtY; split <;> omega
  have m7 := mul_bd b2.1 b2.2 (b := rtY g x2 y2) (B := 2147483648) (by omega) (by omega)
  have HX := Lib.hid (show tmX x y x2 y2 = x * x2 + y * (-y2) by unfold tmX; rw [Int.mul_neg]; omega)
  have HY := Lib.hid (show tmY g x y x2 y2 = x * y2 + y * rtY g x2 y2 by
    unfold tmY rtY
    rcases hg with rfl | rfl
    · simp
    · simp [Int.mul_add]; omega)
  go_enter Try.func16, Try.ntmps16
  go_wp2_with fail
  (refine wp_region_ext_tail 11 (by kernel_rfl) (by kernel_rfl) ?_; simp only [List.take_succ_cons, List.take_zero, List.drop_succ_cons, List.drop_zero]; (repeat (first | (refine ext_step (fun K hK => ?_); go_simp; first | (refine hK _ ?_; clear hK K) | (apply Exists.intro; refine ⟨fun _ _ => ?_, hK _ ?_⟩; (first | (go_at_call 41; exact extOf (rTurned_any g x2 y2 _ (by omega) (by omega))) | (go_at_call 40; exact extOf (rscaled_any _ _ _ _ (by omega) (by omega))) | (go_at_call 39; exact extOf (rplus_any _ _ _ _ _ (by omega) (by omega)))); clear hK K)))); refine wpQuiet_nil ?_; intro E d)
  go_wp2
  refine bodyPost_ret (v := .agg #[.int .i64 (x * x2 + y * (-y2)), .int .i64 (x * y2 + y * rtY g x2 y2)]) (by simp [results, Try.results16, go_sem]) rfl ⟨by rw [HX.out, HY.out], (by repeat (first | exact Below.refl _ _ | refine Below.drew ?_ | refine below_drewN ?_ _ | refine Below.alloc ?_ (by first | exact Nat.le_refl _ | (simp; done) | (simp; omega) | omega) _ | refine Below.setCell ?_ (by first | exact Nat.le_refl _ | (simp; done) | (simp; omega) | omega) _ | refine bExtW ?_ (by first | exact Nat.le_refl _ | (simp; done) | (simp; omega) | omega) | refine Below.trans ?_ (Below.mono (by assumption) (by first | exact Nat.le_refl _ | (simp; done) | (simp; omega) | omega))))⟩
end Go.Proofs.Ytnjheiiohfhckaa
