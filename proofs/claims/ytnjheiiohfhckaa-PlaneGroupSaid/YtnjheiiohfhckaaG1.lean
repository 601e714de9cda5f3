/- Lemmas and contracts of functions (what each call returns, and that it changes nothing that was there) that the proof of a law of this seat uses; each lemma states its own conditions. -/
import Derived.Test.YtnjheiiohfhckaaR1
import Derived.Test.YtnjheiiohfhckaaZ2
namespace Go.Proofs.Ytnjheiiohfhckaa
open Go.RowKit
set_option linter.unusedVariables false
set_option linter.unusedSimpArgs false
theorem near_t (n m : Int) (hm : 0 < m) (h : n < 0) : (n.tmod m < 0 → n / m = n.tdiv m - 1) ∧ (¬ n.tmod m < 0 → n / m = n.tdiv m) := by
  have e1 := Int.mul_tdiv_add_tmod n m
  have e2 := Int.mul_ediv_add_emod n m
  have b1 := Int.emod_nonneg n (show m ≠ 0 by omega)
  have b2 := Int.emod_lt_of_pos n hm
  have b3 : -m < n.tmod m := by have := Int.lt_tmod_of_pos n hm; omega
  have b4 : n.tmod m ≤ 0 := by
    have := Int.tmod_nonneg (a := -n) m (by omega)
    rw [Int.neg_tmod] at this; omega
  generalize n.tdiv m = q at *
  generalize n.tmod m = r at *
  generalize n / m = q' at *
  generalize n % m = r' at *
  have key : m * (q - q') = r' - r := by rw [Int.mul_sub]; omega
  constructor
  · intro hr
    have h1 : m * (q - q') < m * 2 := by omega
    have h2 : m * 0 < m * (q - q') := by omega
    have := Int.lt_of_mul_lt_mul_left h1 (by omega)
    have := Int.lt_of_mul_lt_mul_left h2 (by omega)
    omega
  · intro hr
    have h1 : m * (q - q') < m * 1 := by omega
    have h2 : m * (-1) < m * (q - q') := by omega
    have := Int.lt_of_mul_lt_mul_left h1 (by omega)
    have := Int.lt_of_mul_lt_mul_left h2 (by omega)
    omega
theorem tdiv_le (n m : Int) (hm : 0 < m) (h : n < 0) (hb : -4611686018427387904 ≤ n) : -4611686018427387904 ≤ n.tdiv m ∧ n.tdiv m ≤ 0 := by
  have e1 := Int.mul_tdiv_add_tmod n m
  have h1 : n.tdiv m = -((-n) / m) := by rw [← Int.tdiv_eq_ediv_of_nonneg (by omega), Int.neg_tdiv]; omega
  have h2 := Int.ediv_nonneg (show 0 ≤ -n by omega) (show 0 ≤ m by omega)
  have h3 := Int.ediv_le_self m (show 0 ≤ -n by omega)
  omega
set_option maxRecDepth 100000 in
set_option maxHeartbeats 400000 in
theorem near_any (a b : Int) (w : World) (h1 : -1000000000000000000 ≤ a ∧ a ≤ 1000000000000000000) (h2 : 0 < b) (h3 : b ≤ 1000000000000000000) :
    Calls Try.prog 52 #[.int .i64 (a), .int .i64 (b)] w fun e w' => e = .returned (.int .i64 (Z.near a b)) ∧ w = w' := by
  have hb1 : (1 : Int) ≤ 2 * b := by omega
  have hb0 : ((2 * b) == 0) = false := by simp; omega
  by_cases hn : 0 ≤ 2 * a + b
  · have hm := Int.emod_nonneg (2 * a + b) (show 2 * b ≠ 0 by omega)
    have HE := Lib.hid (show Z.near a b = (2 * a + b) / (2 * b) from rfl)
    have hd := Int.ediv_nonneg hn (show 0 ≤ 2 * b by omega)
    have hd2 := Int.ediv_le_self (2 * b) hn
    go_enter Try.func52, Try.ntmps52
    go_wp2
    go_ret
    exact ⟨by rw [HE.out]; rfl, rfl⟩
  · have ht := near_t (2 * a + b) (2 * b) (by omega) (by omega)
    have hd := tdiv_le (2 * a + b) (2 * b) (by omega) (by omega) (by omega)
    by_cases hm : (2 * a + b).tmod (2 * b) < 0
    · have HE := Lib.hid (show Z.near a b = (2 * a + b).tdiv (2 * b) - 1 from ht.1 hm)
      clear ht hn
      go_enter Try.func52, Try.ntmps52
      go_wp2
      go_ret
      exact ⟨by rw [HE.out]; rfl, rfl⟩
    · have HE := Lib.hid (show Z.near a b = (2 * a + b).tdiv (2 * b) from ht.2 hm)
      clear ht hn
      go_enter Try.func52, Try.ntmps52
      go_wp2
      go_ret
      exact ⟨by rw [HE.out]; rfl, rfl⟩
end Go.Proofs.Ytnjheiiohfhckaa
