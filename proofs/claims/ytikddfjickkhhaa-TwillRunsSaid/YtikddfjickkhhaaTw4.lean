/- Lemmas and contracts of functions (what each call returns, and that it changes nothing that was there) that the proof of a law of this seat uses; each lemma states its own conditions. -/
import Derived.Test.YtikddfjickkhhaaTw3
namespace Go.Proofs.Ytikddfjickkhhaa
open Go.RowKit
set_option linter.unusedVariables false
set_option linter.unusedSimpArgs false
open Tw
/-- Where pick x's point lies. -/
def atV (n k x : Nat) : Int := ((x * k % n : Nat) : Int)
/-- The points of the first j picks are apart. -/
def G1 (n k j : Nat) : Bool := decide (1 < n) && ((List.range j).all fun a => (List.range a).all fun b => atV n k b != atV n k a)
def G2 (n k j i : Nat) : Bool := G1 n k j && ((List.range i).all fun b => atV n k b != atV n k j)
theorem G2_zero (n k j : Nat) : G2 n k j 0 = G1 n k j := by simp [G2]
theorem G2_succ (n k j i : Nat) : G2 n k j (i+1) = (G2 n k j i && (atV n k i != atV n k j)) := by
  unfold G2; rw [List.range_succ, List.all_append, Bool.and_assoc]; simp
theorem G1_succ (n k j : Nat) : G1 n k (j+1) = G2 n k j j := by
  unfold G2 G1; rw [List.range_succ, List.all_append, Bool.and_assoc]; simp
def kOk (n k : Nat) : Bool := decide (1 < k ∧ k + 1 < n)
theorem G1_ok {n k : Nat} (h : mvOk n k) : G1 n k n = true := by
  unfold G1 atV
  simp only [Bool.and_eq_true, decide_eq_true_eq, List.all_eq_true, List.mem_range, bne_iff_ne]
  obtain ⟨h1, h2, h3⟩ := h
  refine ⟨by omega, fun a ha b hb => ?_⟩
  have := inj_of_gcd h3 ha hb
  omega
theorem G1_gcd {n k : Nat} (h : G1 n k n = true) : 1 < n ∧ Nat.gcd n k = 1 := by
  unfold G1 atV at h
  simp only [Bool.and_eq_true, decide_eq_true_eq, List.all_eq_true, List.mem_range, bne_iff_ne] at h
  refine ⟨h.1, ?_⟩
  rcases Classical.em (Nat.gcd n k = 1) with hg | hg
  · exact hg
  · obtain ⟨y, hy, hy0, e⟩ := not_inj h.1 hg
    exact absurd (by omega) (h.2 y hy 0 hy0)
theorem good_fin {n k j : Nat} {b : Bool} (hn : 1 ≤ n) (h : (j = 0 ∧ b = G1 n k n) ∨ (0 < j ∧ G1 n k n = true ∧ b = kOk n k)) (hj : b = false ∨ j = n) : b = decide (mvOk n k) := by
  by_cases hm : mvOk n k
  · have h1 := G1_ok hm
    have h2 : kOk n k = true := by obtain ⟨a, b, _⟩ := hm; simp [kOk]; omega
    rw [decide_eq_true hm]
    rcases h with ⟨_, e⟩ | ⟨_, _, e⟩ <;> simp_all
  · rw [decide_eq_false hm]
    cases b with
    | false => rfl
    | true =>
      exfalso
      rcases h with ⟨e0, e⟩ | ⟨e0, e1, e⟩
      · simp at hj; omega
      · have := G1_gcd e1
        unfold kOk at e
        have e' : 1 < k ∧ k + 1 < n := by simpa using e.symm
        exact hm ⟨by omega, by omega, this.2⟩
theorem atV_step {n k y : Nat} (hk : k < n) (hy : y < n) : (atV n k ((y+1) % n) - atV n k y + n) % n = k := step_eq hk hy
theorem atV_bd {n k y : Nat} (hn : 0 < n) : 0 ≤ atV n k y ∧ atV n k y < n := by
  unfold atV; have : y * k % n < n := Nat.mod_lt _ hn
  omega
theorem satL_get {n k x y : Nat} (hx : x < n) (hy : y < n) : (satL n k).getD (y * n + x) false = decide ((x : Int) = atV n k y) := by
  have hlt : y * n + x < n * n := by
    have : (y + 1) * n ≤ n * n := Nat.mul_le_mul_right n hy
    rw [Nat.add_mul, Nat.one_mul] at this; omega
  unfold satL atV
  rw [List.getD_eq_getElem?_getD, List.getElem?_map, List.getElem?_range hlt]
  have h1 : (y * n + x) % n = x := by rw [Nat.mul_comm, Nat.mul_add_mod, Nat.mod_eq_of_lt hx]
  have h2 : (y * n + x) / n = y := by rw [Nat.mul_comm, Nat.mul_add_div (by omega), Nat.div_eq_of_lt hx]; omega
  simp only [Option.map_some, Option.getD_some, h1, h2]
  congr 1
  apply propext
  omega
set_option maxRecDepth 100000 in
set_option maxHeartbeats 8000000 in
theorem alive7_any (w : World) :
    Calls Try.prog 15 #[] w fun r w' => r = .returned (.bool true) ∧ Below w.heap.size w w' := by
  have HM : Hid (mvOk 5 2) := Lib.hid (by decide)
  go_enter Try.func15, Try.ntmps15
  go_wp2_with fail
  refine (Satin_any 5 2 _ (by omega) (by omega) (by omega)).mono ?_
  rintro r w1 (⟨h, _⟩ | ⟨k, hk, _, A, c, rfl, _, hb⟩)
  · exact absurd HM.out (h 2 rfl)
  have HB := Lib.hid hb
  clear hb hk
  go_wp2
  go_ret
  exact ⟨rfl, (HB.out).alloc HB.out.size _⟩
end Go.Proofs.Ytikddfjickkhhaa
