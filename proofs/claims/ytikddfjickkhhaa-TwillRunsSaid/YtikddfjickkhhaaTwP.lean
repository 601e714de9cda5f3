/- Twills as lists of truths: no program in sight. -/
import Derived.Test.YtikddfjickkhhaaTwM
namespace Go.Proofs.Ytikddfjickkhhaa.Tw
set_option linter.unusedVariables false
set_option linter.unusedSimpArgs false
/-- The sum of the first k runs. -/
def sumTo (zs : List Int) : Nat → Int
  | 0 => 0
  | k + 1 => sumTo zs k + zs.getD k 0
/-- All runs are right. -/
def runsOk (zs : List Int) : Prop := ∀ j, j < zs.length → 1 ≤ zs.getD j 0 ∧ zs.getD j 0 ≤ 64
instance (zs : List Int) : Decidable (runsOk zs) := by unfold runsOk; exact inferInstance
/-- What is wrong with a twill. -/
def twE (zs : List Int) (move : Int) : Int :=
  if zs.length = 0 ∨ zs.length % 2 = 1 ∨ 16 < zs.length then 5
  else if ¬ runsOk zs then 3
  else if 64 < sumTo zs zs.length then 4
  else if move < 1 ∨ sumTo zs zs.length ≤ move then 3 else 0
theorem twE_3 {zs : List Int} {move : Int} (h1 : ¬ (zs.length = 0 ∨ zs.length % 2 = 1 ∨ 16 < zs.length)) (h : ¬ runsOk zs) : twE zs move = 3 := by
  unfold twE; rw [if_neg h1, if_pos h]
theorem twE_rest {zs : List Int} {move : Int} (h1 : ¬ (zs.length = 0 ∨ zs.length % 2 = 1 ∨ 16 < zs.length)) (h : runsOk zs) : twE zs move = if 64 < sumTo zs zs.length then 4 else if move < 1 ∨ sumTo zs zs.length ≤ move then 3 else 0 := by
  unfold twE; rw [if_neg h1, if_neg (fun hh => hh h)]
/-- The row of the first k runs. -/
def rowTo (zs : List Int) : Nat → List Bool
  | 0 => []
  | k + 1 => rowTo zs k ++ List.replicate (zs.getD k 0).toNat (k % 2 == 0)
theorem sumTo_bd {zs : List Int} (h : runsOk zs) : ∀ k, k ≤ zs.length → (k : Int) ≤ sumTo zs k ∧ sumTo zs k ≤ 64 * k := by
  intro k
  induction k with
  | zero => simp [sumTo]
  | succ k ih =>
    intro hk
    have := ih (by omega)
    have := h k (by omega)
    simp only [sumTo]
    omega
theorem rowTo_len {zs : List Int} (h : runsOk zs) : ∀ k, k ≤ zs.length → ((rowTo zs k).length : Int) = sumTo zs k := by
  intro k
  induction k with
  | zero => simp [rowTo, sumTo]
  | succ k ih =>
    intro hk
    have h1 := ih (by omega)
    have h2 := h k (by omega)
    simp only [rowTo, sumTo, List.length_append, List.length_replicate]
    omega
theorem sumTo_mono {zs : List Int} (h : runsOk zs) {i j : Nat} (hij : i ≤ j) (hj : j ≤ zs.length) : sumTo zs i ≤ sumTo zs j := by
  induction j with
  | zero => have : i = 0 := by omega
            subst this; exact Int.le_refl _
  | succ j ih =>
    by_cases e : i = j + 1
    · subst e; exact Int.le_refl _
    · have h1 := ih (by omega) (by omega)
      have h2 := h j (by omega)
      simp only [sumTo]; omega
/-- Where pick y's end x lies in the row. -/
def plc (n : Nat) (move : Int) (x y : Nat) : Nat := (((x : Int) - y * move) % n).toNat
/-- The first k bits of a twill. -/
def bitsTo (row : List Bool) (n : Nat) (move : Int) (k : Nat) : List Bool := (List.range k).map fun j => row.getD (plc n move (j % n) (j / n)) false
theorem bitsTo_succ (row : List Bool) (n : Nat) (move : Int) (y x : Nat) (hx : x < n) : bitsTo row n move (y * n + x + 1) = bitsTo row n move (y * n + x) ++ [row.getD (plc n move x y) false] := by
  unfold bitsTo
  rw [List.range_succ, List.map_append]
  have h1 : (y * n + x) % n = x := by rw [Nat.mul_comm, Nat.mul_add_mod, Nat.mod_eq_of_lt hx]
  have h2 : (y * n + x) / n = y := by rw [Nat.mul_comm, Nat.mul_add_div (by omega), Nat.div_eq_of_lt hx]; omega
  simp [h1, h2]
theorem bitsTo_len (row : List Bool) (n : Nat) (move : Int) (k : Nat) : (bitsTo row n move k).length = k := by simp [bitsTo]
theorem plc_lt {n : Nat} {move : Int} {x y : Nat} (hn : 0 < n) : plc n move x y < n := by
  unfold plc
  have h1 := Int.emod_nonneg ((x : Int) - y * move) (show (n : Int) ≠ 0 by omega)
  have h2 := Int.emod_lt_of_pos ((x : Int) - y * move) (show (0 : Int) < n by omega)
  omega
/-- Go's way to it. -/
theorem plc_go {n : Nat} {move : Int} {x y : Nat} (hn : 0 < n) : ((((x : Int) - y * move).tmod n + n).tmod n) = (plc n move x y : Nat) := by
  have h1 := Int.emod_nonneg ((x : Int) - y * move) (show (n : Int) ≠ 0 by omega)
  have h2 := Int.lt_tmod_of_pos ((x : Int) - y * move) (show (0 : Int) < n by omega)
  rw [Int.tmod_eq_emod_of_nonneg (by omega), Int.add_emod_right]
  have e : (((x : Int) - y * move).tmod n) % n = ((x : Int) - y * move) % n := by
    have h3 := Int.mul_tdiv_add_tmod ((x : Int) - y * move) n
    have h4 : ((x : Int) - y * move).tmod n = ((x : Int) - y * move) - n * ((x : Int) - y * move).tdiv n := by omega
    rw [h4, Int.sub_mul_emod_self_left]
  rw [e]
  unfold plc
  omega
end Go.Proofs.Ytikddfjickkhhaa.Tw
