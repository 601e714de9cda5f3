/- Lemmas and contracts of functions (what each call returns, and that it changes nothing that was there) that the proof of a law of this seat uses; each lemma states its own conditions. -/
import Derived.Test.YtoooihoaapfjeaaRf2
namespace Go.Proofs.Ytoooihoaapfjeaa
open Go.RowKit
set_option linter.unusedVariables false
set_option linter.unusedSimpArgs false
open Go.Shelf
attribute [local go_sem] Oper.semAt_some
/-- What has been turned when these rows, and of row y the first x, are done. -/
def tC (W H : Nat) (bs : List Bool) (pre : List (Fin H)) (y x : Nat) (p : Nat) : Bool :=
  (decide (p % H ∈ pre.map Fin.val) || (decide (p % H = y) && decide (p / H < x))) && bs.getD ((p % H) * W + p / H) false
theorem tC_step {W H : Nat} {bs : List Bool} {pre : List (Fin H)} {y x p : Nat} (hy : y < H) (hp : p ≠ x * H + y) : tC W H bs pre y (x+1) p = tC W H bs pre y x p := by
  unfold tC
  by_cases e : p % H = y
  · have hx : p / H ≠ x := by
      intro hx
      apply hp
      have := Nat.div_add_mod p H
      rw [e, hx, Nat.mul_comm] at this
      omega
    have : (p / H < x + 1) ↔ (p / H < x) := by omega
    simp [this]
  · simp [e]
theorem tC_new {W H : Nat} {bs : List Bool} {pre : List (Fin H)} {y x : Nat} (hy : y < H) : tC W H bs pre y (x+1) (x * H + y) = bs.getD (y * W + x) false := by
  unfold tC
  have h1 : (x * H + y) % H = y := by rw [Nat.mul_comm, Nat.mul_add_mod, Nat.mod_eq_of_lt hy]
  have h2 : (x * H + y) / H = x := by rw [Nat.mul_comm, Nat.mul_add_div (by omega), Nat.div_eq_of_lt hy]; omega
  rw [h1, h2]; simp
theorem tC_row {W H : Nat} {bs : List Bool} {pre : List (Fin H)} {y : Fin H} {p : Nat} (hp : p < W * H) : tC W H bs pre y W p = tC W H bs (pre ++ [y]) 0 0 p := by
  unfold tC
  have h : p / H < W := Nat.div_lt_of_lt_mul (by rw [Nat.mul_comm]; exact hp)
  simp [h, List.mem_append]
theorem tC_zero {W H : Nat} {bs : List Bool} {pre : List (Fin H)} {y p : Nat} : tC W H bs pre y 0 p = tC W H bs pre 0 0 p := by
  unfold tC; simp
theorem tC_all {W H : Nat} {bs : List Bool} {p : Nat} (hp : p < W * H) : tC W H bs (List.finRange H) 0 0 p = (turnL W H bs).getD p false := by
  have hH : 0 < H := by rcases Nat.eq_zero_or_pos H with h | h; · subst h; simp at hp
                        · exact h
  unfold tC turnL
  have h1 : p % H ∈ (List.finRange H).map Fin.val := by
    rw [List.mem_map]; exact ⟨⟨p % H, Nat.mod_lt _ hH⟩, List.mem_finRange _, rfl⟩
  have e : ((List.range (W * H)).map fun p => bs.getD ((p % H) * W + p / H) false).getD p false = bs.getD ((p % H) * W + p / H) false := by
    rw [List.getD_eq_getElem?_getD, List.getElem?_map, List.getElem?_range hp]; rfl
  rw [e, decide_eq_true h1]; simp
def TurnedPost (W H : Nat) (bs : List Bool) (w : World) (r : Ending) (w' : World) : Prop :=
  ∃ g, r = .returned (.tuple #[.agg #[.int .i64 (H), .int .i64 (W), .slice (some ⟨g, 0, none⟩) (W*H) (W*H)], .int .i64 (0)]) ∧ OkT w' (some ⟨g, 0, none⟩) (W*H) (W*H) (turnL W H bs) ∧ Below w.heap.size w w'
end Go.Proofs.Ytoooihoaapfjeaa
