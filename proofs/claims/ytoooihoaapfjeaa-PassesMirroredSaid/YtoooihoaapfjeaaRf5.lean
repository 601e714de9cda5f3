/- Lemmas and contracts of functions (what each call returns, and that it changes nothing that was there) that the proof of a law of this seat uses; each lemma states its own conditions. -/
import Derived.Test.YtoooihoaapfjeaaRf4
namespace Go.Proofs.Ytoooihoaapfjeaa
open Go.RowKit
set_option linter.unusedVariables false
set_option linter.unusedSimpArgs false
open Go.Shelf
attribute [local go_sem] Oper.semAt_some
/-- What holds in the product when these rows are done, and of row y these of the middle, and of the next one (k) the first x. -/
def pC (H M W : Nat) (aa bb : List Bool) (pre : List (Fin H)) (y : Nat) (pre2 : List (Fin M)) (k x : Nat) (p : Nat) : Bool :=
  (decide (p / W ∈ pre.map Fin.val) && mulB M W aa bb (p / W) (p % W)) ||
  (decide (p / W = y) && ((pre2.any fun k' => aa.getD (p / W * M + k'.val) false && bb.getD (k'.val * W + p % W) false) || (decide (p % W < x) && (aa.getD (p / W * M + k) false && bb.getD (k * W + p % W) false))))
section
variable {H M W : Nat} {aa bb : List Bool} {pre : List (Fin H)} {y : Nat} {pre2 : List (Fin M)} {k x p : Nat}
theorem pC_zero : pC H M W aa bb pre y [] 0 0 p = pC H M W aa bb pre 0 [] 0 0 p := by unfold pC; simp
theorem pC_x0 : pC H M W aa bb pre y pre2 k 0 p = pC H M W aa bb pre y pre2 0 0 p := by unfold pC; simp
theorem pC_row (k : Fin M) (hW : 0 < W) : pC H M W aa bb pre y pre2 k W p = pC H M W aa bb pre y (pre2 ++ [k]) 0 0 p := by
  unfold pC
  have : p % W < W := Nat.mod_lt _ hW
  simp [this, List.any_append]
theorem any_fin (f : Nat → Bool) : ((List.finRange M).any fun k => f k.val) = (List.range M).any f := by
  rw [Bool.eq_iff_iff]
  simp only [List.any_eq_true, List.mem_finRange, true_and, List.mem_range]
  exact ⟨fun ⟨k, h⟩ => ⟨k.val, k.isLt, h⟩, fun ⟨k, hk, h⟩ => ⟨⟨k, hk⟩, h⟩⟩
theorem pC_outer (y : Fin H) : pC H M W aa bb pre y (List.finRange M) 0 0 p = pC H M W aa bb (pre ++ [y]) 0 [] 0 0 p := by
  unfold pC
  rw [any_fin (M := M) (fun k' => aa.getD (p / W * M + k') false && bb.getD (k' * W + p % W) false)]
  simp only [List.map_append, List.mem_append, List.map_cons, List.map_nil, List.mem_singleton]
  unfold mulB
  by_cases h1 : p / W ∈ pre.map Fin.val <;> by_cases h2 : p / W = y.val <;> simp [h1, h2]
  all_goals (intros; simp_all)
theorem pC_step (hW : 0 < W) (hx : x < W) (hp : p ≠ y * W + x ∨ (aa.getD (y * M + k) false && bb.getD (k * W + x) false) = false) : pC H M W aa bb pre y pre2 k (x+1) p = pC H M W aa bb pre y pre2 k x p := by
  unfold pC
  by_cases e : p / W = y
  · by_cases ex : p % W = x
    · have hpe : p = y * W + x := by
        have := Nat.div_add_mod p W
        rw [e, ex, Nat.mul_comm] at this; omega
      rcases hp with hp | hp
      · exact absurd hpe hp
      · rw [e, ex, hp]; simp
    · have : (p % W < x + 1) ↔ (p % W < x) := by omega
      simp [this]
  · simp [e]
theorem pC_new (hW : 0 < W) (hx : x < W) (h : (aa.getD (y * M + k) false && bb.getD (k * W + x) false) = true) : pC H M W aa bb pre y pre2 k (x+1) (y * W + x) = true := by
  unfold pC
  have h1 : (y * W + x) / W = y := by rw [Nat.mul_comm, Nat.mul_add_div hW, Nat.div_eq_of_lt hx]; omega
  have h2 : (y * W + x) % W = x := by rw [Nat.mul_comm, Nat.mul_add_mod, Nat.mod_eq_of_lt hx]
  rw [h1, h2, h]; simp
theorem pC_all (hp : p < W * H) : pC H M W aa bb (List.finRange H) 0 [] 0 0 p = (prodL H M W aa bb).getD p false := by
  have hW : 0 < W := by rcases Nat.eq_zero_or_pos W with h | h; · subst h; simp at hp
                        · exact h
  have hd : p / W < H := Nat.div_lt_of_lt_mul hp
  have h1 : p / W ∈ (List.finRange H).map Fin.val := by
    rw [List.mem_map]; exact ⟨⟨p / W, hd⟩, List.mem_finRange _, rfl⟩
  have e : (prodL H M W aa bb).getD p false = mulB M W aa bb (p / W) (p % W) := by
    unfold prodL
    rw [List.getD_eq_getElem?_getD, List.getElem?_map, List.getElem?_range hp]; rfl
  rw [e]
  unfold pC
  rw [decide_eq_true h1]; simp
end
theorem grownBy_setCellAt (W : World) (b i : Nat) (v : Value) : W.grownBy (W.setCell ⟨b, i, none⟩ v) (some b) :=
  ⟨rfl, rfl, rfl, (KeepsWalks.setCell W _ v).size, fun k _ hk => Below.heap_setCell _ _ _ k (fun e => hk (by rw [e]))⟩
section
variable {w : World} {qb ob g ta rb M H W n1 n2 n : Nat} {a1 : Option Addr} {c1 : Nat} {a2 : Option Addr} {c2 : Nat} {f f' : Nat → Bool} {A B : World}
end
def ProductPost (H M W : Nat) (aa bb : List Bool) (w : World) (r : Ending) (w' : World) : Prop :=
  ∃ g, r = .returned (.tuple #[.agg #[.int .i64 (W), .int .i64 (H), .slice (some ⟨g, 0, none⟩) (W*H) (W*H)], .int .i64 (0)]) ∧ OkT w' (some ⟨g, 0, none⟩) (W*H) (W*H) (prodL H M W aa bb) ∧ Below w.heap.size w w'
end Go.Proofs.Ytoooihoaapfjeaa
