/- Regions that draw their order and of which two chains of operations are left, each in its own order, the two interleaved in whatever way: one invariant over how far each chain is. -/
import Derived.Test.YtoooihoaapfjeaaRegX
namespace Go.Proofs.Ytoooihoaapfjeaa
open Go.RowKit
set_option linter.unusedVariables false
set_option linter.unusedSimpArgs false
section
variable {P : Program} {ops : Array Oper} {md : Region.Mode} {Q : Exit → Act → World → Prop}
/-- What has come up: the first i of A, the first j of B. -/
def lstAB (base : Array Bool) (A B : List Nat) (i j : Nat) : Array Bool := (A.take i ++ B.take j).foldl (fun l k => l.setIfInBounds k true) base
/-- The two chains are chains: at each stage just the next ones may come up. -/
def twoB (md : Region.Mode) (ops : Array Oper) (base : Array Bool) (A B : List Nat) : Bool :=
  (List.range (A.length + 1)).all fun i => (List.range (B.length + 1)).all fun j =>
    ((decide (i = A.length) && decide (j = B.length)) || (Region.ready md ops (lstAB base A B i j)).all fun k => (decide (i < A.length) && decide (A[i]? = some k)) || (decide (j < B.length) && decide (B[j]? = some k))) &&
    ((decide (i = A.length) && decide (j = B.length)) || !(Region.ready md ops (lstAB base A B i j)).isEmpty) &&
    (decide (i = A.length) || decide ((lstAB base A B i j).setIfInBounds (A.getD i 0) true = lstAB base A B (i + 1) j)) &&
    (decide (j = B.length) || decide ((lstAB base A B i j).setIfInBounds (B.getD j 0) true = lstAB base A B i (j + 1)))
theorem wpAny_two {base : Array Bool} {A B : List Nat} {g : Nat} (hB : twoB md ops base A B = true) (I : Nat → Nat → Act → World → Prop)
    (hA : ∀ i j a w, i < A.length → j ≤ B.length → I i j a w → wpOp P ops Q (A.getD i 0) (fun a' w' => I (i + 1) j a' w') a w)
    (hB2 : ∀ i j a w, i ≤ A.length → j < B.length → I i j a w → wpOp P ops Q (B.getD j 0) (fun a' w' => I i (j + 1) a' w') a w)
    (hend : ∀ a w, I A.length B.length a w → wpAny P md ops Q g (lstAB base A B A.length B.length) a w) (f : Nat) :
    ∀ i j a w, (A.length - i) + (B.length - j) = f → i ≤ A.length → j ≤ B.length → I i j a w → wpAny P md ops Q (f + g) (lstAB base A B i j) a w := by
  induction f with
  | zero =>
    intro i j a w hf hi hj h
    obtain rfl : i = A.length := by omega
    obtain rfl : j = B.length := by omega
    rw [Nat.zero_add]
    exact hend a w h
  | succ f ih =>
    intro i j a w hf hi hj h
    unfold twoB at hB
    have h1 := List.all_eq_true.1 (List.all_eq_true.1 hB i (List.mem_range.2 (by omega))) j (List.mem_range.2 (by omega))
    simp only [Bool.and_eq_true, Bool.or_eq_true, decide_eq_true_eq] at h1
    obtain ⟨⟨⟨c1, c2⟩, c3⟩, c4⟩ := h1
    have hne : ¬ (i = A.length ∧ j = B.length) := by omega
    have c1' := List.all_eq_true.1 (c1.resolve_left hne)
    have c2' := c2.resolve_left hne
    rw [show f + 1 + g = (f + g) + 1 by omega]
    refine ⟨fun h0 => by rw [h0] at c2'; simp at c2', fun k hk => ?_⟩
    have hk2 := c1' k hk
    simp only [Bool.and_eq_true, Bool.or_eq_true, decide_eq_true_eq] at hk2
    rcases hk2 with ⟨hlt, e⟩ | ⟨hlt, e⟩
    · have hg : A.getD i 0 = k := by rw [List.getD_eq_getElem?_getD, e]; rfl
      have c3' := c3.resolve_left (by omega)
      rw [hg] at c3'
      have h2 := hA i j a w hlt hj h
      rw [hg] at h2
      refine wpOp_mono (fun a' w' h' => ?_) h2
      rw [c3']
      exact ih (i + 1) j a' w' (by omega) (by omega) hj h'
    · have hg : B.getD j 0 = k := by rw [List.getD_eq_getElem?_getD, e]; rfl
      have c4' := c4.resolve_left (by omega)
      rw [hg] at c4'
      have h2 := hB2 i j a w hi hlt h
      rw [hg] at h2
      refine wpOp_mono (fun a' w' h' => ?_) h2
      rw [c4']
      exact ih i (j + 1) a' w' (by omega) hi (by omega) h'
end
end Go.Proofs.Ytoooihoaapfjeaa
