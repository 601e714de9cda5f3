/- What follows from strands' colours, found by going over a picture again and again: no program in sight. -/
import Derived.Test.YticplgjpflaelaaEfN
namespace Go.Proofs.Yticplgjpflaelaa
open Go.RowKit
set_option linter.unusedVariables false
set_option linter.unusedSimpArgs false
namespace Ef
theorem crs_xy (W : Nat) (cs : List Int) {x : Nat} (y : Nat) (h : x < W) : crs W cs x (W + y) = some (cs.getD (y * W + x) 0) := by
  unfold crs
  rw [if_pos ⟨h, Nat.le_add_right _ _⟩, Nat.add_sub_cancel_left]
/-- q follows from p. -/
structure FInv (W : Nat) (cs p q : List Int) : Prop where
  ext : Extd p q
  good : Good q
  least : ∀ r, Good r → Extd p r → Closed W cs r → Extd q r
theorem FInv.start {W : Nat} {cs p : List Int} (h : Good p) : FInv W cs p p := ⟨Extd.refl p, h, fun _ _ h _ => h⟩
theorem FInv.conflict {W i j : Nat} {cs p q : List Int} {v : Int} (h : FInv W cs p q) (hi : i < q.length) (hj : j < q.length) (hx : crs W cs i j = some v) (h0 : 0 ≤ g q i) (h1 : 0 ≤ g q j) (h2 : g q i ≠ v) (h3 : g q j ≠ v) : Never W cs p := fun r hg he hc => by
  have h4 := h.least r hg he hc
  have e1 := h4.2 i hi h0
  have e2 := h4.2 j hj h1
  rcases hc i (by rw [h4.1]; exact hi) (by rw [e1]; exact h0) j v (by rw [h4.1]; exact hj) hx with h5 | h5
  · exact h2 (by rw [← e1, h5])
  · exact h3 (by rw [← e2, h5])
theorem FInv.step {W i j : Nat} {cs p q : List Int} {v : Int} (h : FInv W cs p q) (hi : i < q.length) (hj : j < q.length) (hx : crs W cs j i = some v) (h0 : 0 ≤ g q j) (h1 : g q i < 0) (h2 : g q j ≠ v) (v0 : 0 ≤ v) (v1 : v < 62) : FInv W cs p (q.set i v) := by
  refine ⟨h.ext.trans ⟨set_len _ _ _, fun k hk hk0 => ?_⟩, fun k hk => ?_, fun r hg he hc => ?_⟩
  · rw [g_set q i k v hi]
    by_cases e : k = i
    · subst e; omega
    · rw [if_neg e]
  · rw [set_len] at hk
    rw [g_set q i k v hi]
    split
    · omega
    · exact h.good k hk
  · have h4 := h.least r hg he hc
    have e1 := h4.2 j hj h0
    have h6 : g r i = v := by
      rcases hc j (by rw [h4.1]; exact hj) (by rw [e1]; exact h0) i v (by rw [h4.1]; exact hi) hx with h5 | h5
      · exact absurd (e1.symm.trans h5) h2
      · exact h5
    refine ⟨by rw [set_len]; exact h4.1, fun k hk hk0 => ?_⟩
    rw [set_len] at hk
    rw [g_set q i k v hi] at hk0 ⊢
    by_cases e : k = i
    · subst e; rw [if_pos rfl]; exact h6
    · rw [if_neg e] at hk0 ⊢; exact h4.2 k hk hk0
theorem FInv.done {W H : Nat} {cs p q : List Int} (h : FInv W cs p q) (hl : q.length = W + H) (hs : ∀ x y, x < W → y < H → g q x = cs.getD (y * W + x) 0 ∨ g q (W + y) = cs.getD (y * W + x) 0 ∨ (g q x < 0 ∧ g q (W + y) < 0)) : Least W cs p q := by
  refine ⟨h.ext, fun a ha ha0 b v hb hv => ?_, h.good, h.least⟩
  rw [hl] at ha hb
  unfold crs at hv
  by_cases c1 : a < W ∧ W ≤ b
  · rw [if_pos c1] at hv
    injection hv with hv
    obtain ⟨y, rfl⟩ : ∃ y, b = W + y := ⟨b - W, by omega⟩
    rw [Nat.add_sub_cancel_left] at hv
    rcases hs a y c1.1 (by omega) with h1 | h1 | h1
    · left; rw [h1, hv]
    · right; rw [h1, hv]
    · omega
  · rw [if_neg c1] at hv
    by_cases c2 : b < W ∧ W ≤ a
    · rw [if_pos c2] at hv
      injection hv with hv
      obtain ⟨y, rfl⟩ : ∃ y, a = W + y := ⟨a - W, by omega⟩
      rw [Nat.add_sub_cancel_left] at hv
      rcases hs b y c2.1 (by omega) with h1 | h1 | h1
      · right; rw [h1, hv]
      · left; rw [h1, hv]
      · omega
    · rw [if_neg c2] at hv; cases hv
theorem g_left {E P : List Int} {x : Nat} (h : x < E.length) : g (E ++ P) x = E.getD x 0 := by
  unfold g
  rw [List.getD_eq_getElem?_getD, List.getElem?_append_left h, List.getD_eq_getElem?_getD, List.getElem?_eq_getElem h]; rfl
theorem g_right {E P : List Int} {W y : Nat} (hW : E.length = W) (h : y < P.length) : g (E ++ P) (W + y) = P.getD y 0 := by
  unfold g
  rw [List.getD_eq_getElem?_getD, List.getElem?_append_right (by omega), List.getD_eq_getElem?_getD, show W + y - E.length = y by omega, List.getElem?_eq_getElem h]; rfl
theorem set_left {E P : List Int} {x : Nat} {v : Int} (h : x < E.length) : (E ++ P).set x v = E.set x v ++ P := List.set_append_left _ _ h
theorem set_right {E P : List Int} {W y : Nat} {v : Int} (hW : E.length = W) : (E ++ P).set (W + y) v = E ++ P.set y v := by
  rw [List.set_append_right _ _ (by omega)]
  congr 2; omega
/-- So far nothing is to be done at the first places of row y, nor in the rows ahead of it. -/
def swept (W : Nat) (cs : List Int) (E P : List Int) (y x : Nat) : Prop := ∀ i j, i < W → (j < y ∨ (j = y ∧ i < x)) → E.getD i 0 = cs.getD (j * W + i) 0 ∨ P.getD j 0 = cs.getD (j * W + i) 0 ∨ (E.getD i 0 < 0 ∧ P.getD j 0 < 0)
theorem swept.zero (W : Nat) (cs E P : List Int) : swept W cs E P 0 0 := fun i j _ h => by omega
theorem swept.next {W x y : Nat} {cs E P : List Int} (h : swept W cs E P y x) (hx : E.getD x 0 = cs.getD (y * W + x) 0 ∨ P.getD y 0 = cs.getD (y * W + x) 0 ∨ (E.getD x 0 < 0 ∧ P.getD y 0 < 0)) : swept W cs E P y (x + 1) := fun i j hi hj => by
  by_cases e : j = y ∧ i = x
  · obtain ⟨rfl, rfl⟩ := e; exact hx
  · exact h i j hi (by omega)
theorem swept.row {W y : Nat} {cs E P : List Int} (h : swept W cs E P y W) : swept W cs E P (y + 1) 0 := fun i j hi hj => h i j hi (by omega)
theorem swept.done {W H : Nat} {cs p E P : List Int} (h : FInv W cs p (E ++ P)) (hE : E.length = W) (hP : P.length = H) (hs : swept W cs E P H 0) : Least W cs p (E ++ P) :=
  h.done (H := H) (by rw [List.length_append, hE, hP]) fun x y hx hy => by
    rw [g_left (by omega), g_right hE (by omega)]
    exact hs x y hx (.inl hy)
end Ef
end Go.Proofs.Yticplgjpflaelaa
