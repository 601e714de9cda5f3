/- Regions that draw their order, with two chains of operations that may do anything, the rest taken first: the chains interleaved in whatever way; what is said of them is said of their slots. -/
import Derived.Test.YtoooihoaapfjeaaTwoB
namespace Go.Proofs.Ytoooihoaapfjeaa
open Go.RowKit
set_option linter.unusedVariables false
set_option linter.unusedSimpArgs false
section
variable {P : Program} {ops : Array Oper} {md : Region.Mode} {Q : Exit → Act → World → Prop} {S : World → Prop}
/-- An activation that differs at most in the slots ts. -/
structure SameOff (ts : List Nat) (a0 a : Act) : Prop where
  size : a.tmps.size = a0.tmps.size
  off : ∀ k, k ∉ ts → a.tmps[k]? = a0.tmps[k]?
  defers : a.defers = a0.defers
theorem SameOff.refl (ts : List Nat) (a : Act) : SameOff ts a a := ⟨rfl, fun _ _ => rfl, rfl⟩
theorem SameOff.put {ts : List Nat} {a0 a : Act} {t : Nat} (h : SameOff ts a0 a) (ht : t ∈ ts) (v : Value) : SameOff ts a0 (a.put (some t) v) := by
  refine ⟨by simpa [Act.put] using h.size, fun k hk => ?_, h.defers⟩
  have : t ≠ k := fun e => hk (e ▸ ht)
  simp only [Act.put, Array.getElem?_setIfInBounds, this, if_false]
  exact h.off k hk
theorem fold_put (vs : Nat → Value) : ∀ (ts : List Nat) (a0 : Act), (ts.foldl (fun b t => b.put (some t) (vs t)) a0).defers = a0.defers ∧ (ts.foldl (fun b t => b.put (some t) (vs t)) a0).tmps.size = a0.tmps.size ∧
    ∀ k, (ts.foldl (fun b t => b.put (some t) (vs t)) a0).tmps[k]? = if k ∈ ts ∧ k < a0.tmps.size then some (vs k) else a0.tmps[k]?
  | [], a0 => ⟨rfl, rfl, fun k => by simp⟩
  | t :: ts, a0 => by
    obtain ⟨h1, h2, h3⟩ := fold_put vs ts (a0.put (some t) (vs t))
    refine ⟨h1, by rw [List.foldl_cons, h2]; simp [Act.put], fun k => ?_⟩
    rw [List.foldl_cons, h3 k]
    have hs : (a0.put (some t) (vs t)).tmps.size = a0.tmps.size := by simp [Act.put]
    rw [hs]
    by_cases hk : k ∈ ts ∧ k < a0.tmps.size
    · rw [if_pos hk, if_pos ⟨List.mem_cons_of_mem _ hk.1, hk.2⟩]
    · rw [if_neg hk]
      simp only [Act.put, Array.getElem?_setIfInBounds]
      by_cases e : t = k
      · subst e
        by_cases hl : t < a0.tmps.size
        · simp [hl]
        · simp [hl]
      · have : ¬ (k ∈ t :: ts ∧ k < a0.tmps.size) := fun h => hk ⟨(List.mem_cons.1 h.1).resolve_left (fun x => e x.symm), h.2⟩
        rw [if_neg this, if_neg e]
theorem SameOff.form {ts : List Nat} {a0 a : Act} (h : SameOff ts a0 a) : a = ts.foldl (fun b t => b.put (some t) (a.tmps.getD t undef)) a0 := by
  obtain ⟨h1, h2, h3⟩ := fold_put (fun t => a.tmps.getD t undef) ts a0
  have e1 : a.tmps = (ts.foldl (fun b t => b.put (some t) (a.tmps.getD t undef)) a0).tmps := by
    apply Array.ext_getElem?
    intro k
    rw [h3 k]
    by_cases hk : k ∈ ts
    · by_cases hl : k < a0.tmps.size
      · rw [if_pos ⟨hk, hl⟩]
        have : k < a.tmps.size := by rw [h.size]; exact hl
        simp [Array.getD, this]
      · rw [if_neg fun x => hl x.2, Array.getElem?_eq_none (by rw [h.size]; omega), Array.getElem?_eq_none (by omega)]
    · rw [if_neg fun x => hk x.1]; exact h.off k hk
  generalize ts.foldl (fun b t => b.put (some t) (a.tmps.getD t undef)) a0 = b at *
  cases a; cases b
  simp only [Act.mk.injEq] at *
  exact ⟨e1, by rw [h1]; exact h.defers⟩
theorem put_at {a : Act} {t : Nat} {v : Value} (h : t < a.tmps.size) : (a.put (some t) v).tmps.getD t undef = v := by
  simp [Act.put, Array.getD, h]
theorem put_off {a : Act} {t u : Nat} {v : Value} (h : t ≠ u) : (a.put (some t) v).tmps.getD u undef = a.tmps.getD u undef := by
  simp only [Act.put, Array.getD_eq_getD_getElem?, Array.getElem?_setIfInBounds, h, if_false]
/-- Two chains. -/
theorem anyH_two {listed : Array Bool} {A B : List Nat} {f g : Nat} (hB : twoB md ops listed A B = true) (hf : f = A.length + B.length + g) (ts : List Nat) {a0 : Act} {w0 : World} (R : Nat → Nat → Act → World → Prop)
    (hA : ∀ i j a w, i < A.length → j ≤ B.length → SameOff ts a0 a → S w → R i j a w → wpOp P ops Q (A.getD i 0) (fun a' w' => SameOff ts a0 a' ∧ S w' ∧ R (i + 1) j a' w') a w)
    (hB2 : ∀ i j a w, i ≤ A.length → j < B.length → SameOff ts a0 a → S w → R i j a w → wpOp P ops Q (B.getD j 0) (fun a' w' => SameOff ts a0 a' ∧ S w' ∧ R i (j + 1) a' w') a w)
    (hS : S w0) (h0 : R 0 0 a0 w0) (hend : ∀ a w, SameOff ts a0 a → S w → R A.length B.length a w → wpAnyH P md ops Q S g (lstAB listed A B A.length B.length) a w) : wpAnyH P md ops Q S f listed a0 w0 := by
  have key : ∀ (n i j : Nat) (a : Act) (w : World), (A.length - i) + (B.length - j) = n → i ≤ A.length → j ≤ B.length → SameOff ts a0 a → S w → R i j a w → wpAnyH P md ops Q S (n + g) (lstAB listed A B i j) a w := by
    intro n
    induction n with
    | zero =>
      intro i j a w hf hi hj hs hw h
      obtain rfl : i = A.length := by omega
      obtain rfl : j = B.length := by omega
      rw [Nat.zero_add]
      exact hend a w hs hw h
    | succ n ih =>
      intro i j a w hf hi hj hs hw h
      unfold twoB at hB
      have h1 := List.all_eq_true.1 (List.all_eq_true.1 hB i (List.mem_range.2 (by omega))) j (List.mem_range.2 (by omega))
      simp only [Bool.and_eq_true, Bool.or_eq_true, decide_eq_true_eq] at h1
      obtain ⟨⟨⟨c1, c2⟩, c3⟩, c4⟩ := h1
      have hne : ¬ (i = A.length ∧ j = B.length) := by omega
      have c1' := List.all_eq_true.1 (c1.resolve_left hne)
      have c2' := c2.resolve_left hne
      rw [show n + 1 + g = (n + g) + 1 by omega]
      refine ⟨fun h0 => by rw [h0] at c2'; simp at c2', fun k hk => ?_⟩
      have hk2 := c1' k hk
      simp only [Bool.and_eq_true, Bool.or_eq_true, decide_eq_true_eq] at hk2
      rcases hk2 with ⟨hlt, e⟩ | ⟨hlt, e⟩
      · have hg : A.getD i 0 = k := by rw [List.getD_eq_getElem?_getD, e]; rfl
        have c3' := c3.resolve_left (by omega)
        rw [hg] at c3'
        have h2 := hA i j a w hlt hj hs hw h
        rw [hg] at h2
        refine wpOp_mono (fun a' w' h' => ⟨h'.2.1, ?_⟩) h2
        rw [c3']
        exact ih (i + 1) j a' w' (by omega) (by omega) hj h'.1 h'.2.1 h'.2.2
      · have hg : B.getD j 0 = k := by rw [List.getD_eq_getElem?_getD, e]; rfl
        have c4' := c4.resolve_left (by omega)
        rw [hg] at c4'
        have h2 := hB2 i j a w hi hlt hs hw h
        rw [hg] at h2
        refine wpOp_mono (fun a' w' h' => ⟨h'.2.1, ?_⟩) h2
        rw [c4']
        exact ih i (j + 1) a' w' (by omega) hi (by omega) h'.1 h'.2.1 h'.2.2
  have e0 : lstAB listed A B 0 0 = listed := by simp [lstAB]
  have := key (A.length + B.length) 0 0 a0 w0 (by omega) (by omega) (by omega) (SameOff.refl _ _) hS h0
  rw [e0] at this
  rw [hf]
  exact this
/-- The beginning: all that was there stays as it was. -/
theorem wp_region_H {id : Nat} {a : Act} {W : World} (hm : P.follows .mixedOrders = true) (h : wpAnyH P .any ops Q (ExtOf W) ops.size (Array.replicate ops.size false) a W.drew) : (Code.region id ops true).wp P Q a W :=
  wp_region_any hm (wpAny_of_held _ _ _ _ h)
theorem ext_drew (W : World) : ExtOf W W.drew := ⟨#[], W.drawn + 1, by unfold World.drew extW; simp⟩
/-- Number i is taken first. -/
theorem anyH_take {W : World} {i : Nat} {o : Oper} {f : Nat} {listed : Array Bool} {a : Act} {w : World} (hi : ops[i]? = some o)
    (hf : (Region.noSelect ops && Region.free md ops listed i && (Region.ready md ops listed).contains i) = true)
    (hQ : ∀ v c a w, Q (.panic c) (a.put o.dst v) w → Q (.panic c) a w) (hS : ExtOf W w)
    (h : ∀ K : Act → Prop, (∀ a, wpAnyH P md ops Q (ExtOf W) f (listed.setIfInBounds i true) a w → K a) →
      if Region.wanted o (yielded ops a.tmps) then ∃ v, (∀ E d, (execOp a.eval o).run P (extW W E d) = .ok (.value v) (extW W E d)) ∧ K (a.put o.dst v) else K (a.put o.dst undef)) : wpAnyH P md ops Q (ExtOf W) (f + 1) listed a w := by
  simp only [Bool.and_eq_true] at hf
  obtain ⟨⟨h1, h2⟩, h3⟩ := hf
  have h4 := h _ fun _ h => h
  by_cases hw : Region.wanted o (yielded ops a.tmps) = true
  · rw [if_pos hw] at h4
    obtain ⟨v, hv, h5⟩ := h4
    refine wpAnyH_take hi h1 h2 h3 (hQ v) (.inl ⟨hw, fun w hwC => ?_⟩) hS h5
    obtain ⟨E, d, rfl⟩ := hwC
    exact hv E d
  · rw [if_neg hw] at h4
    exact wpAnyH_take hi h1 h2 h3 (hQ undef) (.inr ⟨by simpa using hw, rfl⟩) hS h4
end
end Go.Proofs.Ytoooihoaapfjeaa
