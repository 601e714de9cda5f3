/- As RegX, for regions whose last operations (from number n on) come in one forced order and may do anything (a store, an append). -/
import Derived.Test.YtpmecoojhjopcaaRegX
namespace Go.Proofs.Ytpmecoojhjopcaa
open Go.RowKit
set_option linter.unusedVariables false
set_option linter.unusedSimpArgs false
section
variable {P : Program} {l : List Oper} {n : Nat} {Q : Exit → Act → World → Prop}
def wpN (P : Program) (l : List Oper) (n : Nat) (Q : Exit → Act → World → Prop) : Nat → Array Bool → Act → World → Prop
  | 0, listed, a, W => Region.seqB .any l.toArray (l.length - n) n listed = true ∧ ∀ E d, wpList P l.toArray Q (l.drop n) a (extW W E d)
  | f + 1, listed, a, W => Region.ready .any l.toArray listed ≠ [] ∧
      ∀ i ∈ Region.ready .any l.toArray listed, i < n ∧ ∀ E d, wpOp P l.toArray Q i (fun a' w' => ExtOf (extW W E d) w' ∧ wpN P l n Q f (listed.setIfInBounds i true) a' w') a (extW W E d)
theorem wpN_grow : ∀ (f : Nat) (listed : Array Bool) (a : Act) (W : World) (E : Array Obj) (d : Nat), wpN P l n Q f listed a W → wpN P l n Q f listed a (extW W E d)
  | 0, listed, a, W, E, d, h => ⟨h.1, fun F e => by rw [extW_extW]; exact h.2 _ _⟩
  | f + 1, listed, a, W, E, d, h => ⟨h.1, fun i hi => ⟨(h.2 i hi).1, fun F e => by
      rw [extW_extW]
      exact (h.2 i hi).2 (E ++ F) e⟩⟩
theorem wpN_ext {f : Nat} {listed : Array Bool} {a : Act} {W w : World} (h : wpN P l n Q f listed a W) (hw : ExtOf W w) : wpN P l n Q f listed a w := by
  obtain ⟨E, d, rfl⟩ := hw
  exact wpN_grow f listed a W E d h
theorem wpAny_of_N : ∀ (f : Nat) (listed : Array Bool) (a : Act) (W : World), wpN P l n Q f listed a W → wpAny P .any l.toArray Q (f + (l.length - n)) listed a W
  | 0, listed, a, W, h => by
    have h2 := h.2 #[] W.drawn
    rw [extW_self] at h2
    have := wpAny_of_seq (P := P) (md := .any) (Q' := Q) (l.drop n) n listed a W (fun j => by simp [List.getElem?_drop]) (by rw [List.length_drop]; exact h.1) h2
    rw [List.length_drop] at this
    rwa [Nat.zero_add]
  | f + 1, listed, a, W, h => by
    rw [show f + 1 + (l.length - n) = (f + (l.length - n)) + 1 by omega]
    refine ⟨fun h0 => absurd h0 h.1, fun i hi => ?_⟩
    have := (h.2 i hi).2 #[] W.drawn
    rw [extW_self] at this
    exact wpOp_mono (fun a' w' h' => wpAny_of_N f _ a' w' h'.2) this
theorem wpN_first {i : Nat} {oi : Oper} {v : Value} (hi : l.toArray[i]? = some oi) (hsel : ∀ (j : Nat) (o : Oper) cs b, l.toArray[j]? = some o → o.op ≠ .select cs b)
    (hs : Region.sinkB .any l.toArray n = true) (hc : Region.chainB .any l.toArray n = true) (hn : n < l.toArray.size) (hin : i < n)
    (hQ : ∀ c a w, Q (.panic c) (a.put oi.dst v) w → Q (.panic c) a w) (f : Nat) :
    ∀ (listed : Array Bool) (a : Act) (W : World), HeadInv .any l.toArray n listed →
      (∀ j oj, l.toArray[j]? = some oj → j ≠ i → listed.getD j true = false → (∀ e ∈ oj.after, Region.binds .any e = true → e.on ≠ i) → oi.apart l.toArray oj = true) →
      i ∈ Region.ready .any l.toArray listed → YieldsE P l.toArray oi v a W →
      wpN P l n Q f (listed.setIfInBounds i true) (a.put oi.dst v) W → wpN P l n Q (f + 1) listed a W := by
  induction f with
  | zero =>
    intro listed a W inv _ hr hy H
    refine ⟨List.ne_nil_of_mem hr, fun j hj => ?_⟩
    have hjn : j < n := Nat.lt_of_not_le fun h => tail_waits hs hc hn inv _ i rfl hin (mem_ready.1 hr).1 j h hj
    refine ⟨hjn, fun E d => ?_⟩
    by_cases hji : j = i
    · subst hji; exact hy.wpOp hi E d fun w' hw' => ⟨hw', wpN_ext H hw'.trans'⟩
    · exact absurd (seqB_ready H.1 j (ready_mono hj hji)) (by omega)
  | succ f ih =>
    intro listed a W inv hfree hr hy H
    refine ⟨List.ne_nil_of_mem hr, fun j hj => ?_⟩
    have hjn : j < n := Nat.lt_of_not_le fun h => tail_waits hs hc hn inv _ i rfl hin (mem_ready.1 hr).1 j h hj
    refine ⟨hjn, fun E d => ?_⟩
    by_cases hji : j = i
    · subst hji; exact hy.wpOp hi E d fun w' hw' => ⟨hw', wpN_ext H hw'.trans'⟩
    · have h1 := (H.2 j (ready_mono hj hji)).2 E d
      obtain ⟨hjun, oj, hoj, hall⟩ := mem_ready.1 hj
      have hnot : ∀ e ∈ oj.after, Region.binds .any e = true → e.on ≠ i := by
        intro e he hb heq
        have h1 := hall e he hb
        rw [heq, getD_both (mem_ready.1 hr).1] at h1
        cases h1
      have h2 := wpOp_putY (Y := fun a' => YieldsE P l.toArray oi v a' W) (fun a a' e1 e2 hY E d => (hY E d).of_same e1 e2) hoj (hfree j oj hoj hji hjun hnot) (fun cs b => hsel i oi cs b hi) (fun cs b => hsel j oj cs b hoj) hQ hy h1
      have hfree' : ∀ k ok, l.toArray[k]? = some ok → k ≠ i → (listed.setIfInBounds j true).getD k true = false → (∀ e ∈ ok.after, Region.binds .any e = true → e.on ≠ i) → oi.apart l.toArray ok = true := by
        intro k ok hk hki hun hno
        refine hfree k ok hk hki ?_ hno
        by_cases hjk : j = k
        · subst hjk; exact hjun
        · rwa [getD_set_ne true hjk] at hun
      refine wpOp_mono (fun a' w' h3 => ⟨h3.2.1, ih (listed.setIfInBounds j true) a' w' (inv.set hj hjn) hfree' (ready_mono hr (Ne.symm hji)) (h3.1.grow h3.2.1.trans') ?_⟩) h2
      rw [Array.setIfInBounds_comm _ _ hji]
      exact h3.2.2
/-- What is asked of the region: the last operations wait for all others, one for the other. -/
def statN (l : List Oper) (n : Nat) : Bool := Region.noSelect l.toArray && Region.sinkB .any l.toArray n && Region.chainB .any l.toArray n && decide (n < l.length)
def wpM (P : Program) (l : List Oper) (n : Nat) (Q : Exit → Act → World → Prop) (f : Nat) (listed : Array Bool) (a : Act) (W : World) : Prop := statN l n = true → HeadInv .any l.toArray n listed → wpN P l n Q f listed a W
theorem statN_parts (h : statN l n = true) : Region.noSelect l.toArray = true ∧ Region.sinkB .any l.toArray n = true ∧ Region.chainB .any l.toArray n = true ∧ n < l.toArray.size := by
  unfold statN at h
  simp only [Bool.and_eq_true, decide_eq_true_eq] at h
  exact ⟨h.1.1.1, h.1.1.2, h.1.2, by simpa using h.2⟩
/-- Number i is taken first. -/
theorem wpM_take {i : Nat} {o : Oper} {f : Nat} {listed : Array Bool} {a : Act} {W : World} (hi : l.toArray[i]? = some o)
    (hf : (Region.free .any l.toArray listed i && (Region.ready .any l.toArray listed).contains i && decide (i < n)) = true)
    (hQ : ∀ v c a w, Q (.panic c) (a.put o.dst v) w → Q (.panic c) a w)
    (h : ∀ K : Act → Prop, (∀ a, wpM P l n Q f (listed.setIfInBounds i true) a W → K a) →
      if Region.wanted o (yielded l.toArray a.tmps) then ∃ v, (∀ E d, Oper.quietAt P o a (fun w' => ∃ F e, w' = extW (extW W E d) F e) (extW W E d) v) ∧ K (a.put o.dst v) else K (a.put o.dst undef)) : wpM P l n Q (f + 1) listed a W := by
  intro hst inv
  obtain ⟨s1, s2, s3, s4⟩ := statN_parts hst
  simp only [Bool.and_eq_true, decide_eq_true_eq] at hf
  obtain ⟨⟨h2, h3⟩, hin⟩ := hf
  have hr : i ∈ Region.ready .any l.toArray listed := by simpa using h3
  have h4 := h _ fun _ h => h
  by_cases hw : Region.wanted o (yielded l.toArray a.tmps) = true
  · rw [if_pos hw] at h4
    obtain ⟨v, hv, h5⟩ := h4
    refine wpN_first hi (Region.noSelect_spec s1) s2 s3 s4 hin (hQ v) f listed a W inv (Region.free_spec hi h2) hr (fun E d => .inl ⟨hw, fun w hwC => ?_⟩) (h5 hst (inv.set hr hin))
    obtain ⟨F, e, rfl⟩ := hwC
    rw [extW_extW]
    refine quietAt_mono (fun w' hw' => ?_) (hv (E ++ F) e)
    obtain ⟨F', e', rfl⟩ := hw'
    exact ⟨F ++ F', e', by rw [extW_extW, extW_extW, Array.append_assoc]⟩
  · rw [if_neg hw] at h4
    exact wpN_first hi (Region.noSelect_spec s1) s2 s3 s4 hin (hQ undef) f listed a W inv (Region.free_spec hi h2) hr (fun E d => .inr ⟨by simpa using hw, rfl⟩) (h4 hst (inv.set hr hin))
/-- Number i alone can come up. Behind it: the worlds that have grown since then. -/
theorem wpM_step {i : Nat} {o : Oper} {f : Nat} {listed : Array Bool} {a : Act} {W : World} (hi : l.toArray[i]? = some o) (hr : (decide (Region.ready .any l.toArray listed = [i]) && decide (i < n)) = true)
    (h : ∀ E d, ∀ K : Act → World → Prop, (∀ a' w', ExtOf (extW W E d) w' → wpM P l n Q f (listed.setIfInBounds i true) a' w' → K a' w') →
      if Region.wanted o (yielded l.toArray a.tmps) then Oper.wp P o a (extW W E d) K Q else K (a.put o.dst undef) (extW W E d)) : wpM P l n Q (f + 1) listed a W := by
  intro hst inv
  simp only [Bool.and_eq_true, decide_eq_true_eq] at hr
  obtain ⟨hr, hin⟩ := hr
  refine ⟨by rw [hr]; simp, fun j hj => ?_⟩
  have hji : j = i := by rw [hr] at hj; simpa using hj
  subst hji
  refine ⟨hin, fun E d => ?_⟩
  have h1 := h E d (fun a' w' => ExtOf (extW W E d) w' ∧ wpN P l n Q f (listed.setIfInBounds j true) a' w') (fun a w' he h' => ⟨he, h' hst (inv.set hj hin)⟩)
  unfold wpOp
  simp only [hi]
  by_cases hw : Region.wanted o (yielded l.toArray a.tmps) = true
  · rw [if_pos hw] at h1 ⊢
    exact .inl h1
  · rw [if_neg hw] at h1 ⊢
    exact h1
/-- The last operations. -/
theorem wpM_tail {listed : Array Bool} {a : Act} {W : World} (hs : Region.seqB .any l.toArray (l.length - n) n listed = true) (h : ∀ E d, wpList P l.toArray Q (l.drop n) a (extW W E d)) : wpM P l n Q 0 listed a W := fun _ _ => ⟨hs, h⟩
/-- The beginning. -/
theorem wp_region_M (n : Nat) {id : Nat} {a : Act} {W : World} (hm : P.follows .mixedOrders = true) (hst : statN l n = true) (h : wpM P l n Q n (Array.replicate l.length false) a W) : (Code.region id l.toArray true).wp P Q a W := by
  obtain ⟨_, _, _, s4⟩ := statN_parts hst
  have inv0 : HeadInv .any l.toArray n (Array.replicate l.length false) :=
    ⟨by simp, fun j oj _ hl => (by rw [getD_replicate_false] at hl; cases hl), fun t _ ht => getD_in (by simpa using ht) (getD_replicate_false _ _)⟩
  have h1 := wpN_grow _ _ _ _ #[] (W.drawn + 1) (h hst inv0)
  rw [extW_self] at h1
  have h2 := wpAny_of_N _ _ _ _ h1
  rw [show n + (l.length - n) = l.length by have : n < l.length := by simpa using s4
                                            omega] at h2
  exact wp_region_any hm (by simpa using h2)
end
end Go.Proofs.Ytpmecoojhjopcaa
