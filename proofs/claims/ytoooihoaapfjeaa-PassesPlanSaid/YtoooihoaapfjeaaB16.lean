/- Lemmas and contracts of functions (what each call returns, and that it changes nothing that was there) that the proof of a law of this seat uses; each lemma states its own conditions. -/
import Derived.Test.YtoooihoaapfjeaaB15
import Derived.Test.YtoooihoaapfjeaaB05
namespace Go.Proofs.Ytoooihoaapfjeaa
open Go.RowKit
set_option linter.unusedVariables false
set_option linter.unusedSimpArgs false
section
variable {P : Program} {ops : Array Oper} {md : Region.Mode} {Q : Exit → Act → World → Prop} {S : World → Prop}
/-- An activation that differs at most in the slots ts. -/
structure SameOff (ts : List Nat) (a0 a : Act) : Prop where
  size : a.tmps.size = a0.tmps.size
  off : ∀ k, k ∉ ts → a.tmps[k]? = a0.tmps[k]?
  defers : a.defers = a0.defers
theorem SameOff.refl (ts : List Nat) (a : Act) : SameOff ts a a := ⟨rfl, fun _ _ => rfl, rfl⟩
theorem SameOff.put {ts : List Nat} {a0 a : Act} {t : Nat} (h : SameOff ts a0 a) (ht : t ∈ ts) (v : Value) : SameOff ts a0 (a.put (some t) v) := by
  refine ⟨by simpa [Act.put] using h.size, fun k hk => ?_, h.defers⟩
  have : t ≠ k := fun e => hk (e ▸ ht)
  simp only [Act.put, Array.getElem?_setIfInBounds, this, if_false]
  exact h.off k hk
theorem fold_put (vs : Nat → Value) : ∀ (ts : List Nat) (a0 : Act), (ts.foldl (fun b t => b.put (some t) (vs t)) a0).defers = a0.defers ∧ (ts.foldl (fun b t => b.put (some t) (vs t)) a0).tmps.size = a0.tmps.size ∧
    ∀ k, (ts.foldl (fun b t => b.put (some t) (vs t)) a0).tmps[k]? = if k ∈ ts ∧ k < a0.tmps.size then some (vs k) else a0.tmps[k]?
  | [], a0 => ⟨rfl, rfl, fun k => by simp⟩
  | t :: ts, a0 => by
    obtain ⟨h1, h2, h3⟩ := fold_put vs ts (a0.put (some t) (vs t))
    refine ⟨h1, by rw [List.foldl_cons, h2]; simp [Act.put], fun k => ?_⟩
    rw [List.foldl_cons, h3 k]
    have hs : (a0.put (some t) (vs t)).tmps.size = a0.tmps.size := by simp [Act.put]
    rw [hs]
    by_cases hk : k ∈ ts ∧ k < a0.tmps.size
    · rw [if_pos hk, if_pos ⟨List.mem_cons_of_mem _ hk.1, hk.2⟩]
    · rw [if_neg hk]
      simp only [Act.put, Array.getElem?_setIfInBounds]
      by_cases e : t = k
      · subst e
        by_cases hl : t < a0.tmps.size
        · simp [hl]
        · simp [hl]
      · have : ¬ (k ∈ t :: ts ∧ k < a0.tmps.size) := fun h => hk ⟨(List.mem_cons.1 h.1).resolve_left (fun x => e x.symm), h.2⟩
        rw [if_neg this, if_neg e]
theorem SameOff.form {ts : List Nat} {a0 a : Act} (h : SameOff ts a0 a) : a = ts.foldl (fun b t => b.put (some t) (a.tmps.getD t undef)) a0 := by
  obtain ⟨h1, h2, h3⟩ := fold_put (fun t => a.tmps.getD t undef) ts a0
  have e1 : a.tmps = (ts.foldl (fun b t => b.put (some t) (a.tmps.getD t undef)) a0).tmps := by
    apply Array.ext_getElem?
    intro k
    rw [h3 k]
    by_cases hk : k ∈ ts
    · by_cases hl : k < a0.tmps.size
      · rw [if_pos ⟨hk, hl⟩]
        have : k < a.tmps.size := by rw [h.size]; exact hl
        simp [Array.getD, this]
      · rw [if_neg fun x => hl x.2, Array.getElem?_eq_none (by rw [h.size]; omega), Array.getElem?_eq_none (by omega)]
    · rw [if_neg fun x => hk x.1]; exact h.off k hk
  generalize ts.foldl (fun b t => b.put (some t) (a.tmps.getD t undef)) a0 = b at *
  cases a; cases b
  simp only [Act.mk.injEq] at *
  exact ⟨e1, by rw [h1]; exact h.defers⟩
theorem put_at {a : Act} {t : Nat} {v : Value} (h : t < a.tmps.size) : (a.put (some t) v).tmps.getD t undef = v := by
  simp [Act.put, Array.getD, h]
theorem put_off {a : Act} {t u : Nat} {v : Value} (h : t ≠ u) : (a.put (some t) v).tmps.getD u undef = a.tmps.getD u undef := by
  simp only [Act.put, Array.getD_eq_getD_getElem?, Array.getElem?_setIfInBounds, h, if_false]
/-- Two chains. -/
theorem anyH_two {listed : Array Bool} {A B : List Nat} {f g : Nat} (hB : twoB md ops listed A B = true) (hf : f = A.length + B.length + g) (ts : List Nat) {a0 : Act} {w0 : World} (R : Nat → Nat → Act → World → Prop)
    (hA : ∀ i j a w, i < A.length → j ≤ B.length → SameOff ts a0 a → S w → R i j a w → wpOp P ops Q (A.getD i 0) (fun a' w' => SameOff ts a0 a' ∧ S w' ∧ R (i + 1) j a' w') a w)
    (hB2 : ∀ i j a w, i ≤ A.length → j < B.length → SameOff ts a0 a → S w → R i j a w → wpOp P ops Q (B.getD j 0) (fun a' w' => SameOff ts a0 a' ∧ S w' ∧ R i (j + 1) a' w') a w)
    (hS : S w0) (h0 : R 0 0 a0 w0) (hend : ∀ a w, SameOff ts a0 a → S w → R A.length B.length a w → wpAnyH P md ops Q S g (lstAB listed A B A.length B.length) a w) : wpAnyH P md ops Q S f listed a0 w0 := by
  have key : ∀ (n i j : Nat) (a : Act) (w : World), (A.length - i) + (B.length - j) = n → i ≤ A.length → j ≤ B.length → SameOff ts a0 a → S w → R i j a w → wpAnyH P md ops Q S (n + g) (lstAB listed A B i j) a w := by
    intro n
    induction n with
    | zero =>
      intro i j a w hf hi hj hs hw h
      obtain rfl : i = A.length := by omega
      obtain rfl : j = B.length := by omega
      rw [Nat.zero_add]
      exact hend a w hs hw h
    | succ n ih =>
      intro i j a w hf hi hj hs hw h
      unfold twoB at hB
      have h1 := List.all_eq_true.1 (List.all_eq_true.1 hB i (List.mem_range.2 (by omega))) j (List.mem_range.2 (by omega))
      simp only [Bool.and_eq_true, Bool.or_eq_true, decide_eq_true_eq] at h1
      obtain ⟨⟨⟨c1, c2⟩, c3⟩, c4⟩ := h1
      have hne : ¬ (i = A.length ∧ j = B.length) := by omega
      have c1' := List.all_eq_true.1 (c1.resolve_left hne)
      have c2' := c2.resolve_left hne
      rw [show n + 1 + g = (n + g) + 1 by omega]
      refine ⟨fun h0 => by rw [h0] at c2'; simp at c2', fun k hk => ?_⟩
      have hk2 := c1' k hk
      simp only [Bool.and_eq_true, Bool.or_eq_true, decide_eq_true_eq] at hk2
      rcases hk2 with ⟨hlt, e⟩ | ⟨hlt, e⟩
      · have hg : A.getD i 0 = k := by rw [List.getD_eq_getElem?_getD, e]; rfl
        have c3' := c3.resolve_left (by omega)
        rw [hg] at c3'
        have h2 := hA i j a w hlt hj hs hw h
        rw [hg] at h2
        refine wpOp_mono (fun a' w' h' => ⟨h'.2.1, ?_⟩) h2
        rw [c3']
        exact ih (i + 1) j a' w' (by omega) (by omega) hj h'.1 h'.2.1 h'.2.2
      · have hg : B.getD j 0 = k := by rw [List.getD_eq_getElem?_getD, e]; rfl
        have c4' := c4.resolve_left (by omega)
        rw [hg] at c4'
        have h2 := hB2 i j a w hi hlt hs hw h
        rw [hg] at h2
        refine wpOp_mono (fun a' w' h' => ⟨h'.2.1, ?_⟩) h2
        rw [c4']
        exact ih i (j + 1) a' w' (by omega) hi (by omega) h'.1 h'.2.1 h'.2.2
  have e0 : lstAB listed A B 0 0 = listed := by simp [lstAB]
  have := key (A.length + B.length) 0 0 a0 w0 (by omega) (by omega) (by omega) (SameOff.refl _ _) hS h0
  rw [e0] at this
  rw [hf]
  exact this
/-- The beginning: all that was there stays as it was. -/
theorem wp_region_H {id : Nat} {a : Act} {W : World} (hm : P.follows .mixedOrders = true) (h : wpAnyH P .any ops Q (ExtOf W) ops.size (Array.replicate ops.size false) a W.drew) : (Code.region id ops true).wp P Q a W :=
  wp_region_any hm (wpAny_of_held _ _ _ _ h)
theorem ext_drew (W : World) : ExtOf W W.drew := ⟨#[], W.drawn + 1, by unfold World.drew extW; simp⟩
/-- Number i is taken first. -/
theorem anyH_take {W : World} {i : Nat} {o : Oper} {f : Nat} {listed : Array Bool} {a : Act} {w : World} (hi : ops[i]? = some o)
    (hf : (Region.noSelect ops && Region.free md ops listed i && (Region.ready md ops listed).contains i) = true)
    (hQ : ∀ v c a w, Q (.panic c) (a.put o.dst v) w → Q (.panic c) a w) (hS : ExtOf W w)
    (h : ∀ K : Act → Prop, (∀ a, wpAnyH P md ops Q (ExtOf W) f (listed.setIfInBounds i true) a w → K a) →
      if Region.wanted o (yielded ops a.tmps) then ∃ v, (∀ E d, (execOp a.eval o).run P (extW W E d) = .ok (.value v) (extW W E d)) ∧ K (a.put o.dst v) else K (a.put o.dst undef)) : wpAnyH P md ops Q (ExtOf W) (f + 1) listed a w := by
  simp only [Bool.and_eq_true] at hf
  obtain ⟨⟨h1, h2⟩, h3⟩ := hf
  have h4 := h _ fun _ h => h
  by_cases hw : Region.wanted o (yielded ops a.tmps) = true
  · rw [if_pos hw] at h4
    obtain ⟨v, hv, h5⟩ := h4
    refine wpAnyH_take hi h1 h2 h3 (hQ v) (.inl ⟨hw, fun w hwC => ?_⟩) hS h5
    obtain ⟨E, d, rfl⟩ := hwC
    exact hv E d
  · rw [if_neg hw] at h4
    exact wpAnyH_take hi h1 h2 h3 (hQ undef) (.inr ⟨by simpa using hw, rfl⟩) hS h4
end
end Go.Proofs.Ytoooihoaapfjeaa

namespace Go.Proofs.Ytoooihoaapfjeaa
open Go.RowKit
set_option linter.unusedVariables false
set_option linter.unusedSimpArgs false
section
variable {P : Program} {ops : Array Oper} {md : Region.Mode} {Q : Exit → Act → World → Prop} {S : World → Prop}
theorem wp_region_HS (S : World → Prop) {id : Nat} {a : Act} {W : World} (hm : P.follows .mixedOrders = true) (h : wpAnyH P .any ops Q S ops.size (Array.replicate ops.size false) a W.drew) : (Code.region id ops true).wp P Q a W :=
  wp_region_any hm (wpAny_of_held _ _ _ _ h)
theorem SameOff.get {ts : List Nat} {a0 a : Act} (h : SameOff ts a0 a) {k : Nat} (hk : k ∉ ts) : a.tmps.getD k undef = a0.tmps.getD k undef := by
  rw [Array.getD_eq_getD_getElem?, Array.getD_eq_getD_getElem?, h.off k hk]
/-- Number i is taken first. -/
theorem anyH_takeS {i : Nat} {o : Oper} {f : Nat} {listed : Array Bool} {a : Act} {w : World} (hi : ops[i]? = some o)
    (hf : (Region.noSelect ops && Region.free md ops listed i && (Region.ready md ops listed).contains i) = true)
    (hQ : ∀ v c a w, Q (.panic c) (a.put o.dst v) w → Q (.panic c) a w) (hS : S w)
    (h : ∀ K : Act → Prop, (∀ a, wpAnyH P md ops Q S f (listed.setIfInBounds i true) a w → K a) →
      if Region.wanted o (yielded ops a.tmps) then ∃ v, (∀ w, S w → (execOp a.eval o).run P w = .ok (.value v) w) ∧ K (a.put o.dst v) else K (a.put o.dst undef)) : wpAnyH P md ops Q S (f + 1) listed a w := by
  simp only [Bool.and_eq_true] at hf
  obtain ⟨⟨h1, h2⟩, h3⟩ := hf
  have h4 := h _ fun _ h => h
  by_cases hw : Region.wanted o (yielded ops a.tmps) = true
  · rw [if_pos hw] at h4
    obtain ⟨v, hv, h5⟩ := h4
    exact wpAnyH_take hi h1 h2 h3 (hQ v) (.inl ⟨hw, hv⟩) hS h5
  · rw [if_neg hw] at h4
    exact wpAnyH_take hi h1 h2 h3 (hQ undef) (.inr ⟨by simpa using hw, rfl⟩) hS h4
/-- Number i alone can come up. -/
theorem anyH_one {i : Nat} {f : Nat} {listed : Array Bool} {a : Act} {w : World} (hr : Region.ready md ops listed = [i])
    (h : wpOp P ops Q i (fun a' w' => S w' ∧ wpAnyH P md ops Q S f (listed.setIfInBounds i true) a' w') a w) : wpAnyH P md ops Q S (f + 1) listed a w :=
  wpAnyH_all hr (by simp) fun j hj => by
    obtain rfl : j = i := by simpa using hj
    exact h
end
/-- 'append(s, l...)' as one operation of a drawn region. -/
theorem app_opG {t e bytes : Nat} {z : Value} (hE : ElemOk t e 1 bytes z) {w : World} {base : Nat} {ops : Array Oper} {i : Nat} {o : Oper} {a : Act} {Q : Exit → Act → World → Prop} {K : Act → World → Prop} (hi : ops[i]? = some o) (hg : o.guard = none) (s x : Operand) (ho : o.op = .call { callee := .builtin .append, args := #[s, x], argTypes := #[t, t] }) (T : Nat) (hd : o.dst = some T)
    (n : Nat) (xs news : List Value) (A : Option Addr) (m c : Nat) (hown : w.ownsRow base e 1 (a.eval s) n xs) (hx : a.eval x = .slice A m c) (hc : A = none → c = 0) (hl : news.length = m)
    (hI : 0 < m → ∃ b of, A = some ⟨b, of, none⟩ ∧ ∀ j u, news[j]? = some u → w.cell? ⟨b, of + j, none⟩ = some u) (h1 : ∀ u ∈ news, u.oneCell' = true) (hb : bytes ≤ 4096) (hn : n + m ≤ 1000000000) (hbase : base ≤ w.heap.size)
    (h : ∀ v' w', w'.ownsRow base e 1 v' (n + m) (xs ++ news) → w.grownBy w' (a.eval s).ownBlock → (v'.ownBlock = (a.eval s).ownBlock ∨ v'.ownBlock = some w.heap.size) → Below base w w' → K (a.put (some T) v') w') : wpOp Try.prog ops Q i K a w :=
  wpOp_list hi hg (wpAppV hE hg s x ho base _ n xs A m c news rfl hown hx hc hl hI h1 hb hn hbase fun v' w' h2 h3 h4 => hd.symm ▸ h v' w' h2 h3 h4 (belowGrown h3 hbase fun k hk => (hown.lt k hk).1))
theorem own_grownG {w w' : World} {base e n : Nat} {u : Value} {xs : List Value} {blk : Option Nat} (h : w.ownsRow base e 1 u n xs) (hg : w.grownBy w' blk) (hne : ∀ k, blk = some k → u.ownBlock ≠ some k) : w'.ownsRow base e 1 u n xs := by
  refine ⟨h.1, ?_⟩
  rcases h.2 with h2 | ⟨g, cap, cur, e, hb, hc, h3⟩
  · exact .inl h2
  · refine .inr ⟨g, cap, cur, e, hb, ?_, h3⟩
    rw [hg.block g (Array.getElem?_eq_some_iff.1 hc).1 (fun e2 => hne g e2.symm (by rw [e]; rfl))]
    exact hc
end Go.Proofs.Ytoooihoaapfjeaa
