/- Lemmas and contracts of functions (what each call returns, and that it changes nothing that was there) that the proof of a law of this seat uses; each lemma states its own conditions. -/
import Derived.Test.YtoooihoaapfjeaaAl1
import Derived.Test.YtoooihoaapfjeaaRin
import Derived.Test.YtoooihoaapfjeaaRf2
namespace Go.Proofs.Ytoooihoaapfjeaa
open Go.RowKit
set_option linter.unusedVariables false
set_option linter.unusedSimpArgs false
open Go.Shelf
def aStep (H W : Nat) (bs : List Bool) (st : List (Fin H) × List Nat) (y : Fin H) : List (Fin H) × List Nat :=
  (if fIdx (st.1.map fun z => rowL bs W z.val) (rowL bs W y.val) < st.1.length then st.1 else st.1 ++ [y], st.2 ++ [fIdx (st.1.map fun z => rowL bs W z.val) (rowL bs W y.val)])
def aFold (H W : Nat) (bs : List Bool) (pre : List (Fin H)) : List (Fin H) × List Nat := pre.foldl (aStep H W bs) ([], [])
theorem aFold_snoc (H W : Nat) (bs : List Bool) (pre : List (Fin H)) (y : Fin H) : aFold H W bs (pre ++ [y]) = aStep H W bs (aFold H W bs pre) y := by simp [aFold]
theorem aFold_len' (H W : Nat) (bs : List Bool) (l : List (Fin H)) : ∀ st : List (Fin H) × List Nat, (l.foldl (aStep H W bs) st).2.length = st.2.length + l.length ∧ (l.foldl (aStep H W bs) st).1.length ≤ st.1.length + l.length := by
  induction l with
  | nil => intro st; simp
  | cons y l ih =>
    intro st
    have h := ih (aStep H W bs st y)
    have h1 : (aStep H W bs st y).2.length = st.2.length + 1 := by simp [aStep]
    have h2 : (aStep H W bs st y).1.length ≤ st.1.length + 1 := by unfold aStep; simp only; split <;> simp
    simp only [List.foldl_cons, List.length_cons]
    omega
theorem aFold_len (H W : Nat) (bs : List Bool) (pre : List (Fin H)) : (aFold H W bs pre).2.length = pre.length ∧ (aFold H W bs pre).1.length ≤ pre.length := by
  have := aFold_len' H W bs pre ([], [])
  simpa [aFold] using this
/-- The numbers of the rows. -/
def alikeL (W H : Nat) (bs : List Bool) : List Nat := (aFold H W bs (List.finRange H)).2
theorem alikeL_len (W H : Nat) (bs : List Bool) : (alikeL W H bs).length = H := by unfold alikeL; rw [(aFold_len _ _ _ _).1]; simp
def IntsPost (L : List Nat) (w : World) (r : Ending) (w' : World) : Prop :=
  ∃ A c, r = .returned (.tuple #[.slice A L.length c, .int .i64 (0)]) ∧ IsInts w' A L.length (natI L) ∧ Below w.heap.size w w'
/-- 'append(s, x)' of one element within a round. -/
theorem wpAppIn {l N : Nat} {W : World} {ops : Array Oper} {rest : List Oper} {o : Oper} {a : Act} {Q : Exit → Act → World → Prop} {t e size bytes : Nat} {z : Value} (hE : ElemOk t e size bytes z)
    (hgd : o.guard = none) (s x : Operand) (ho : o.op = .call { callee := .builtin .append, args := #[s, x], argTypes := #[t, t] })
    (base : Nat) (v : Value) (n : Nat) (xs : List Value) (cs : Array Value) (hs : a.eval s = v) (hown : W.ownsRow base e size v n xs)
    (hx : a.eval x = .slice (some ⟨W.heap.size, 0, none⟩) 1 1) (hl : cs.size = size) (h1 : ∀ u ∈ cs.toList, u.oneCell' = true)
    (hb : bytes ≤ 4096) (hn : n ≤ 1000000000) (hbase : base ≤ W.heap.size)
    (h : ∀ v' w', w'.ownsRow base e size v' (n + 1) (xs ++ cs.toList) → (W.alloc (.cells cs e)).grownBy w' v.ownBlock → wpListIn (Fence.wide.inRound l) N Try.prog ops Q rest (a.put o.dst v') w') : wpListIn (Fence.wide.inRound l) N Try.prog ops Q (o :: rest) a (W.alloc (.cells cs e)) := by
  obtain ⟨h2, h3, h4, h5⟩ := hE
  obtain ⟨i0, hi, hz0, hz1, hz2⟩ := info_parts h3
  have hw : Region.wanted o (yielded ops a.tmps) = true := by simp [Region.wanted, hgd]
  simp only [wpListIn, hw, if_true]
  refine wpIn_of_wp (fun c e => by rw [ho] at e; cases e) ?_
  refine wp_append_own _ s x t ho base e i0 z size bytes h2 hi hz0 hz1 hz2 h4 h5 v n xs hs (hown.alloc _) ⟨W.heap.size, 0, none⟩ 1 1 cs.toList hx (by simpa using hl) ?_ h1 (by unfold maxLen; omega) ?_ (by simp; omega) ?_
  · intro j u hj
    have : (⟨W.heap.size, 0, none⟩ : Addr).add j = ⟨W.heap.size, j, none⟩ := by rw [Addr.add_lit]; simp
    rw [this, World.cell?_alloc_new]
    simpa using hj
  · calc (n + 1) * bytes ≤ 1000000001 * 4096 := Nat.mul_le_mul (by omega) hb
      _ ≤ 140737488355328 := by omega
  · intro v' w' hown' hg _
    exact h v' w' hown' hg
/-- 'append(s, x)' of one element, which lies in block B. -/
theorem wpAppBg {W : World} {ops : Array Oper} {rest : List Oper} {o : Oper} {a : Act} {Q : Exit → Act → World → Prop} {t e size bytes : Nat} {z : Value} (hE : ElemOk t e size bytes z)
    (hgd : o.guard = none) (s x : Operand) (ho : o.op = .call { callee := .builtin .append, args := #[s, x], argTypes := #[t, t] })
    (base : Nat) (v : Value) (n : Nat) (xs : List Value) (cs : Array Value) (B : Nat) (hs : a.eval s = v) (hown : W.ownsRow base e size v n xs)
    (hx : a.eval x = .slice (some ⟨B, 0, none⟩) 1 1) (hcs : ∀ j u, cs[j]? = some u → W.cell? ⟨B, j, none⟩ = some u) (hl : cs.size = size) (h1 : ∀ u ∈ cs.toList, u.oneCell' = true)
    (hb : bytes ≤ 4096) (hn : n ≤ 1000000000) (hbase : base ≤ W.heap.size)
    (h : ∀ v' w', w'.ownsRow base e size v' (n + 1) (xs ++ cs.toList) → W.grownBy w' v.ownBlock → wpList Try.prog ops Q rest (a.put o.dst v') w') : wpList Try.prog ops Q (o :: rest) a W := by
  obtain ⟨h2, h3, h4, h5⟩ := hE
  obtain ⟨i0, hi, hz0, hz1, hz2⟩ := info_parts h3
  refine wpList_append_own _ hgd s x t ho base e i0 z size bytes h2 hi hz0 hz1 hz2 h4 h5 v n xs hs hown ⟨B, 0, none⟩ 1 1 cs.toList hx (by simpa using hl) ?_ h1 (by unfold maxLen; omega) ?_ hbase ?_
  · intro j u hj
    have : (⟨B, 0, none⟩ : Addr).add j = ⟨B, j, none⟩ := by rw [Addr.add_lit]; simp
    rw [this]
    exact hcs j u (by simpa using hj)
  · calc (n + 1) * bytes ≤ 1000000001 * 4096 := Nat.mul_le_mul (by omega) hb
      _ ≤ 140737488355328 := by omega
  · intro v' w' hown' hg _
    exact h v' w' hown' hg
theorem opApp {W : World} {o : Oper} {a : Act} {K : Act → World → Prop} {Q : Exit → Act → World → Prop} {t e size bytes : Nat} {z : Value} (hE : ElemOk t e size bytes z)
    (s x : Operand) (ho : o.op = .call { callee := .builtin .append, args := #[s, x], argTypes := #[t, t] })
    (base : Nat) (v : Value) (n : Nat) (xs : List Value) (cs : Array Value) (B : Nat) (hs : a.eval s = v) (hown : W.ownsRow base e size v n xs)
    (hx : a.eval x = .slice (some ⟨B, 0, none⟩) 1 1) (hcs : ∀ j u, cs[j]? = some u → W.cell? ⟨B, j, none⟩ = some u) (hl : cs.size = size) (h1 : ∀ u ∈ cs.toList, u.oneCell' = true)
    (hb : bytes ≤ 4096) (hn : n ≤ 1000000000) (hbase : base ≤ W.heap.size)
    (h : ∀ v' w', w'.ownsRow base e size v' (n + 1) (xs ++ cs.toList) → W.grownBy w' v.ownBlock → K (a.put o.dst v') w') : o.wp Try.prog a W K Q := by
  obtain ⟨h2, h3, h4, h5⟩ := hE
  obtain ⟨i0, hi, hz0, hz1, hz2⟩ := info_parts h3
  refine wp_append_own _ s x t ho base e i0 z size bytes h2 hi hz0 hz1 hz2 h4 h5 v n xs hs hown ⟨B, 0, none⟩ 1 1 cs.toList hx (by simpa using hl) ?_ h1 (by unfold maxLen; omega) ?_ hbase ?_
  · intro j u hj
    have : (⟨B, 0, none⟩ : Addr).add j = ⟨B, j, none⟩ := by rw [Addr.add_lit]; simp
    rw [this]
    exact hcs j u (by simpa using hj)
  · calc (n + 1) * bytes ≤ 1000000001 * 4096 := Nat.mul_le_mul (by omega) hb
      _ ≤ 140737488355328 := by omega
  · intro v' w' hown' hg _
    exact h v' w' hown' hg
/-- Own rows of cells of two types do not meet. -/
theorem own_ne {W : World} {b1 b2 e1 e2 s1 s2 n1 n2 : Nat} {v1 v2 : Value} {x1 x2 : List Value} (h1 : W.ownsRow b1 e1 s1 v1 n1 x1) (h2 : W.ownsRow b2 e2 s2 v2 n2 x2) (he : e1 ≠ e2) : v1 = .slice none 0 0 ∨ v1.ownBlock ≠ v2.ownBlock := by
  rcases h1.2 with ⟨rfl, _⟩ | ⟨g, cap, cur, rfl, _, hg, _⟩
  · exact .inl rfl
  · refine .inr fun e => ?_
    rcases h2.2 with ⟨rfl, _⟩ | ⟨g', cap', cur', rfl, _, hg', _⟩
    · simp [Value.ownBlock] at e
    · have e' : g = g' := by simpa [Value.ownBlock] using e
      subst e'
      rw [hg] at hg'
      injection hg' with hg'
      injection hg' with _ h5
      exact he h5
end Go.Proofs.Ytoooihoaapfjeaa
