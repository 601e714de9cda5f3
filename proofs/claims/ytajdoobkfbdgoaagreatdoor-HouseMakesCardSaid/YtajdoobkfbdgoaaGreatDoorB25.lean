/- Lemmas on which the law of this seat rests; each states its own conditions. -/
import Derived.Test.YtajdoobkfbdgoaaGreatDoorB06
set_option linter.unusedVariables false
set_option linter.unusedSimpArgs false
namespace Go.Proofs.YtajdoobkfbdgoaaGreatDoor
section
open Go.RowKit
theorem wpAppG {W : World} {ops : Array Oper} {rest : List Oper} {o : Oper} {a : Act} {Q : Exit → Act → World → Prop} {t e size bytes : Nat} {z : Value} (hE : ElemOk t e size bytes z)
  (hgd : o.guard = none) (s x : Operand) (ho : o.op = .call { callee := .builtin .append, args := #[s, x], argTypes := #[t, t] })
  (base : Nat) (v : Value) (n : Nat) (xs : List Value) (cs : Array Value) (B : Nat) (hs : a.eval s = v) (hown : W.ownsRow base e size v n xs)
  (hx : a.eval x = .slice (some ⟨B, 0, none⟩) 1 1) (hcs : ∀ j u, cs[j]? = some u → W.cell? ⟨B, j, none⟩ = some u) (hl : cs.size = size) (h1 : ∀ u ∈ cs.toList, u.oneCell' = true)
  (hb : bytes ≤ 4096) (hn : n ≤ 1000000000) (hbase : base ≤ W.heap.size)
  (h : ∀ v' w', w'.ownsRow base e size v' (n + 1) (xs ++ cs.toList) → W.grownBy w' v.ownBlock → wpList Tryz.prog ops Q rest (a.put o.dst v') w') : wpList Tryz.prog ops Q (o :: rest) a W := by
 obtain ⟨h2, h3, h4, h5⟩ := hE
 obtain ⟨i0, hi, hz0, hz1, hz2⟩ := info_parts h3
 refine wpList_append_own _ hgd s x t ho base e i0 z size bytes h2 hi hz0 hz1 hz2 h4 h5 v n xs hs hown ⟨B, 0, none⟩ 1 1 cs.toList hx (by simpa using hl) ?_ h1 (by unfold maxLen; omega) ?_ hbase ?_
 ·intro j u hj
  have : (⟨B, 0, none⟩ : Addr).add j = ⟨B, j, none⟩ := by rw [Addr.add_lit]; simp
  rw [this]
  exact hcs j u (by simpa using hj)
 ·calc (n + 1) * bytes ≤ 1000000001 * 4096 := Nat.mul_le_mul (by omega) hb
   _ ≤ 140737488355328 := by omega
 ·intro v' w' hown' hg _
  exact h v' w' hown' hg
theorem okLists : ElemOk 96 22 1 24 (.slice none 0 0) := ⟨Tryz.underlying96, by kernel_rfl, rfl, by omega⟩
theorem okRowsB : ElemOk 112 23 1 24 (.slice none 0 0) := ⟨Tryz.underlying112, by kernel_rfl, rfl, by omega⟩
theorem rowIs_ne_type {w : World} {b b' t t' n n' : Nat} {f f' : Nat → Value} (h : w.rowIs b t n f) (h' : w.rowIs b' t' n' f') (hne : t ≠ t') : b ≠ b' := by
 rintro rfl
 obtain ⟨c, h1, _⟩ := h
 obtain ⟨c', h2, _⟩ := h'
 rw [h1] at h2
 injection h2 with h2
 injection h2 with _ h3
 exact hne h3
theorem rowIs_not_ownL {A : World} {b t n base e size k : Nat} {f : Nat → Value} {v : Value} {xs : List Value} (hr : A.rowIs b t n f) (h : A.ownsRow base e size v k xs) (hne : t ≠ e) : some b ≠ v.ownBlock := by
 rcases h.2 with ⟨rfl, _⟩ | ⟨g, cap, cur, rfl, _, hg, _⟩
 ·simp [Value.ownBlock]
 ·intro e'
  have e2 : b = g := by simpa [Value.ownBlock] using e'
  subst e2
  obtain ⟨cs, hb, _⟩ := hr
  rw [hb] at hg
  injection hg with hg
  injection hg with _ h5
  exact hne h5
def IntRow (w : World) (v : Value) (zs : List Int) : Prop :=
 (v = .slice none 0 0 ∧ zs = []) ∨ ∃ g cap f c, v = .slice (some ⟨g, 0, none⟩) zs.length c ∧ w.rowIs g 3 cap f ∧ zs.length ≤ cap ∧ ∀ j, j < zs.length → f j = .int .i64 (zs.getD j 0)
theorem IntRow.of_own {w : World} {base : Nat} {v : Value} {zs : List Int} (h : w.ownsRow base 3 1 v zs.length (zs.map (Value.int .i64))) : IntRow w v zs := by
 rcases h.2 with ⟨h1, h2⟩ | ⟨g, cap, cur, h1, h2, h3, h4, h5, h6, h7⟩
 ·exact .inl ⟨h1, List.length_eq_zero_iff.1 h2⟩
 ·refine .inr ⟨g, cap, fun j => cur.toList.getD j (.int .i64 0), cap, h1, ⟨cur, h3, by omega, fun i hi => ?_⟩, h4, fun j hj => ?_⟩
  ·have : i < cur.toList.length := by simp; omega
   show cur[i]? = some (cur.toList.getD i (.int .i64 0))
   rw [List.getD_eq_getElem?_getD, List.getElem?_eq_getElem this, Option.getD_some]
   simp
  ·have e : (cur.toList.take (zs.length * 1))[j]? = (zs.map (Value.int .i64))[j]? := by rw [h7]
   rw [List.getElem?_take, if_pos (by omega), List.getElem?_map, List.getElem?_eq_getElem hj] at e
   simp only [List.getD_eq_getElem?_getD, e, List.getElem?_eq_getElem hj, Option.map_some, Option.getD_some]
theorem IntRow.ints {w : World} {v : Value} {zs : List Int} (h : IntRow w v zs) : ∃ a c, v = .slice a zs.length c ∧ IsInts w a zs.length zs := by
 rcases h with ⟨rfl, rfl⟩ | ⟨g, cap, f, c, rfl, h2, h3, h4⟩
 ·exact ⟨none, 0, rfl, rfl, fun h => by simp at h⟩
 ·exact ⟨_, _, rfl, rfl, fun _ => ⟨g, 0, rfl, h2.lt, fun j hj => by rw [Nat.zero_add, h2.cell (by omega), h4 j hj]⟩⟩
theorem IntRow.of_block {w w' : World} {v : Value} {zs : List Int} (h : IntRow w v zs) (hb : ∀ g cap f, w.rowIs g 3 cap f → w'.heap[g]? = w.heap[g]?) : IntRow w' v zs := by
 rcases h with h | ⟨g, cap, f, c, h1, h2, h3, h4⟩
 ·exact .inl h
 ·exact .inr ⟨g, cap, f, c, h1, h2.of_block (hb g cap f h2), h3, h4⟩
def OutL (base : Nat) (v : Value) (LL : List (List Int)) (w : World) : Prop :=
 ∃ vs : List Value, w.ownsRow base 22 1 v LL.length vs ∧ ∀ j, j < LL.length → IntRow w (vs.getD j (.slice none 0 0)) (LL.getD j [])
theorem OutL.nil (base : Nat) (w : World) : OutL base (.slice none 0 0) [] w := ⟨[], World.ownsRow_nil _ _ _ _, fun j h => by simp at h⟩
theorem OutL.form {base : Nat} {v : Value} {LL : List (List Int)} {w : World} (h : OutL base v LL w) : ∃ A c, v = .slice A LL.length c := by
 obtain ⟨vs, h1, _⟩ := h
 exact own_form h1
theorem OutL.of_block {base : Nat} {v : Value} {LL : List (List Int)} {w w' : World} (h : OutL base v LL w) (h1 : ∀ g cap f, w.rowIs g 3 cap f → w'.heap[g]? = w.heap[g]?) (h2 : ∀ g xs n c, w.ownsRow base 22 1 (.slice (some ⟨g, 0, none⟩) n c) n xs → w'.heap[g]? = w.heap[g]?) : OutL base v LL w' := by
 obtain ⟨vs, ho, hr⟩ := h
 refine ⟨vs, ⟨ho.1, ?_⟩, fun j hj => (hr j hj).of_block h1⟩
 rcases ho.2 with hn | ⟨g, cap, cur, rfl, e2, e3, e4⟩
 ·exact .inl hn
 ·exact .inr ⟨g, cap, cur, rfl, e2, by rw [h2 g _ _ _ ho]; exact e3, e4⟩
theorem OutL.below {base : Nat} {v : Value} {LL : List (List Int)} {w w' : World} (h : OutL base v LL w) (hb : Below w.heap.size w w') : OutL base v LL w' :=
 h.of_block (fun g cap f hg => hb.block g hg.lt) (fun g xs n c ho => hb.block g (ho.lt g rfl).2)
theorem OutL.belowX {base mb t n : Nat} {f : Nat → Value} {v : Value} {LL : List (List Int)} {w w' : World} (h : OutL base v LL w) (hX : BelowX w.heap.size mb w w') (hr : w.rowIs mb t n f) (h1 : t ≠ 3) (h2 : t ≠ 22) : OutL base v LL w' :=
 h.of_block (fun g cap f' hg => hX.block g hg.lt (rowIs_ne_type hg hr (Ne.symm h1))) (fun g xs n c ho => hX.block g (ho.lt g rfl).2 (by
  have := rowIs_not_ownL hr ho h2
  intro e
  exact this (by simp [Value.ownBlock, e])))
theorem OutL.app {base : Nat} {v v' x : Value} {LL : List (List Int)} {zs : List Int} {vs : List Value} {w wa w' : World} (ho : w.ownsRow base 22 1 v LL.length vs) (hr : ∀ j, j < LL.length → IntRow w (vs.getD j (.slice none 0 0)) (LL.getD j [])) (hx : IntRow w x zs) (ha : Below w.heap.size w wa) (hown : w'.ownsRow base 22 1 v' (LL.length + 1) (vs ++ [x])) (hg : wa.grownBy w' v.ownBlock) : OutL base v' (LL ++ [zs]) w' := by
 have hb : ∀ g cap f, w.rowIs g 3 cap f → w'.heap[g]? = w.heap[g]? := fun g cap f hr => by
  rw [hg.block g (Nat.lt_of_lt_of_le hr.lt ha.size) (rowIs_not_ownL hr ho (by decide)), ha.block g hr.lt]
 have hl : vs.length = LL.length := by have := ho.1; omega
 refine ⟨vs ++ [x], by rw [List.length_append]; exact hown, fun j hj => ?_⟩
 rw [List.length_append, List.length_cons, List.length_nil] at hj
 by_cases e : j < LL.length
 ·rw [List.getD_eq_getElem?_getD, List.getD_eq_getElem?_getD, List.getElem?_append_left (by omega), List.getElem?_append_left e, ← List.getD_eq_getElem?_getD, ← List.getD_eq_getElem?_getD]
  exact (hr j e).of_block hb
 ·obtain rfl : j = LL.length := by omega
  rw [List.getD_eq_getElem?_getD, List.getD_eq_getElem?_getD, List.getElem?_append_right (by omega), List.getElem?_append_right (Nat.le_refl _), hl]
  simpa using hx.of_block hb
def IsLists (w : World) (a : Option Addr) (n : Nat) (LL : List (List Int)) : Prop :=
 LL.length = n ∧ (0 < n → ∃ b o, a = some ⟨b, o, none⟩ ∧ b < w.heap.size ∧ ∀ j, j < n → ∃ A c, w.cell? ⟨b, o + j, none⟩ = some (.slice A (LL.getD j []).length c) ∧ IsInts w A (LL.getD j []).length (LL.getD j []))
theorem OutL.lists {base : Nat} {v : Value} {LL : List (List Int)} {w : World} (h : OutL base v LL w) : ∃ a c, v = .slice a LL.length c ∧ IsLists w a LL.length LL := by
 obtain ⟨vs, ho, hr⟩ := h
 rcases ho.2 with ⟨h1, h2⟩ | ⟨g, cap, cur, rfl, e2, e3, e4⟩
 ·exact ⟨none, 0, by rw [h1, h2], rfl, fun h => by omega⟩
 ·refine ⟨_, _, rfl, rfl, fun _ => ⟨g, 0, rfl, (ho.lt g rfl).2, fun j hj => ?_⟩⟩
  obtain ⟨A, c, h1, h2⟩ := (hr j hj).ints
  refine ⟨A, c, ?_, h2⟩
  have hl : vs.length = LL.length := by have := ho.1; omega
  rw [Nat.zero_add, ho.cellAt j (by omega), ← h1, List.getD_eq_getElem?_getD, List.getElem?_eq_getElem (by omega)]
  rfl
def natLL (LL : List (List Nat)) : List (List Int) := LL.map natI
theorem natLL_len (LL : List (List Nat)) : (natLL LL).length = LL.length := by simp [natLL]
theorem natLL_get (LL : List (List Nat)) (j : Nat) : (natLL LL).getD j [] = natI (LL.getD j []) := by
 unfold natLL
 rw [List.getD_eq_getElem?_getD, List.getElem?_map, List.getD_eq_getElem?_getD]
 cases LL[j]? <;> rfl
theorem IntRow.of_nats {w : World} {base : Nat} {v : Value} {L : List Nat} (h : w.ownsRow base 3 1 v L.length (natV L)) : IntRow w v (natI L) := by
 refine IntRow.of_own (base := base) ?_
 rw [natI_map, show (natI L).length = L.length by simp [natI]]
 exact h
end
end Go.Proofs.YtajdoobkfbdgoaaGreatDoor
