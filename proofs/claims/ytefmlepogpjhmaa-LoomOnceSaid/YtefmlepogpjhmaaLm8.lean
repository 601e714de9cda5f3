/- Chapter 10: the list of what is seen, in memory; the steps that come in; what is seen step by step (plain). -/
import Derived.Test.YtefmlepogpjhmaaLm7
namespace Go.Proofs.Ytefmlepogpjhmaa
open Go.RowKit
set_option linter.unusedVariables false
set_option linter.unusedSimpArgs false
open Lm
/-- A list of bits in a block of its own. -/
def BoolRow (w : World) (v : Value) (bs : List Bool) : Prop :=
  (v = .slice none 0 0 ∧ bs = []) ∨ ∃ g cap f c, v = .slice (some ⟨g, 0, none⟩) bs.length c ∧ w.rowIs g 4 cap f ∧ bs.length ≤ cap ∧ ∀ j, j < bs.length → f j = .bool (bs.getD j false)
theorem BoolRow.of_own {w : World} {base : Nat} {v : Value} {bs : List Bool} (h : w.ownsRow base 4 1 v bs.length (bs.map Value.bool)) : BoolRow w v bs := by
  rcases h.2 with ⟨h1, h2⟩ | ⟨g, cap, cur, h1, h2, h3, h4, h5, h6, h7⟩
  · exact .inl ⟨h1, List.length_eq_zero_iff.1 h2⟩
  · refine .inr ⟨g, cap, fun j => cur.toList.getD j (.bool false), cap, h1, ⟨cur, h3, by omega, fun i hi => ?_⟩, h4, fun j hj => ?_⟩
    · have : i < cur.toList.length := by simp; omega
      show cur[i]? = some (cur.toList.getD i (.bool false))
      rw [List.getD_eq_getElem?_getD, List.getElem?_eq_getElem this, Option.getD_some]
      simp
    · have e : (cur.toList.take (bs.length * 1))[j]? = (bs.map Value.bool)[j]? := by rw [h7]
      rw [List.getElem?_take, if_pos (by omega), List.getElem?_map, List.getElem?_eq_getElem hj] at e
      simp only [List.getD_eq_getElem?_getD, e, List.getElem?_eq_getElem hj, Option.map_some, Option.getD_some]
theorem BoolRow.bools {w : World} {v : Value} {bs : List Bool} (h : BoolRow w v bs) : ∃ a c, v = .slice a bs.length c ∧ IsBools w a bs.length bs := by
  rcases h with ⟨rfl, rfl⟩ | ⟨g, cap, f, c, rfl, h2, h3, h4⟩
  · exact ⟨none, 0, rfl, rfl, fun h => by simp at h⟩
  · exact ⟨_, _, rfl, rfl, fun _ => ⟨g, 0, rfl, h2.lt, fun j hj => by rw [Nat.zero_add, h2.cell (by omega), h4 j hj]⟩⟩
theorem BoolRow.of_block {w w' : World} {v : Value} {bs : List Bool} (h : BoolRow w v bs) (hb : ∀ g cap f, w.rowIs g 4 cap f → w'.heap[g]? = w.heap[g]?) : BoolRow w' v bs := by
  rcases h with h | ⟨g, cap, f, c, h1, h2, h3, h4⟩
  · exact .inl h
  · exact .inr ⟨g, cap, f, c, h1, h2.of_block (hb g cap f h2), h3, h4⟩
def seenV (v : Value) (x : Seen) : List Value := [.int .i64 x.do_, .int .i64 x.st, .int .i64 x.wv, v, .int .i64 x.oe, .int .i64 x.er]
def seenC : List Value → List Seen → List Value
  | v :: vs, x :: xs => seenV v x ++ seenC vs xs
  | _, _ => []
theorem seenC_snoc : ∀ (vs : List Value) (xs : List Seen) (v : Value) (x : Seen), vs.length = xs.length → seenC (vs ++ [v]) (xs ++ [x]) = seenC vs xs ++ seenV v x
  | [], [], v, x, _ => by simp [seenC]
  | [], _ :: _, _, _, h => by simp at h
  | _ :: _, [], _, _, h => by simp at h
  | u :: vs, y :: xs, v, x, h => by
    simp only [List.cons_append, seenC, List.append_assoc]
    rw [seenC_snoc vs xs v x (by simpa using h)]
theorem seenC_len : ∀ (vs : List Value) (xs : List Seen), vs.length = xs.length → (seenC vs xs).length = xs.length * 6
  | [], [], _ => rfl
  | [], _ :: _, h => by simp at h
  | _ :: _, [], h => by simp at h
  | u :: vs, y :: xs, h => by
    simp only [seenC, List.length_append, seenV, List.length_cons, List.length_nil]
    rw [seenC_len vs xs (by simpa using h)]
    omega
theorem seenC_get : ∀ (vs : List Value) (xs : List Seen) (j i : Nat), vs.length = xs.length → j < xs.length → i < 6 → (seenC vs xs)[j * 6 + i]? = (seenV (vs.getD j (.slice none 0 0)) (xs.getD j ⟨0, 0, 0, [], 0, 0⟩))[i]?
  | [], [], j, _, _, hj, _ => by simp at hj
  | [], _ :: _, _, _, h, _, _ => by simp at h
  | _ :: _, [], _, _, h, _, _ => by simp at h
  | u :: vs, y :: xs, 0, i, h, hj, hi => by
    simp only [seenC]
    rw [Nat.zero_mul, Nat.zero_add, List.getElem?_append_left (by simp [seenV]; exact hi)]
    rfl
  | u :: vs, y :: xs, j + 1, i, h, hj, hi => by
    simp only [seenC]
    rw [List.getElem?_append_right (by simp [seenV]; omega)]
    rw [show (j + 1) * 6 + i - (seenV u y).length = j * 6 + i by simp [seenV]; omega]
    rw [seenC_get vs xs j i (by simpa using h) (by simpa using hj) hi]
    rfl
theorem okSeen : ElemOk 27 34 6 64 (.agg #[.int .i64 0, .int .i64 0, .int .i64 0, .slice none 0 0, .int .i64 0, .int .i64 0]) := ⟨Try.underlying27, by kernel_rfl, rfl, by omega⟩
/-- What is seen, step by step, in memory. -/
def OutS (base : Nat) (v : Value) (L : List Seen) (w : World) : Prop :=
  ∃ vs : List Value, vs.length = L.length ∧ w.ownsRow base 34 6 v L.length (seenC vs L) ∧ ∀ j, j < L.length → BoolRow w (vs.getD j (.slice none 0 0)) (L.getD j ⟨0, 0, 0, [], 0, 0⟩).row
theorem OutS.nil (base : Nat) (w : World) : OutS base (.slice none 0 0) [] w := ⟨[], rfl, World.ownsRow_nil _ _ _ _, fun j h => by simp at h⟩
theorem OutS.form {base : Nat} {v : Value} {L : List Seen} {w : World} (h : OutS base v L w) : ∃ A c, v = .slice A L.length c := by
  obtain ⟨vs, _, h1, _⟩ := h
  exact own_form h1
theorem OutS.of_block {base : Nat} {v : Value} {L : List Seen} {w w' : World} (h : OutS base v L w) (h1 : ∀ (k : Nat) (c : Array Value) (f : Nat × Nat) (t : Nat), w.heap[k]? = some (Obj.cells c t f) → t = 4 ∨ t = 34 → w'.heap[k]? = w.heap[k]?) : OutS base v L w' := by
  obtain ⟨vs, hl, ho, hr⟩ := h
  refine ⟨vs, hl, ⟨ho.1, ?_⟩, fun j hj => (hr j hj).of_block fun g cap f hg => ?_⟩
  · rcases ho.2 with hn | ⟨g, cap, cur, rfl, e2, e3, e4⟩
    · exact .inl hn
    · exact .inr ⟨g, cap, cur, rfl, e2, by rw [h1 g _ _ _ e3 (.inr rfl)]; exact e3, e4⟩
  · obtain ⟨c, e, _⟩ := hg
    exact h1 g _ _ _ e (.inl rfl)
theorem OutS.below {base : Nat} {v : Value} {L : List Seen} {w w' : World} (h : OutS base v L w) (hb : Below w.heap.size w w') : OutS base v L w' :=
  h.of_block fun k c f t e _ => hb.block k (Array.getElem?_eq_some_iff.1 e).1
theorem ty_ne {w : World} {k t t' n : Nat} {c : Array Value} {fz : Nat × Nat} {f : Nat → Value} (h : w.rowIs k t n f) (e : w.heap[k]? = some (Obj.cells c t' fz)) : t' = t := by
  obtain ⟨c', e', _⟩ := h
  rw [e'] at e
  injection e with e
  injection e with _ e2
  exact e2.symm
theorem OutS.keep {base a b g cp W H : Nat} {v bv : Value} {L : List Seen} {l : St} {d : Dk} {w w' : World} (h : OutS base v L w) (hk : Keep3 a b g w w') (hm : LMr a b W H bv l w) (hd : DK b g cp d w) : OutS base v L w' := by
  refine h.of_block fun k c f t e ht => hk.block k (Array.getElem?_eq_some_iff.1 e).1 (fun ea => ?_) (fun eb => ?_) (fun eg => ?_)
  · subst ea
    have := ty_ne hm e
    subst this
    rcases ht with h | h <;> exact absurd h (by decide)
  · subst eb
    have := ty_ne hd.row e
    subst this
    rcases ht with h | h <;> exact absurd h (by decide)
  · subst eg
    obtain ⟨_, _, _, _, cur, e2, _⟩ := own_parts hd.own
    rw [e] at e2
    injection e2 with e2
    injection e2 with _ e3
    subst e3
    rcases ht with h | h <;> exact absurd h (by decide)
theorem OutS.set {base k i t n : Nat} {v u : Value} {f : Nat → Value} {L : List Seen} {w : World} (h : OutS base v L w) (hr : w.rowIs k t n f) (h1 : t ≠ 4) (hk : ∀ g, v.ownBlock = some g → k ≠ g) : OutS base v L (w.setCell ⟨k, i, none⟩ u) := by
  obtain ⟨vs, hl, ho, hr2⟩ := h
  refine ⟨vs, hl, ⟨ho.1, ?_⟩, fun j hj => (hr2 j hj).of_block fun g cap f hg => Below.heap_setCell _ _ _ g fun e => ?_⟩
  · rcases ho.2 with hn | ⟨g, cap, cur, rfl, e2, e3, e4⟩
    · exact .inl hn
    · exact .inr ⟨g, cap, cur, rfl, e2, by rw [Below.heap_setCell _ _ _ g (fun e => hk g rfl e.symm)]; exact e3, e4⟩
  · obtain ⟨c, e', _⟩ := hg
    simp only at e
    subst e
    exact h1 (ty_ne hr e').symm
theorem OutS.app {base : Nat} {v v' xv : Value} {L : List Seen} {x : Seen} {vs : List Value} {w wa w' : World} (hl : vs.length = L.length) (ho : w.ownsRow base 34 6 v L.length (seenC vs L)) (hr : ∀ j, j < L.length → BoolRow w (vs.getD j (.slice none 0 0)) (L.getD j ⟨0, 0, 0, [], 0, 0⟩).row)
    (hx : BoolRow w xv x.row) (ha : Below w.heap.size w wa) (hown : w'.ownsRow base 34 6 v' (L.length + 1) (seenC vs L ++ seenV xv x)) (hg : wa.grownBy w' v.ownBlock) : OutS base v' (L ++ [x]) w' := by
  have hb : ∀ g cap f, w.rowIs g 4 cap f → w'.heap[g]? = w.heap[g]? := fun g cap f hr => by
    rw [hg.block g (Nat.lt_of_lt_of_le hr.lt ha.size) ?_, ha.block g hr.lt]
    intro e
    rcases ho.2 with ⟨e1, _⟩ | ⟨g', cap', cur, e1, _, e3, _⟩
    · rw [e1] at e; cases e
    · rw [e1] at e
      have e4 : some g = some g' := e
      injection e4 with e4
      subst e4
      have := ty_ne hr e3
      exact absurd this (by decide)
  refine ⟨vs ++ [xv], by simp [hl], by rw [List.length_append, seenC_snoc vs L xv x hl]; exact hown, fun j hj => ?_⟩
  rw [List.length_append, List.length_cons, List.length_nil] at hj
  by_cases e : j < L.length
  · rw [List.getD_eq_getElem?_getD, List.getD_eq_getElem?_getD, List.getElem?_append_left (by omega), List.getElem?_append_left e, ← List.getD_eq_getElem?_getD, ← List.getD_eq_getElem?_getD]
    exact (hr j e).of_block hb
  · obtain rfl : j = L.length := by omega
    rw [List.getD_eq_getElem?_getD, List.getD_eq_getElem?_getD, List.getElem?_append_right (by omega), List.getElem?_append_right (Nat.le_refl _), hl]
    simpa using hx.of_block hb
/-- The steps that come in. -/
def IsSteps (w : World) (a : Option Addr) (n : Nat) (L : List Step) : Prop :=
  L.length = n ∧ (0 < n → ∃ b o, a = some ⟨b, o, none⟩ ∧ b < w.heap.size ∧ ∀ j, j < n → w.cell? ⟨b, o + j * 3, none⟩ = some (.int .i64 (L.getD j ⟨0, false, 0⟩).pw) ∧ w.cell? ⟨b, o + j * 3 + 1, none⟩ = some (.bool (L.getD j ⟨0, false, 0⟩).op) ∧ w.cell? ⟨b, o + j * 3 + 2, none⟩ = some (.int .i64 (L.getD j ⟨0, false, 0⟩).ev))
theorem IsSteps.below {w w' : World} {a : Option Addr} {n : Nat} {L : List Step} (h : IsSteps w a n L) (hb : Below w.heap.size w w') : IsSteps w' a n L := by
  refine ⟨h.1, fun hn => ?_⟩
  obtain ⟨b, o, h1, h2, h3⟩ := h.2 hn
  exact ⟨b, o, h1, Nat.lt_of_lt_of_le h2 hb.size, fun j hj => ⟨bCs hb (h3 j hj).1, bCs hb (h3 j hj).2.1, bCs hb (h3 j hj).2.2⟩⟩
/-- What is seen in the first k steps; the loom and the disk behind them. -/
def runT (W H : Nat) (bs : List Bool) (ws : List Int) (sc : List Step) : Nat → List Seen × St × Dk
  | 0 => ([], begin_ H ws, ⟨ws, -1⟩)
  | k + 1 => ((runT W H bs ws sc k).1 ++ [(Lm.step W H bs (sc.getD k ⟨0, false, 0⟩) (runT W H bs ws sc k).2.1 (runT W H bs ws sc k).2.2).1], (Lm.step W H bs (sc.getD k ⟨0, false, 0⟩) (runT W H bs ws sc k).2.1 (runT W H bs ws sc k).2.2).2.1, (Lm.step W H bs (sc.getD k ⟨0, false, 0⟩) (runT W H bs ws sc k).2.1 (runT W H bs ws sc k).2.2).2.2)
/-- What is seen where a loom can't be opened. -/
def badT (e : Int) (k : Nat) : List Seen := List.replicate k ⟨0, 0, 0, [], e, 0⟩
theorem badT_succ (e : Int) (k : Nat) : badT e (k + 1) = badT e k ++ [⟨0, 0, 0, [], e, 0⟩] := by unfold badT; rw [List.replicate_succ']
theorem badT_len (e : Int) (k : Nat) : (badT e k).length = k := by simp [badT]
theorem runT_len (W H : Nat) (bs : List Bool) (ws : List Int) (sc : List Step) : ∀ k, (runT W H bs ws sc k).1.length = k
  | 0 => rfl
  | k + 1 => by simp only [runT, List.length_append, List.length_singleton, runT_len W H bs ws sc k]
end Go.Proofs.Ytefmlepogpjhmaa
