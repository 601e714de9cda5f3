/- Chapter 13: what lies in memory while far goes on. -/
import Derived.Test.YtoooihoaapfjeaaPs6
import Derived.ArgAppend
namespace Go.Proofs.Ytoooihoaapfjeaa
open Go.RowKit
set_option linter.unusedVariables false
set_option linter.unusedSimpArgs false
open Ps Go.Maps
/-- A way to stand: the caller's own list, or one that the call has made. -/
def EL (w0 w : World) (v : Value) (s : List Int) : Prop := (∃ A c, v = .slice A s.length c ∧ IsInts w0 A s.length s) ∨ IntRow w v s
theorem EL.ints {w0 w : World} {v : Value} {s : List Int} (h : EL w0 w v s) (hb : Below w0.heap.size w0 w) : ∃ A c, v = .slice A s.length c ∧ IsInts w A s.length s := by
  rcases h with ⟨A, c, e, hi⟩ | h
  · exact ⟨A, c, e, hi.below hb⟩
  · exact h.ints
theorem EL.keep {B : Obj → Bool} {w0 w w' : World} {v : Value} {s : List Int} (h : EL w0 w v s) (hk : TyO B w w') (hB : ∀ c fz, B (.cells c 3 fz) = false) : EL w0 w' v s := by
  rcases h with h | h
  · exact .inl h
  · exact .inr (hk.introw h hB)
/-- A queue of ways to stand, in block g. -/
structure QG (w0 : World) (g o c : Nat) (L : List (List Int)) (cur : Array Value) (vs : List Value) (w : World) : Prop where
  le : L.length ≤ c
  lim : c ≤ maxLen
  hp : w.heap[g]? = some (.cells cur 22 (0, 0))
  sz : o + c ≤ cur.size
  ln : vs.length = L.length
  el : ∀ j, j < L.length → cur[o + j]? = some (vs.getD j (.slice none 0 0))
  ro : ∀ j, j < L.length → EL w0 w (vs.getD j (.slice none 0 0)) (L.getD j [])
theorem QG.keep {B : Obj → Bool} {w0 : World} {g o c : Nat} {L : List (List Int)} {cur : Array Value} {vs : List Value} {w w' : World} (h : QG w0 g o c L cur vs w) (hk : TyO B w w') (hB : ∀ c fz, B (.cells c 3 fz) = false) (hB2 : ∀ c fz, B (.cells c 22 fz) = false) : QG w0 g o c L cur vs w' :=
  ⟨h.le, h.lim, (hk.block g _ h.hp (hB2 _ _)).trans h.hp, h.sz, h.ln, h.el, fun j hj => (h.ro j hj).keep hk hB⟩
theorem QG.cell {w0 : World} {g o c : Nat} {L : List (List Int)} {cur : Array Value} {vs : List Value} {w : World} (h : QG w0 g o c L cur vs w) {j : Nat} (hj : j < L.length) : w.cell? ⟨g, o + j, none⟩ = some (vs.getD j (.slice none 0 0)) := by
  simp [World.cell?, h.hp, h.el j hj]
theorem QG.frozen {w0 : World} {g o c : Nat} {L : List (List Int)} {cur : Array Value} {vs : List Value} {w : World} (h : QG w0 g o c L cur vs w) (j : Nat) : w.frozen? ⟨g, j, none⟩ = false := by
  simp [World.frozen?, h.hp]
/-- All that lies in memory while far goes on: the puzzle, the map's cell, the queue's cell, the map. -/
structure FI (pb fb qb mb : Nat) (ta : Option Addr) (tn tc : Nat) (sl : Int) (E : List (List Int × Nat)) (Q : List (List Int)) (g o c : Nat) (cur : Array Value) (vs : List Value) (w0 w : World) : Prop where
  pz : w.rowIs pb 35 2 (pzF ta tn tc sl)
  fc : w.rowIs fb 36 1 (fun _ => .map (some mb))
  qc : w.rowIs qb 53 1 (fun _ => .slice (some ⟨g, o, none⟩) Q.length c)
  q : QG w0 g o c Q cur vs w
  fm : FM mb E w
  bel : Below w0.heap.size w0 w
  op : w0.heap.size ≤ pb
  of : w0.heap.size ≤ fb
  oq : w0.heap.size ≤ qb
  om : w0.heap.size ≤ mb
  og : w0.heap.size ≤ g
def Bmap (o : Obj) : Bool := match o with
  | .map _ _ => true
  | _ => false
def Bq (o : Obj) : Bool := match o with
  | .cells _ t _ => Nat.beq t 53
  | _ => false
def Bg (o : Obj) : Bool := match o with
  | .cells _ t _ => Nat.beq t 22
  | _ => false
section
variable {pb fb qb mb : Nat} {ta : Option Addr} {tn tc : Nat} {sl : Int} {E : List (List Int × Nat)} {Q : List (List Int)} {g o c : Nat} {cur : Array Value} {vs : List Value} {w0 w w' : World}
theorem FI.grow (h : FI pb fb qb mb ta tn tc sl E Q g o c cur vs w0 w) (hb : Below w.heap.size w w') : FI pb fb qb mb ta tn tc sl E Q g o c cur vs w0 w' := by
  have hk : TyO (fun _ => false) w w' := TyO.below hb
  exact ⟨hk.row h.pz (fun _ _ => rfl), hk.row h.fc (fun _ _ => rfl), hk.row h.qc (fun _ _ => rfl), h.q.keep hk (fun _ _ => rfl) (fun _ _ => rfl), h.fm.keep hk (fun _ _ => rfl), h.bel.trans (hb.mono h.bel.size), h.op, h.of, h.oq, h.om, h.og⟩
/-- Loops of others: what is no cells, and no map, has changed. -/
theorem FI.kept {row : Option Nat} (h : FI pb fb qb mb ta tn tc sl E Q g o c cur vs w0 w) (hg : w.grownBy w' row) (hr : ∀ r, row = some r → w0.heap.size ≤ r ∧ r ≠ mb ∧ ∃ o : Obj, w.heap[r]? = some o ∧ o.isCells = false) : FI pb fb qb mb ta tn tc sl E Q g o c cur vs w0 w' := by
  have hne : ∀ k ob, w.heap[k]? = some ob → (ob.isCells = true ∨ k = mb) → w'.heap[k]? = w.heap[k]? := fun k ob e hc => by
    refine hg.block k (Array.getElem?_eq_some_iff.1 e).1 fun e2 => ?_
    obtain ⟨_, hm, ob2, e3, e4⟩ := hr k e2.symm
    rw [e] at e3
    injection e3 with e3
    subst e3
    rcases hc with hc | hc
    · rw [hc] at e4; cases e4
    · exact hm hc
  have hrow : ∀ {k t n : Nat} {f : Nat → Value}, w.rowIs k t n f → w'.rowIs k t n f := fun {k t n f} hrw => by
    have h2 := hrw
    obtain ⟨cc, e, _⟩ := h2
    exact hrw.of_block (hne k _ e (.inl rfl))
  refine ⟨hrow h.pz, hrow h.fc, hrow h.qc, ⟨h.q.le, h.q.lim, (hne g _ h.q.hp (.inl rfl)).trans h.q.hp, h.q.sz, h.q.ln, h.q.el, fun j hj => ?_⟩, ?_, h.bel.grown hg h.bel.size (fun k e => (hr k e).1), h.op, h.of, h.oq, h.om, h.og⟩
  · rcases h.q.ro j hj with h1 | h1
    · exact .inl h1
    · exact .inr (h1.of_block fun g cap f hg => by
        obtain ⟨cc, e, _⟩ := hg
        exact hne g _ e (.inl rfl))
  · obtain ⟨D, ⟨es, cl, h1, h2⟩, h3⟩ := h.fm
    exact ⟨D, ⟨es, cl, (hne mb _ h1 (.inr rfl)).trans h1, h2⟩, h3⟩
/-- The map is written. -/
theorem FI.mapd {E' : List (List Int × Nat)} (h : FI pb fb qb mb ta tn tc sl E Q g o c cur vs w0 w) (hg : w.grownBy w' (some mb)) (hf : FM mb E' w') : FI pb fb qb mb ta tn tc sl E' Q g o c cur vs w0 w' := by
  obtain ⟨D, ⟨es, cl, h1, _⟩, _⟩ := h.fm
  have hk : TyO Bmap w w' := TyO.grown hg h1 rfl
  exact ⟨hk.row h.pz (fun _ _ => rfl), hk.row h.fc (fun _ _ => rfl), hk.row h.qc (fun _ _ => rfl), h.q.keep hk (fun _ _ => rfl) (fun _ _ => rfl), hf, h.bel.grown hg h.bel.size (fun k e => by injection e with e; have := h.om; omega), h.op, h.of, h.oq, h.om, h.og⟩
/-- The queue grows in place. -/
theorem FI.pushIn (h : FI pb fb qb mb ta tn tc sl E Q g o c cur vs w0 w) {v : Value} {s : List Int} (hs : EL w0 w v s) (hc : Q.length + 1 ≤ c) :
    FI pb fb qb mb ta tn tc sl E (Q ++ [s]) g o c (cur.setIfInBounds (o + Q.length) v) (vs ++ [v]) w0 ((w.setCell ⟨g, o + Q.length, none⟩ v).setCell ⟨qb, 0, none⟩ (.slice (some ⟨g, o, none⟩) (Q.length + 1) c)) := by
  have k1 : TyO Bg w (w.setCell ⟨g, o + Q.length, none⟩ v) := TyO.setCell h.q.hp rfl
  have hqc1 := k1.row h.qc (fun _ _ => rfl)
  obtain ⟨cq, eq_, _⟩ := hqc1
  have k2 : TyO Bq (w.setCell ⟨g, o + Q.length, none⟩ v) ((w.setCell ⟨g, o + Q.length, none⟩ v).setCell ⟨qb, 0, none⟩ (.slice (some ⟨g, o, none⟩) (Q.length + 1) c)) := TyO.setCell eq_ rfl
  have hqc1 := k1.row h.qc (fun _ _ => rfl)
  refine ⟨k2.row (k1.row h.pz (fun _ _ => rfl)) (fun _ _ => rfl), k2.row (k1.row h.fc (fun _ _ => rfl)) (fun _ _ => rfl), ?_, ?_, (h.fm.keep k1 (fun _ _ => rfl)).keep k2 (fun _ _ => rfl), (h.bel.setCell h.og _).setCell h.oq _, h.op, h.of, h.oq, h.om, h.og⟩
  · refine (hqc1.set 0 _).congr fun i hi => ?_
    obtain rfl : i = 0 := by omega
    simp
  · have hq1 : QG w0 g o c (Q ++ [s]) (cur.setIfInBounds (o + Q.length) v) (vs ++ [v]) (w.setCell ⟨g, o + Q.length, none⟩ v) := by
      refine ⟨by rw [List.length_append]; exact hc, h.q.lim, ?_, by simp; exact h.q.sz, by simp [h.q.ln], ?_, ?_⟩
      · simp [World.setCell, Array.getElem?_modify, h.q.hp]
      · intro j hj
        rw [List.length_append, List.length_singleton] at hj
        have hln := h.q.ln
        have hsz := h.q.sz
        by_cases hjq : j < Q.length
        · rw [Array.getElem?_setIfInBounds_ne (by omega), h.q.el j hjq, List.getD_eq_getElem?_getD, List.getD_eq_getElem?_getD, List.getElem?_append_left (by omega)]
        · obtain rfl : j = Q.length := by omega
          rw [Array.getElem?_setIfInBounds_self_of_lt (by omega), List.getD_eq_getElem?_getD, List.getElem?_append_right (by omega), hln, Nat.sub_self]
          rfl
      · intro j hj
        rw [List.length_append, List.length_singleton] at hj
        have hln := h.q.ln
        by_cases hjq : j < Q.length
        · rw [List.getD_eq_getElem?_getD, List.getElem?_append_left (by omega), List.getD_eq_getElem?_getD, List.getElem?_append_left hjq, ← List.getD_eq_getElem?_getD, ← List.getD_eq_getElem?_getD]
          exact (h.q.ro j hjq).keep k1 (fun _ _ => rfl)
        · obtain rfl : j = Q.length := by omega
          rw [List.getD_eq_getElem?_getD, List.getElem?_append_right (by omega), List.getD_eq_getElem?_getD, List.getElem?_append_right (Nat.le_refl _), hln, Nat.sub_self]
          exact hs.keep k1 (fun _ _ => rfl)
    exact hq1.keep k2 (fun _ _ => rfl) (fun _ _ => rfl)
end
end Go.Proofs.Ytoooihoaapfjeaa
