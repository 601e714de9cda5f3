/- Lemmas and contracts of functions (what each call returns, and that it changes nothing that was there) that the proof of a law of this seat uses; each lemma states its own conditions. -/
import Derived.Test.YtoooihoaapfjeaaB09
import Derived.Maps.OwnOps
import Derived.Maps.OwnSet
import Derived.Maps.Views
import Derived.ArgAppend
namespace Go.Proofs.Ytoooihoaapfjeaa
open Go.RowKit
set_option linter.unusedVariables false
set_option linter.unusedSimpArgs false
open Ps Go.Maps
/-- Only objects of some kinds are changed. -/
structure TyO (B : Obj → Bool) (w w' : World) : Prop where
  os : w'.os = w.os
  tape : w'.tape = w.tape
  output : w'.output = w.output
  size : w.heap.size ≤ w'.heap.size
  block : ∀ (k : Nat) (o : Obj), w.heap[k]? = some o → B o = false → w'.heap[k]? = w.heap[k]?
theorem TyO.below {B : Obj → Bool} {w w' : World} (h : Below w.heap.size w w') : TyO B w w' := ⟨h.os, h.tape, h.output, h.size, fun k o e _ => h.block k (Array.getElem?_eq_some_iff.1 e).1⟩
theorem TyO.trans {B : Obj → Bool} {w1 w2 w3 : World} (h : TyO B w1 w2) (h' : TyO B w2 w3) : TyO B w1 w3 :=
  ⟨h'.os.trans h.os, h'.tape.trans h.tape, h'.output.trans h.output, Nat.le_trans h.size h'.size, fun k o e hb => by
    have e1 := h.block k o e hb
    rw [h'.block k o (e1.trans e) hb, e1]⟩
theorem TyO.grown {B : Obj → Bool} {w w' : World} {b : Nat} {o : Obj} (hg : w.grownBy w' (some b)) (ho : w.heap[b]? = some o) (hB : B o = true) : TyO B w w' :=
  ⟨hg.os, hg.tape, hg.output, hg.size, fun k o' e hb => hg.block k (Array.getElem?_eq_some_iff.1 e).1 fun e2 => by
    injection e2 with e2
    subst e2
    rw [ho] at e
    injection e with e
    subst e
    rw [hB] at hb
    cases hb⟩
theorem TyO.setCell {B : Obj → Bool} {w : World} {k i : Nat} {o : Obj} {u : Value} (ho : w.heap[k]? = some o) (hB : B o = true) : TyO B w (w.setCell ⟨k, i, none⟩ u) :=
  ⟨rfl, rfl, rfl, by rw [World.size_setCell]; exact Nat.le_refl _, fun k' o' e hb => Below.heap_setCell _ _ _ k' fun e2 => by
    have e2 : k' = k := e2
    subst e2
    rw [ho] at e
    injection e with e
    subst e
    rw [hB] at hb
    cases hb⟩
theorem TyO.row {B : Obj → Bool} {w w' : World} {k t n : Nat} {f : Nat → Value} (h : TyO B w w') (hr : w.rowIs k t n f) (hB : ∀ c fz, B (.cells c t fz) = false) : w'.rowIs k t n f := by
  have hr2 := hr
  obtain ⟨c, e, _⟩ := hr2
  exact hr.of_block (h.block k _ e (hB _ _))
theorem TyO.introw {B : Obj → Bool} {w w' : World} {v : Value} {zs : List Int} (h : TyO B w w') (hr : IntRow w v zs) (hB : ∀ c fz, B (.cells c 3 fz) = false) : IntRow w' v zs :=
  hr.of_block fun g cap f hg => by
    obtain ⟨c, e, _⟩ := hg
    exact h.block g _ e (hB _ _)
/-- What is known, in block mb. -/
def FM (mb : Nat) (E : List (List Int × Nat)) (w : World) : Prop :=
  ∃ D : DataW Unit, w.ownsMap Try.prog 3 (plainElem Try.prog 3) mb E.length D ∧ IsMap D ∧ (∀ k : Int, Maps.has D (.int .i64 k) = E.any fun e => keyZ e.1 == k) ∧ ∀ e ∈ E, D.atKey (.int .i64 (keyZ e.1)) (.lit (.int .i64 0)) = .lit (.int .i64 (e.2 : Nat))
theorem FM.keep {B : Obj → Bool} {mb : Nat} {E : List (List Int × Nat)} {w w' : World} (h : FM mb E w) (hk : TyO B w w') (hB : ∀ es c, B (.map es c) = false) : FM mb E w' := by
  obtain ⟨D, ⟨es, c, h1, h2⟩, h3⟩ := h
  exact ⟨D, ⟨es, c, (hk.block mb _ h1 (hB _ _)).trans h1, h2⟩, h3⟩
theorem lawK : Keyed Try.prog 3 := int_keyed Try.underlying3
theorem zeroI (w : World) : (zeroValue 3).run Try.prog w = .ok (.int .i64 0) w := by kernel_rfl
theorem i64wf {k : Int} (h : (-9223372036854775808 ≤ k ∧ k ≤ 9223372036854775807)) : (Lit.int .i64 k).wf = true := by
  simpa [Lit.wf, IntKind.min, IntKind.max, IntKind.signed, IntKind.bits] using h
theorem keyOfI {k : Int} (h : (-9223372036854775808 ≤ k ∧ k ≤ 9223372036854775807)) : keyOf Try.prog 3 (.int .i64 k) = some (.int .i64 k) := keyOf_int_mk Try.underlying3 (i64wf h)
/-- A look-up, with and without 'ok'. -/
theorem FM.look {mb : Nat} {E : List (List Int × Nat)} {w : World} (h : FM mb E w) {k : Int} (hk : (-9223372036854775808 ≤ k ∧ k ≤ 9223372036854775807)) : ∃ v : Int, (Instr.lookup 36 (.map (some mb)) (.int .i64 k) true).run Try.prog w = .ok (.tuple #[.int .i64 v, .bool (E.any fun e => keyZ e.1 == k)]) w ∧
    (Instr.lookup 36 (.map (some mb)) (.int .i64 k) false).run Try.prog w = .ok (.int .i64 v) w ∧ ∀ e ∈ E, keyZ e.1 = k → v = (e.2 : Nat) := by
  obtain ⟨D, hown, _, hh, ha⟩ := h
  obtain ⟨v, ps, hrun, hv⟩ := hown.look_ok lawK Try.underlying36 (zeroI w) (plainElem_int Try.underlying3 (by decide)) (keyOfI hk)
  obtain ⟨c, hrun2, hat, hwc⟩ := hown.lookup_int lawK Try.underlying36 Try.underlying3 (zeroI w) (keyOfI hk)
  obtain ⟨c2, rfl, hc2, _⟩ := plainElem_int_inv Try.underlying3 hv
  have e : c2 = c := by
    have := congrArg Prod.fst hc2
    simp only at this
    rw [hat] at this
    injection this with this
    injection this with _ this
    exact this.symm
  subst e
  refine ⟨c2, by rw [← hh k]; exact hrun, hrun2, fun e he hek => ?_⟩
  have h1 := ha e he
  rw [hek, hat] at h1
  injection h1 with h1
  injection h1
/-- A look-up in whatever world grows out of this. -/
theorem FM.lookE {mb : Nat} {E : List (List Int × Nat)} {w : World} (h : FM mb E w) {k : Int} (hk : (-9223372036854775808 ≤ k ∧ k ≤ 9223372036854775807)) : ∃ v : Int, (∀ w', Below w.heap.size w w' → (Instr.lookup 36 (.map (some mb)) (.int .i64 k) true).run Try.prog w' = .ok (.tuple #[.int .i64 v, .bool (E.any fun e => keyZ e.1 == k)]) w' ∧
    (Instr.lookup 36 (.map (some mb)) (.int .i64 k) false).run Try.prog w' = .ok (.int .i64 v) w') ∧ ∀ e ∈ E, keyZ e.1 = k → v = (e.2 : Nat) := by
  obtain ⟨D, hown, _, hh, ha⟩ := h
  obtain ⟨v, ps, hrun, hv⟩ := hown.look_ok lawK Try.underlying36 (zeroI w) (plainElem_int Try.underlying3 (by decide)) (keyOfI hk)
  obtain ⟨c, hrun2, hat, hwc⟩ := hown.lookup_int lawK Try.underlying36 Try.underlying3 (zeroI w) (keyOfI hk)
  refine ⟨c, fun w' hb => ?_, fun e he hek => ?_⟩
  · have hown' : w'.ownsMap Try.prog 3 (plainElem Try.prog 3) mb E.length D := by
      obtain ⟨es, cl, h1, h2⟩ := hown
      exact ⟨es, cl, (hb.block mb (Array.getElem?_eq_some_iff.1 h1).1).trans h1, h2⟩
    obtain ⟨v, ps, hrun, hv⟩ := hown'.look_ok lawK Try.underlying36 (zeroI w') (plainElem_int Try.underlying3 (by decide)) (keyOfI hk)
    obtain ⟨c', hrun2', hat', _⟩ := hown'.lookup_int lawK Try.underlying36 Try.underlying3 (zeroI w') (keyOfI hk)
    obtain ⟨c2, rfl, hc2, _⟩ := plainElem_int_inv Try.underlying3 hv
    have ec : c' = c := by
      rw [hat] at hat'
      injection hat' with e
      injection e with _ e
      exact e.symm
    subst ec
    have e : c2 = c' := by
      have := congrArg Prod.fst hc2
      simp only at this
      rw [hat] at this
      injection this with this
      injection this with _ this
      exact this.symm
    subst e
    exact ⟨by rw [← hh k]; exact hrun, hrun2'⟩
  · have h1 := ha e he
    rw [hek, hat] at h1
    injection h1 with h1
    injection h1
/-- A store of a way to stand that was not known. -/
theorem FM.put {mb : Nat} {E : List (List Int × Nat)} {w w' : World} (s : List Int) (d : Nat) {D : DataW Unit} (hM : IsMap D) (hh : ∀ k : Int, Maps.has D (.int .i64 k) = E.any fun e => keyZ e.1 == k) (ha : ∀ e ∈ E, D.atKey (.int .i64 (keyZ e.1)) (.lit (.int .i64 0)) = .lit (.int .i64 (e.2 : Nat)))
    (hnew : ∀ e ∈ E, keyZ e.1 ≠ keyZ s) (hkey : WideAt.IsKeyLit (.int .i64 (keyZ s))) (hown : w'.ownsMap Try.prog 3 (plainElem Try.prog 3) mb (E.length + 1) (D.put (.int .i64 (keyZ s)) (.lit (.int .i64 (d : Nat))))) : FM mb (E ++ [(s, d)]) w' := by
  refine ⟨_, by rw [List.length_append]; exact hown, hM.put _ _, fun k => ?_, fun e he => ?_⟩
  · rw [List.any_append]
    by_cases hk : k = keyZ s
    · subst hk
      rw [has_put_same hM hkey]
      simp
    · rw [has_put_other (by intro e; injection e with _ e; exact hk e), hh k]
      simp
      intro e; exact absurd e.symm hk
  · rcases List.mem_append.1 he with he | he
    · rw [atKey_put_other (by intro e2; injection e2 with _ e2; exact hnew e he e2)]
      exact ha e he
    · simp at he
      subst he
      exact atKey_put_same hM hkey _ _
/-- Ways to stand are told apart by their numbers. -/
theorem keyZ_inj : ∀ (a b : List Int), a.length = b.length → (∀ x ∈ a, 0 ≤ x ∧ x < 12) → (∀ x ∈ b, 0 ≤ x ∧ x < 12) → keyZ a = keyZ b → a = b := by
  have key : ∀ (n : Nat) (a b : List Int), a.length = n → b.length = n → (∀ x ∈ a, 0 ≤ x ∧ x < 12) → (∀ x ∈ b, 0 ≤ x ∧ x < 12) → keyZ a = keyZ b → a = b := by
    intro n
    induction n with
    | zero =>
      intro a b ha hb _ _ _
      rw [List.length_eq_zero_iff.1 ha, List.length_eq_zero_iff.1 hb]
    | succ n ih =>
      intro a b ha hb h1 h2 hk
      obtain ⟨a', x, rfl⟩ : ∃ a' x, a = a' ++ [x] := ⟨a.dropLast, a.getLast (by intro e; rw [e] at ha; cases ha), (List.dropLast_concat_getLast _).symm⟩
      obtain ⟨b', y, rfl⟩ : ∃ b' y, b = b' ++ [y] := ⟨b.dropLast, b.getLast (by intro e; rw [e] at hb; cases hb), (List.dropLast_concat_getLast _).symm⟩
      have e1 : keyZ (a' ++ [x]) = keyZ a' * 12 + x := by unfold keyZ; rw [List.foldl_append]; rfl
      have e2 : keyZ (b' ++ [y]) = keyZ b' * 12 + y := by unfold keyZ; rw [List.foldl_append]; rfl
      rw [e1, e2] at hk
      have hx := h1 x (by simp)
      have hy := h2 y (by simp)
      have hxy : x = y := by omega
      have hab : keyZ a' = keyZ b' := by omega
      rw [ih a' b' (by simpa using ha) (by simpa using hb) (fun z hz => h1 z (by simp [hz])) (fun z hz => h2 z (by simp [hz])) hab, hxy]
  intro a b hl h1 h2 hk
  exact key b.length a b hl rfl h1 h2 hk
theorem okS_bd {to : List Int} {sl : Int} {s : List Int} (h : okS to sl s) : ∀ x ∈ s, 0 ≤ x ∧ x < 12 := by
  intro x hx
  obtain ⟨i, hi, rfl⟩ := List.getElem_of_mem hx
  have := h i hi
  unfold okAt at this
  rw [List.getD_eq_getElem?_getD, List.getElem?_eq_getElem hi] at this
  exact ⟨this.1, this.2.1⟩
end Go.Proofs.Ytoooihoaapfjeaa

namespace Go.Proofs.Ytoooihoaapfjeaa
open Go.RowKit
set_option linter.unusedVariables false
set_option linter.unusedSimpArgs false
open Ps Go.Maps
/-- A way to stand: the caller's own list, or one that the call has made. -/
def EL (w0 w : World) (v : Value) (s : List Int) : Prop := (∃ A c, v = .slice A s.length c ∧ IsInts w0 A s.length s) ∨ IntRow w v s
theorem EL.ints {w0 w : World} {v : Value} {s : List Int} (h : EL w0 w v s) (hb : Below w0.heap.size w0 w) : ∃ A c, v = .slice A s.length c ∧ IsInts w A s.length s := by
  rcases h with ⟨A, c, e, hi⟩ | h
  · exact ⟨A, c, e, hi.below hb⟩
  · exact h.ints
theorem EL.keep {B : Obj → Bool} {w0 w w' : World} {v : Value} {s : List Int} (h : EL w0 w v s) (hk : TyO B w w') (hB : ∀ c fz, B (.cells c 3 fz) = false) : EL w0 w' v s := by
  rcases h with h | h
  · exact .inl h
  · exact .inr (hk.introw h hB)
/-- A queue of ways to stand, in block g. -/
structure QG (w0 : World) (g o c : Nat) (L : List (List Int)) (cur : Array Value) (vs : List Value) (w : World) : Prop where
  le : L.length ≤ c
  lim : c ≤ maxLen
  hp : w.heap[g]? = some (.cells cur 22 (0, 0))
  sz : o + c ≤ cur.size
  ln : vs.length = L.length
  el : ∀ j, j < L.length → cur[o + j]? = some (vs.getD j (.slice none 0 0))
  ro : ∀ j, j < L.length → EL w0 w (vs.getD j (.slice none 0 0)) (L.getD j [])
theorem QG.keep {B : Obj → Bool} {w0 : World} {g o c : Nat} {L : List (List Int)} {cur : Array Value} {vs : List Value} {w w' : World} (h : QG w0 g o c L cur vs w) (hk : TyO B w w') (hB : ∀ c fz, B (.cells c 3 fz) = false) (hB2 : ∀ c fz, B (.cells c 22 fz) = false) : QG w0 g o c L cur vs w' :=
  ⟨h.le, h.lim, (hk.block g _ h.hp (hB2 _ _)).trans h.hp, h.sz, h.ln, h.el, fun j hj => (h.ro j hj).keep hk hB⟩
theorem QG.cell {w0 : World} {g o c : Nat} {L : List (List Int)} {cur : Array Value} {vs : List Value} {w : World} (h : QG w0 g o c L cur vs w) {j : Nat} (hj : j < L.length) : w.cell? ⟨g, o + j, none⟩ = some (vs.getD j (.slice none 0 0)) := by
  simp [World.cell?, h.hp, h.el j hj]
theorem QG.frozen {w0 : World} {g o c : Nat} {L : List (List Int)} {cur : Array Value} {vs : List Value} {w : World} (h : QG w0 g o c L cur vs w) (j : Nat) : w.frozen? ⟨g, j, none⟩ = false := by
  simp [World.frozen?, h.hp]
/-- All that lies in memory while far goes on: the puzzle, the map's cell, the queue's cell, the map. -/
structure FI (pb fb qb mb : Nat) (ta : Option Addr) (tn tc : Nat) (sl : Int) (E : List (List Int × Nat)) (Q : List (List Int)) (g o c : Nat) (cur : Array Value) (vs : List Value) (w0 w : World) : Prop where
  pz : w.rowIs pb 35 2 (pzF ta tn tc sl)
  fc : w.rowIs fb 36 1 (fun _ => .map (some mb))
  qc : w.rowIs qb 53 1 (fun _ => .slice (some ⟨g, o, none⟩) Q.length c)
  q : QG w0 g o c Q cur vs w
  fm : FM mb E w
  bel : Below w0.heap.size w0 w
  op : w0.heap.size ≤ pb
  of : w0.heap.size ≤ fb
  oq : w0.heap.size ≤ qb
  om : w0.heap.size ≤ mb
  og : w0.heap.size ≤ g
def Bmap (o : Obj) : Bool := match o with
  | .map _ _ => true
  | _ => false
def Bq (o : Obj) : Bool := match o with
  | .cells _ t _ => Nat.beq t 53
  | _ => false
def Bg (o : Obj) : Bool := match o with
  | .cells _ t _ => Nat.beq t 22
  | _ => false
section
variable {pb fb qb mb : Nat} {ta : Option Addr} {tn tc : Nat} {sl : Int} {E : List (List Int × Nat)} {Q : List (List Int)} {g o c : Nat} {cur : Array Value} {vs : List Value} {w0 w w' : World}
theorem FI.grow (h : FI pb fb qb mb ta tn tc sl E Q g o c cur vs w0 w) (hb : Below w.heap.size w w') : FI pb fb qb mb ta tn tc sl E Q g o c cur vs w0 w' := by
  have hk : TyO (fun _ => false) w w' := TyO.below hb
  exact ⟨hk.row h.pz (fun _ _ => rfl), hk.row h.fc (fun _ _ => rfl), hk.row h.qc (fun _ _ => rfl), h.q.keep hk (fun _ _ => rfl) (fun _ _ => rfl), h.fm.keep hk (fun _ _ => rfl), h.bel.trans (hb.mono h.bel.size), h.op, h.of, h.oq, h.om, h.og⟩
/-- Loops of others: what is no cells, and no map, has changed. -/
theorem FI.kept {row : Option Nat} (h : FI pb fb qb mb ta tn tc sl E Q g o c cur vs w0 w) (hg : w.grownBy w' row) (hr : ∀ r, row = some r → w0.heap.size ≤ r ∧ r ≠ mb ∧ ∃ o : Obj, w.heap[r]? = some o ∧ o.isCells = false) : FI pb fb qb mb ta tn tc sl E Q g o c cur vs w0 w' := by
  have hne : ∀ k ob, w.heap[k]? = some ob → (ob.isCells = true ∨ k = mb) → w'.heap[k]? = w.heap[k]? := fun k ob e hc => by
    refine hg.block k (Array.getElem?_eq_some_iff.1 e).1 fun e2 => ?_
    obtain ⟨_, hm, ob2, e3, e4⟩ := hr k e2.symm
    rw [e] at e3
    injection e3 with e3
    subst e3
    rcases hc with hc | hc
    · rw [hc] at e4; cases e4
    · exact hm hc
  have hrow : ∀ {k t n : Nat} {f : Nat → Value}, w.rowIs k t n f → w'.rowIs k t n f := fun {k t n f} hrw => by
    have h2 := hrw
    obtain ⟨cc, e, _⟩ := h2
    exact hrw.of_block (hne k _ e (.inl rfl))
  refine ⟨hrow h.pz, hrow h.fc, hrow h.qc, ⟨h.q.le, h.q.lim, (hne g _ h.q.hp (.inl rfl)).trans h.q.hp, h.q.sz, h.q.ln, h.q.el, fun j hj => ?_⟩, ?_, h.bel.grown hg h.bel.size (fun k e => (hr k e).1), h.op, h.of, h.oq, h.om, h.og⟩
  · rcases h.q.ro j hj with h1 | h1
    · exact .inl h1
    · exact .inr (h1.of_block fun g cap f hg => by
        obtain ⟨cc, e, _⟩ := hg
        exact hne g _ e (.inl rfl))
  · obtain ⟨D, ⟨es, cl, h1, h2⟩, h3⟩ := h.fm
    exact ⟨D, ⟨es, cl, (hne mb _ h1 (.inr rfl)).trans h1, h2⟩, h3⟩
/-- The map is written. -/
theorem FI.mapd {E' : List (List Int × Nat)} (h : FI pb fb qb mb ta tn tc sl E Q g o c cur vs w0 w) (hg : w.grownBy w' (some mb)) (hf : FM mb E' w') : FI pb fb qb mb ta tn tc sl E' Q g o c cur vs w0 w' := by
  obtain ⟨D, ⟨es, cl, h1, _⟩, _⟩ := h.fm
  have hk : TyO Bmap w w' := TyO.grown hg h1 rfl
  exact ⟨hk.row h.pz (fun _ _ => rfl), hk.row h.fc (fun _ _ => rfl), hk.row h.qc (fun _ _ => rfl), h.q.keep hk (fun _ _ => rfl) (fun _ _ => rfl), hf, h.bel.grown hg h.bel.size (fun k e => by injection e with e; have := h.om; omega), h.op, h.of, h.oq, h.om, h.og⟩
/-- The queue grows in place. -/
theorem FI.pushIn (h : FI pb fb qb mb ta tn tc sl E Q g o c cur vs w0 w) {v : Value} {s : List Int} (hs : EL w0 w v s) (hc : Q.length + 1 ≤ c) :
    FI pb fb qb mb ta tn tc sl E (Q ++ [s]) g o c (cur.setIfInBounds (o + Q.length) v) (vs ++ [v]) w0 ((w.setCell ⟨g, o + Q.length, none⟩ v).setCell ⟨qb, 0, none⟩ (.slice (some ⟨g, o, none⟩) (Q.length + 1) c)) := by
  have k1 : TyO Bg w (w.setCell ⟨g, o + Q.length, none⟩ v) := TyO.setCell h.q.hp rfl
  have hqc1 := k1.row h.qc (fun _ _ => rfl)
  obtain ⟨cq, eq_, _⟩ := hqc1
  have k2 : TyO Bq (w.setCell ⟨g, o + Q.length, none⟩ v) ((w.setCell ⟨g, o + Q.length, none⟩ v).setCell ⟨qb, 0, none⟩ (.slice (some ⟨g, o, none⟩) (Q.length + 1) c)) := TyO.setCell eq_ rfl
  have hqc1 := k1.row h.qc (fun _ _ => rfl)
  refine ⟨k2.row (k1.row h.pz (fun _ _ => rfl)) (fun _ _ => rfl), k2.row (k1.row h.fc (fun _ _ => rfl)) (fun _ _ => rfl), ?_, ?_, (h.fm.keep k1 (fun _ _ => rfl)).keep k2 (fun _ _ => rfl), (h.bel.setCell h.og _).setCell h.oq _, h.op, h.of, h.oq, h.om, h.og⟩
  · refine (hqc1.set 0 _).congr fun i hi => ?_
    obtain rfl : i = 0 := by omega
    simp
  · have hq1 : QG w0 g o c (Q ++ [s]) (cur.setIfInBounds (o + Q.length) v) (vs ++ [v]) (w.setCell ⟨g, o + Q.length, none⟩ v) := by
      refine ⟨by rw [List.length_append]; exact hc, h.q.lim, ?_, by simp; exact h.q.sz, by simp [h.q.ln], ?_, ?_⟩
      · simp [World.setCell, Array.getElem?_modify, h.q.hp]
      · intro j hj
        rw [List.length_append, List.length_singleton] at hj
        have hln := h.q.ln
        have hsz := h.q.sz
        by_cases hjq : j < Q.length
        · rw [Array.getElem?_setIfInBounds_ne (by omega), h.q.el j hjq, List.getD_eq_getElem?_getD, List.getD_eq_getElem?_getD, List.getElem?_append_left (by omega)]
        · obtain rfl : j = Q.length := by omega
          rw [Array.getElem?_setIfInBounds_self_of_lt (by omega), List.getD_eq_getElem?_getD, List.getElem?_append_right (by omega), hln, Nat.sub_self]
          rfl
      · intro j hj
        rw [List.length_append, List.length_singleton] at hj
        have hln := h.q.ln
        by_cases hjq : j < Q.length
        · rw [List.getD_eq_getElem?_getD, List.getElem?_append_left (by omega), List.getD_eq_getElem?_getD, List.getElem?_append_left hjq, ← List.getD_eq_getElem?_getD, ← List.getD_eq_getElem?_getD]
          exact (h.q.ro j hjq).keep k1 (fun _ _ => rfl)
        · obtain rfl : j = Q.length := by omega
          rw [List.getD_eq_getElem?_getD, List.getElem?_append_right (by omega), List.getD_eq_getElem?_getD, List.getElem?_append_right (Nat.le_refl _), hln, Nat.sub_self]
          exact hs.keep k1 (fun _ _ => rfl)
    exact hq1.keep k2 (fun _ _ => rfl) (fun _ _ => rfl)
end
end Go.Proofs.Ytoooihoaapfjeaa
