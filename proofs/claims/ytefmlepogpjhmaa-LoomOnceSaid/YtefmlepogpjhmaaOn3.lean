/- Chapter 10: a workshop in memory. -/
import Derived.Test.YtefmlepogpjhmaaLm10
import Derived.Test.YtefmlepogpjhmaaOn2
namespace Go.Proofs.Ytefmlepogpjhmaa
open Go.RowKit
set_option linter.unusedVariables false
set_option linter.unusedSimpArgs false
open Lm
/-- Only blocks of some types are changed. -/
structure TyK (T : Nat → Bool) (w w' : World) : Prop where
  os : w'.os = w.os
  tape : w'.tape = w.tape
  output : w'.output = w.output
  size : w.heap.size ≤ w'.heap.size
  block : ∀ (k : Nat) (c : Array Value) (t : Nat) (f : Nat × Nat), w.heap[k]? = some (Obj.cells c t f) → T t = false → w'.heap[k]? = w.heap[k]?
theorem TyK.below {T : Nat → Bool} {w w' : World} (h : Below w.heap.size w w') : TyK T w w' := ⟨h.os, h.tape, h.output, h.size, fun k c t f e _ => h.block k (Array.getElem?_eq_some_iff.1 e).1⟩
theorem TyK.trans {T : Nat → Bool} {w1 w2 w3 : World} (h : TyK T w1 w2) (h' : TyK T w2 w3) : TyK T w1 w3 :=
  ⟨h'.os.trans h.os, h'.tape.trans h.tape, h'.output.trans h.output, Nat.le_trans h.size h'.size, fun k c t f e ht => by
    have e1 := h.block k c t f e ht
    rw [h'.block k c t f (e1.trans e) ht, e1]⟩
theorem TyK.set {T : Nat → Bool} {w : World} {k t n i : Nat} {f : Nat → Value} {u : Value} (hr : w.rowIs k t n f) (ht : T t = true) : TyK T w (w.setCell ⟨k, i, none⟩ u) :=
  ⟨rfl, rfl, rfl, by rw [World.size_setCell]; exact Nat.le_refl _, fun k' c t' f' e ht' => Below.heap_setCell _ _ _ k' fun e2 => by
    have e2 : k' = k := e2
    subst e2
    have := ty_ne hr e
    subst this
    rw [ht] at ht'
    cases ht'⟩
theorem TyK.grown {T : Nat → Bool} {w w' : World} {base e n : Nat} {v : Value} {xs : List Value} (hg : w.grownBy w' v.ownBlock) (ho : w.ownsRow base e 1 v n xs) (he : T e = true) : TyK T w w' :=
  ⟨hg.os, hg.tape, hg.output, hg.size, fun k c t f e1 ht => hg.block k (Array.getElem?_eq_some_iff.1 e1).1 fun e2 => by
    rcases ho.2 with ⟨e3, _⟩ | ⟨g, cap, cur, e3, _, e4, _⟩
    · rw [e3] at e2; cases e2
    · rw [e3] at e2
      have e5 : some k = some g := e2
      injection e5 with e5
      subst e5
      rw [e1] at e4
      injection e4 with e4
      injection e4 with _ e6
      subst e6
      rw [he] at ht
      cases ht⟩
theorem TyK.row {T : Nat → Bool} {w w' : World} {k t n : Nat} {f : Nat → Value} (h : TyK T w w') (hr : w.rowIs k t n f) (ht : T t = false) : w'.rowIs k t n f := by
  have hr2 := hr
  obtain ⟨c, e, _⟩ := hr2
  exact hr.of_block (h.block k _ _ _ e ht)
theorem TyK.own {T : Nat → Bool} {w w' : World} {base e n : Nat} {v : Value} {xs : List Value} (h : TyK T w w') (ho : w.ownsRow base e 1 v n xs) (he : T e = false) : w'.ownsRow base e 1 v n xs := by
  refine ⟨ho.1, ?_⟩
  rcases ho.2 with h1 | ⟨g, cap, cur, e1, e2, e3, e4⟩
  · exact .inl h1
  · exact .inr ⟨g, cap, cur, e1, e2, by rw [h.block g _ _ _ e3 he]; exact e3, e4⟩
theorem TyK.bools {T : Nat → Bool} {w w' : World} {v : Value} {bs : List Bool} (h : TyK T w w') (hr : BoolRow w v bs) (ht : T 4 = false) : BoolRow w' v bs :=
  hr.of_block fun g cap f hg => by
    obtain ⟨c, e, _⟩ := hg
    exact h.block g _ _ _ e ht
/-- The types of the blocks that a workshop writes. -/
def TT (t : Nat) : Bool := Nat.beq t 68 || Nat.beq t 48 || Nat.beq t 2 || Nat.beq t 73 || Nat.beq t 22
/-- Rows that were beaten, one behind the other. -/
def OutR (base : Nat) (v : Value) (L : List (List Bool)) (w : World) : Prop :=
  ∃ vs : List Value, w.ownsRow base 22 1 v L.length vs ∧ ∀ j, j < L.length → BoolRow w (vs.getD j (.slice none 0 0)) (L.getD j [])
theorem OutR.nil (base : Nat) (w : World) : OutR base (.slice none 0 0) [] w := ⟨[], World.ownsRow_nil _ _ _ _, fun j h => by simp at h⟩
theorem OutR.form {base : Nat} {v : Value} {L : List (List Bool)} {w : World} (h : OutR base v L w) : ∃ A c, v = .slice A L.length c := by
  obtain ⟨vs, h1, _⟩ := h
  exact own_form h1
theorem TyK.outR {T : Nat → Bool} {w w' : World} {base : Nat} {v : Value} {L : List (List Bool)} (h : TyK T w w') (ho : OutR base v L w) (h1 : T 4 = false) (h2 : T 22 = false) : OutR base v L w' := by
  obtain ⟨vs, ho, hr⟩ := ho
  exact ⟨vs, h.own ho h2, fun j hj => h.bools (hr j hj) h1⟩
theorem OutR.app {base : Nat} {v v' x : Value} {L : List (List Bool)} {bs : List Bool} {vs : List Value} {w wa w' : World} (ho : w.ownsRow base 22 1 v L.length vs) (hr : ∀ j, j < L.length → BoolRow w (vs.getD j (.slice none 0 0)) (L.getD j [])) (hx : BoolRow w x bs) (ha : Below w.heap.size w wa) (hown : w'.ownsRow base 22 1 v' (L.length + 1) (vs ++ [x])) (hg : wa.grownBy w' v.ownBlock) : OutR base v' (L ++ [bs]) w' := by
  have hk : TyK (fun t => Nat.beq t 22) w w' := (TyK.below ha).trans (TyK.grown hg (ownBelow ho ha) rfl)
  have hl : vs.length = L.length := by have := ho.1; omega
  refine ⟨vs ++ [x], by rw [List.length_append]; exact hown, fun j hj => ?_⟩
  rw [List.length_append, List.length_cons, List.length_nil] at hj
  by_cases e : j < L.length
  · rw [List.getD_eq_getElem?_getD, List.getD_eq_getElem?_getD, List.getElem?_append_left (by omega), List.getElem?_append_left e, ← List.getD_eq_getElem?_getD, ← List.getD_eq_getElem?_getD]
    exact hk.bools (hr j e) rfl
  · obtain rfl : j = L.length := by omega
    rw [List.getD_eq_getElem?_getD, List.getD_eq_getElem?_getD, List.getElem?_append_right (by omega), List.getElem?_append_right (Nat.le_refl _), hl]
    simpa using hk.bools hx rfl
def wkF (a : Nat) (rv v : Value) (x : WS) : Nat → Value := fun j =>
  if j = 0 then .pointer (some ⟨a, 0, none⟩) else if j = 1 then .int .i64 x.todo else if j = 2 then .bool x.up else if j = 3 then .bool x.thr else if j = 4 then rv else if j = 5 then v else .bool x.bad
/-- A workshop in memory: the disk, the loom, its bits, the workshop's own cells, the row in the shed, the rows that are beaten; and what else is not to be changed. -/
structure LW (bd g cp a wb base : Nat) (W H : Nat) (A' : Option Addr) (n c' : Nat) (bs : List Bool) (x : WS) (rv v : Value) (EX : World → Prop) (w0 w : World) : Prop where
  d : DK bd g cp x.d w
  lm : LMr a bd W H (.slice A' n c') x.l w
  bits : BoolRow w (.slice A' n c') bs
  cc : n ≤ c'
  ws : w.rowIs wb 68 7 (wkF a rv v x)
  row : BoolRow w rv x.row
  rows : OutR base v x.rows w
  ex : EX w
  exk : ∀ {w1 w2 : World}, TyK TT w1 w2 → EX w1 → EX w2
  bel : Below w0.heap.size w0 w
  la : w0.heap.size ≤ a
  lb : w0.heap.size ≤ bd
  lg : w0.heap.size ≤ g
  lw : w0.heap.size ≤ wb
  lr : w0.heap.size ≤ base
section
variable {bd g cp a wb base : Nat} {W H : Nat} {A' : Option Addr} {n c' : Nat} {bs : List Bool} {x : WS} {rv v : Value} {EX : World → Prop} {w0 w w' : World}
theorem TyK.dk {T : Nat → Bool} {D : Dk} (h : TyK T w w') (hd : DK bd g cp D w) (h1 : T 48 = false) (h2 : T 2 = false) : DK bd g cp D w' :=
  ⟨h.row hd.row h1, h.own hd.own h2, hd.ne, hd.wf, hd.lf⟩
theorem LW.grow (h : LW bd g cp a wb base W H A' n c' bs x rv v EX w0 w) (hb : Below w.heap.size w w') : LW bd g cp a wb base W H A' n c' bs x rv v EX w0 w' := by
  have hk : TyK (fun _ => false) w w' := TyK.below hb
  exact ⟨hk.dk h.d rfl rfl, hk.row h.lm rfl, hk.bools h.bits rfl, h.cc, hk.row h.ws rfl, hk.bools h.row rfl, hk.outR h.rows rfl rfl, h.exk (TyK.below hb) h.ex, h.exk, h.bel.trans (hb.mono h.bel.size), h.la, h.lb, h.lg, h.lw, h.lr⟩
/-- A cell of the workshop is written. -/
theorem LW.store (h : LW bd g cp a wb base W H A' n c' bs x rv v EX w0 w) {i : Nat} {u rv' : Value} {x' : WS} (hf : ∀ j, j < 7 → (if j = i then u else wkF a rv v x j) = wkF a rv' v x' j) (hl : x'.l = x.l) (hd : x'.d = x.d) (hrow : BoolRow w rv' x'.row) (hrows : x'.rows = x.rows) : LW bd g cp a wb base W H A' n c' bs x' rv' v EX w0 (w.setCell ⟨wb, i, none⟩ u) := by
  have hk : TyK (fun t => Nat.beq t 68) w (w.setCell ⟨wb, i, none⟩ u) := TyK.set h.ws rfl
  have hk2 : TyK TT w (w.setCell ⟨wb, i, none⟩ u) := TyK.set h.ws rfl
  exact ⟨by rw [hd]; exact hk.dk h.d rfl rfl, by rw [hl]; exact hk.row h.lm rfl, hk.bools h.bits rfl, h.cc, (h.ws.set i u).congr hf, hk.bools hrow rfl, by rw [hrows]; exact hk.outR h.rows rfl rfl, h.exk hk2 h.ex, h.exk, h.bel.setCell h.lw _, h.la, h.lb, h.lg, h.lw, h.lr⟩
/-- The disk's power is written. -/
theorem LW.power (h : LW bd g cp a wb base W H A' n c' bs x rv v EX w0 w) (y : Int) (hy : (-9223372036854775808 ≤ y ∧ y ≤ 9223372036854775807)) : LW bd g cp a wb base W H A' n c' bs { x with d := { x.d with left := y } } rv v EX w0 (w.setCell ⟨bd, 1, none⟩ (.int .i64 y)) := by
  have hk : TyK (fun t => Nat.beq t 48) w (w.setCell ⟨bd, 1, none⟩ (.int .i64 y)) := TyK.set h.d.row rfl
  have hk2 : TyK TT w (w.setCell ⟨bd, 1, none⟩ (.int .i64 y)) := TyK.set h.d.row rfl
  exact ⟨h.d.setL y hy, hk.row h.lm rfl, hk.bools h.bits rfl, h.cc, hk.row h.ws rfl, hk.bools h.row rfl, hk.outR h.rows rfl rfl, h.exk hk2 h.ex, h.exk, h.bel.setCell h.lb _, h.la, h.lb, h.lg, h.lw, h.lr⟩
theorem TyK.keep3 {T : Nat → Bool} {l : St} {D : Dk} {bv : Value} (hk : Keep3 a bd g w w') (hm : LMr a bd W H bv l w) (hd : DK bd g cp D w) (h1 : T 73 = true) (h2 : T 48 = true) (h3 : T 2 = true) : TyK T w w' :=
  ⟨hk.os, hk.tape, hk.output, hk.size, fun k c t f e ht => hk.block k (Array.getElem?_eq_some_iff.1 e).1 (fun e2 => by
    subst e2
    have := ty_ne hm e
    subst this
    rw [h1] at ht; cases ht) (fun e2 => by
    subst e2
    have := ty_ne hd.row e
    subst this
    rw [h2] at ht; cases ht) (fun e2 => by
    subst e2
    obtain ⟨_, _, _, _, cur, e3, _⟩ := own_parts hd.own
    rw [e] at e3
    injection e3 with e3
    injection e3 with _ e4
    subst e4
    rw [h3] at ht; cases ht)⟩
/-- The loom was told an event. -/
theorem LW.told (h : LW bd g cp a wb base W H A' n c' bs x rv v EX w0 w) {l' : St} {d' : Dk} (hm : LMr a bd W H (.slice A' n c') l' w') (hd : DK bd g cp d' w') (hk : Keep3 a bd g w w') : LW bd g cp a wb base W H A' n c' bs { x with l := l', d := d' } rv v EX w0 w' := by
  have k1 : TyK (fun t => Nat.beq t 73 || Nat.beq t 48 || Nat.beq t 2) w w' := TyK.keep3 hk h.lm h.d rfl rfl rfl
  have k2 : TyK TT w w' := TyK.keep3 hk h.lm h.d rfl rfl rfl
  exact ⟨hd, hm, k1.bools h.bits rfl, h.cc, k1.row h.ws rfl, k1.bools h.row rfl, k1.outR h.rows rfl rfl, h.exk k2 h.ex, h.exk, h.bel.trans ⟨hk.os, hk.tape, hk.output, by have := h.bel.size; have := hk.size; omega, fun k hk2 => hk.block k (Nat.lt_of_lt_of_le hk2 h.bel.size) (by have := h.la; omega) (by have := h.lb; omega) (by have := h.lg; omega)⟩, h.la, h.lb, h.lg, h.lw, h.lr⟩
/-- A row is beaten. -/
theorem LW.beat (h : LW bd g cp a wb base W H A' n c' bs x rv v EX w0 w) {vs : List Value} {v' : Value} {wa : World} (ho : w.ownsRow base 22 1 v x.rows.length vs) (hr : ∀ j, j < x.rows.length → BoolRow w (vs.getD j (.slice none 0 0)) (x.rows.getD j [])) (ha : Below w.heap.size w wa) (hown : w'.ownsRow base 22 1 v' (x.rows.length + 1) (vs ++ [rv])) (hg : wa.grownBy w' v.ownBlock) :
    LW bd g cp a wb base W H A' n c' bs { x with rows := x.rows ++ [x.row] } rv v' EX w0 (w'.setCell ⟨wb, 5, none⟩ v') := by
  have k1 : TyK (fun t => Nat.beq t 22) w w' := (TyK.below ha).trans (TyK.grown hg (ownBelow ho ha) rfl)
  have k1' : TyK TT w w' := (TyK.below ha).trans (TyK.grown hg (ownBelow ho ha) rfl)
  have hws := k1.row h.ws rfl
  have k2 : TyK (fun t => Nat.beq t 68) w' (w'.setCell ⟨wb, 5, none⟩ v') := TyK.set hws rfl
  have k2' : TyK TT w' (w'.setCell ⟨wb, 5, none⟩ v') := TyK.set hws rfl
  have hout := OutR.app ho hr h.row ha hown hg
  have hbel : Below w0.heap.size w0 w' := (h.bel.trans (ha.mono h.bel.size)).trans (belowGrown hg (Nat.le_trans h.bel.size ha.size) fun k hk => by
    have := (ho.lt k hk).1
    have := h.lr
    omega)
  refine ⟨k2.dk (k1.dk h.d rfl rfl) rfl rfl, k2.row (k1.row h.lm rfl) rfl, k2.bools (k1.bools h.bits rfl) rfl, h.cc, (hws.set 5 v').congr fun j hj => ?_, k2.bools (k1.bools h.row rfl) rfl, k2.outR hout rfl rfl, h.exk (k1'.trans k2') h.ex, h.exk, hbel.setCell h.lw _, h.la, h.lb, h.lg, h.lw, h.lr⟩
  have hj2 : j = 0 ∨ j = 1 ∨ j = 2 ∨ j = 3 ∨ j = 4 ∨ j = 5 ∨ j = 6 := by omega
  rcases hj2 with rfl | rfl | rfl | rfl | rfl | rfl | rfl <;> rfl
/-- The loom is opened anew. -/
theorem LW.opened (h : LW bd g cp a wb base W H A' n c' bs x rv v EX w0 w) {a2 c2 : Nat} {A2 : Option Addr} {l' : St} (hl : bs.length = n) (hm : LMr a2 bd W H (.slice A2 n c2) l' w') (ho : w'.ownsRow w.heap.size 4 1 (.slice A2 n c2) n (bs.map Value.bool)) (ha : w.heap.size ≤ a2) (hb : Below w.heap.size w w') :
    LW bd g cp a2 wb base W H A2 n c2 bs { x with l := l' } rv v EX w0 (w'.setCell ⟨wb, 0, none⟩ (.pointer (some ⟨a2, 0, none⟩))) := by
  have k1 : TyK (fun _ => false) w w' := TyK.below hb
  have hws := k1.row h.ws rfl
  have k2 : TyK (fun t => Nat.beq t 68) w' (w'.setCell ⟨wb, 0, none⟩ (.pointer (some ⟨a2, 0, none⟩))) := TyK.set hws rfl
  have k2' : TyK TT w' (w'.setCell ⟨wb, 0, none⟩ (.pointer (some ⟨a2, 0, none⟩))) := TyK.set hws rfl
  have hbits : BoolRow w' (.slice A2 n c2) bs := BoolRow.of_own (base := w.heap.size) (by rw [hl]; exact ho)
  refine ⟨k2.dk (k1.dk h.d rfl rfl) rfl rfl, k2.row hm rfl, k2.bools hbits rfl, own_le ho, (hws.set 0 _).congr fun j hj => ?_, k2.bools (k1.bools h.row rfl) rfl, k2.outR (k1.outR h.rows rfl rfl) rfl rfl, h.exk ((TyK.below hb).trans k2') h.ex, h.exk, (h.bel.trans (hb.mono h.bel.size)).setCell h.lw _, Nat.le_trans h.bel.size ha, h.lb, h.lg, h.lw, h.lr⟩
  have hj2 : j = 0 ∨ j = 1 ∨ j = 2 ∨ j = 3 ∨ j = 4 ∨ j = 5 ∨ j = 6 := by omega
  rcases hj2 with rfl | rfl | rfl | rfl | rfl | rfl | rfl <;> rfl
end
end Go.Proofs.Ytefmlepogpjhmaa
