/- Chapter 10: plain.Loom where the loom is opened. -/
import Derived.Test.YtefmlepogpjhmaaLm9
namespace Go.Proofs.Ytefmlepogpjhmaa
open Go.RowKit
set_option linter.unusedVariables false
set_option linter.unusedSimpArgs false
open Lm
theorem runT_inv {W H : Nat} (bs : List Bool) (ws : List Int) (sc : List Step) (hH : 1 ≤ H) : ∀ k, Ok H (runT W H bs ws sc k).2.1 ∧ (runT W H bs ws sc k).2.2.ws.length = ws.length
  | 0 => ⟨begin_ok hH ws, rfl⟩
  | k + 1 => by
    obtain ⟨h1, h2⟩ := runT_inv bs ws sc hH k
    simp only [runT, Lm.step]
    generalize (runT W H bs ws sc k).2.1 = l at *
    generalize (runT W H bs ws sc k).2.2 = d at *
    generalize sc.getD k ⟨0, false, 0⟩ = x at *
    have hd : (if x.pw = 0 then d else { d with left := IntKind.i64.wrap (x.pw - 1) } : Dk).ws.length = ws.length := by split <;> exact h2
    generalize (if x.pw = 0 then d else { d with left := IntKind.i64.wrap (x.pw - 1) } : Dk) = d1 at *
    have hl : Ok H (if x.op = true then begin_ H d1.ws else l) := by
      split
      · exact begin_ok hH _
      · exact h1
    generalize (if x.op = true then begin_ H d1.ws else l) = l1 at *
    split
    · exact ⟨hl, hd⟩
    · exact ⟨tell_ok hl, by rw [tell_len]; exact hd⟩
/-- A loom that plays: all that lies in memory. -/
structure PM (mb bd g cp a : Nat) (W H : Nat) (A : Option Addr) (n c : Nat) (A' : Option Addr) (c' : Nat) (bs : List Bool) (l : St) (d : Dk) (v : Value) (L : List Seen) (w0 w : World) : Prop where
  pl : PL mb bd g cp W H A n c d w0 w
  lm : LMr a bd W H (.slice A' n c') l w
  bits : BoolRow w (.slice A' n c') bs
  out : OutS mb v L w
  la : w0.heap.size ≤ a
  cc : n ≤ c'
theorem own_le {w : World} {base e n c : Nat} {A : Option Addr} {xs : List Value} (h : w.ownsRow base e 1 (.slice A n c) n xs) : n ≤ c := by
  rcases h.2 with ⟨e1, h0⟩ | ⟨g, cap, cur, e1, _, _, h1, _⟩
  · omega
  · injection e1 with _ _ e2; omega
theorem boolrow_below {w w' : World} {v : Value} {bs : List Bool} (h : BoolRow w v bs) (hb : Below w.heap.size w w') : BoolRow w' v bs := h.of_block fun g cap f hg => hb.block g hg.lt
theorem PM.grow {mb bd g cp a W H : Nat} {A : Option Addr} {n c : Nat} {A' : Option Addr} {c' : Nat} {bs : List Bool} {l : St} {d : Dk} {v : Value} {L : List Seen} {w0 w w' : World} (h : PM mb bd g cp a W H A n c A' c' bs l d v L w0 w) (hb : Below w.heap.size w w') : PM mb bd g cp a W H A n c A' c' bs l d v L w0 w' :=
  ⟨h.pl.grow hb, LMk h.lm hb, boolrow_below h.bits hb, h.out.below hb, h.la, h.cc⟩
theorem PM.setL {mb bd g cp a W H : Nat} {A : Option Addr} {n c : Nat} {A' : Option Addr} {c' : Nat} {bs : List Bool} {l : St} {d : Dk} {v : Value} {L : List Seen} {w0 w : World} (h : PM mb bd g cp a W H A n c A' c' bs l d v L w0 w) (y : Int) (hy : (-9223372036854775808 ≤ y ∧ y ≤ 9223372036854775807)) : PM mb bd g cp a W H A n c A' c' bs l { d with left := y } v L w0 (w.setCell ⟨bd, 1, none⟩ (.int .i64 y)) :=
  ⟨h.pl.setL y hy, h.lm.of_block (Below.heap_setCell _ _ _ a (do_ne h.lm h.pl.d).1), h.bits.of_block fun q cap f hq => Below.heap_setCell _ _ _ q (fun e => by
    have e : q = bd := e
    subst e
    obtain ⟨c1, e1, _⟩ := hq
    exact absurd (ty_ne h.pl.d.row e1) (by decide)), h.out.set h.pl.d.row (by decide) (out_ne h.out h.pl.d.row (by decide)), h.la, h.cc⟩
theorem PM.told {mb bd g cp a W H : Nat} {A : Option Addr} {n c : Nat} {A' : Option Addr} {c' : Nat} {bs : List Bool} {l l' : St} {d d' : Dk} {v : Value} {L : List Seen} {w0 w w' : World} (h : PM mb bd g cp a W H A n c A' c' bs l d v L w0 w) (hm : LMr a bd W H (.slice A' n c') l' w') (hd : DK bd g cp d' w') (hk : Keep3 a bd g w w') : PM mb bd g cp a W H A n c A' c' bs l' d' v L w0 w' := by
  have hma : mb ≠ a := fun e => by
    subst e
    obtain ⟨c1, e1, _⟩ := h.lm
    exact absurd (ty_ne h.pl.m e1) (by decide)
  refine ⟨⟨hk.rowIs h.pl.m hma h.pl.mbd h.pl.mg, hd, h.pl.bel.trans ⟨hk.os, hk.tape, hk.output, by have := h.pl.bel.size; have := hk.size; omega, fun k hk2 => hk.block k (Nat.lt_of_lt_of_le hk2 h.pl.bel.size) (by have := h.la; omega) (by have := h.pl.o2; omega) (by have := h.pl.o3; omega)⟩, h.pl.o1, h.pl.o2, h.pl.o3, h.pl.mbd, h.pl.mg⟩, hm, ?_, h.out.keep hk h.lm h.pl.d, h.la, h.cc⟩
  refine h.bits.of_block fun q cap f hq => hk.block q hq.lt (fun e => ?_) (fun e => ?_) (fun e => ?_)
  · subst e
    obtain ⟨c1, e1, _⟩ := hq
    exact absurd (ty_ne h.lm e1) (by decide)
  · subst e
    obtain ⟨c1, e1, _⟩ := hq
    exact absurd (ty_ne h.pl.d.row e1) (by decide)
  · subst e
    obtain ⟨c1, e1, _⟩ := hq
    obtain ⟨_, _, _, _, cur, e2, _⟩ := own_parts h.pl.d.own
    rw [e1] at e2
    injection e2 with e2
    injection e2 with _ e3
    exact absurd e3 (by decide)
theorem PM.open_ {mb bd g cp a a2 W H : Nat} {A : Option Addr} {n c : Nat} {A' A2 : Option Addr} {c' c2 : Nat} {bs : List Bool} {l l' : St} {d : Dk} {v : Value} {L : List Seen} {w0 w w' : World} (h : PM mb bd g cp a W H A n c A' c' bs l d v L w0 w) (hl : bs.length = n) (hm : LMr a2 bd W H (.slice A2 n c2) l' w') (ho : w'.ownsRow w.heap.size 4 1 (.slice A2 n c2) n (bs.map Value.bool)) (ha : w.heap.size ≤ a2) (hb : Below w.heap.size w w') : PM mb bd g cp a2 W H A n c A2 c2 bs l' d v L w0 w' :=
  ⟨h.pl.grow hb, hm, BoolRow.of_own (base := w.heap.size) (by rw [hl]; exact ho), h.out.below hb, Nat.le_trans h.pl.bel.size ha, own_le ho⟩
/-- The same with a box of a struct that is being filled, or a step. -/
theorem PM.set {mb bd g cp a W H : Nat} {A : Option Addr} {n c : Nat} {A' : Option Addr} {c' : Nat} {bs : List Bool} {l : St} {d : Dk} {v : Value} {L : List Seen} {w0 w : World} {xb i : Nat} {u : Value} {f : Nat → Value} (h : PM mb bd g cp a W H A n c A' c' bs l d v L w0 w) (hx : w.rowIs xb 34 6 f) (h0 : w0.heap.size ≤ xb) (hne : ∀ q, v.ownBlock = some q → xb ≠ q) : PM mb bd g cp a W H A n c A' c' bs l d v L w0 (w.setCell ⟨xb, i, none⟩ u) := by
  have ne : ∀ k t n' (f' : Nat → Value), w.rowIs k t n' f' → t ≠ 34 → k ≠ xb := fun k t n' f' hr ht e => by
    subst e
    obtain ⟨c1, e1, _⟩ := hr
    exact ht (ty_ne hx e1)
  refine ⟨⟨h.pl.m.of_block (Below.heap_setCell _ _ _ mb (ne _ _ _ _ h.pl.m (by decide))), ⟨h.pl.d.row.of_block (Below.heap_setCell _ _ _ bd (ne _ _ _ _ h.pl.d.row (by decide))), own_other h.pl.d.own (fun e => ?_), h.pl.d.ne, h.pl.d.wf, h.pl.d.lf⟩, h.pl.bel.setCell h0 _, h.pl.o1, h.pl.o2, h.pl.o3, h.pl.mbd, h.pl.mg⟩, h.lm.of_block (Below.heap_setCell _ _ _ a (ne _ _ _ _ h.lm (by decide))), h.bits.of_block (fun q cap f hq => Below.heap_setCell _ _ _ q (ne _ _ _ _ hq (by decide))), h.out.set hx (by decide) hne, h.la, h.cc⟩
  have e : g = xb := e
  subst e
  obtain ⟨_, _, _, _, cur, e2, _⟩ := own_parts h.pl.d.own
  obtain ⟨c1, e1, _⟩ := hx
  rw [e1] at e2
  injection e2 with e2
  injection e2 with _ e3
  exact absurd e3 (by decide)
theorem PM.grown {mb bd g cp a W H : Nat} {A : Option Addr} {n c : Nat} {A' : Option Addr} {c' : Nat} {bs : List Bool} {l : St} {d : Dk} {v v' : Value} {L L' : List Seen} {w0 w w' : World} (h : PM mb bd g cp a W H A n c A' c' bs l d v L w0 w) (hg : w.grownBy w' v.ownBlock) (ho : OutS mb v' L' w') : PM mb bd g cp a W H A n c A' c' bs l d v' L' w0 w' := by
  have h1 : ∀ k, k < w.heap.size → (∀ q, v.ownBlock = some q → k ≠ q) → w'.heap[k]? = w.heap[k]? := fun k hk hne => hg.block k hk (fun e => hne k e.symm rfl)
  refine ⟨h.pl.grown hg h.out, h.lm.of_block (h1 _ h.lm.lt (out_ne h.out h.lm (by decide))), h.bits.of_block fun q cap f hq => h1 q hq.lt (out_ne h.out hq (by decide)), ho, h.la, h.cc⟩
end Go.Proofs.Ytefmlepogpjhmaa
