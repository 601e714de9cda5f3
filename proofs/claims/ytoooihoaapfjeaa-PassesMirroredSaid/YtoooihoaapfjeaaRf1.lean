/- Ranging over the rows of truths. -/
import Derived.Test.YtoooihoaapfjeaaTr
import Derived.RangeFuncNested
import Derived.RangeFuncBox
import Derived.RangeFuncBound
import Derived.RangeFuncCalls
import Derived.RangeFuncLeaves
import Derived.Shelf.Abstract
import Derived.OwnWalkIn
import Derived.TacticsInMore
import Derived.LoopNIn
import Derived.LoopIn
namespace Go.Proofs.Ytoooihoaapfjeaa
open Go.RowKit
set_option linter.unusedVariables false
set_option linter.unusedSimpArgs false
open Go.Shelf
attribute [local go_sem] Oper.semAt_some
/-- Block tb holds right truths. -/
structure TB (tb W H : Nat) (a : Option Addr) (n c : Nat) (bs : List Bool) (w : World) : Prop where
  c0 : w.cell? ⟨tb, 0, none⟩ = some (.int .i64 (W))
  c1 : w.cell? ⟨tb, 1, none⟩ = some (.int .i64 (H))
  c2 : w.cell? ⟨tb, 2, none⟩ = some (.slice a n c)
  bits : IsBools w a n bs
theorem TB.below {tb W H : Nat} {a : Option Addr} {n c : Nat} {bs : List Bool} {w w' : World} (h : TB tb W H a n c bs w) (hb : Below w.heap.size w w') : TB tb W H a n c bs w' :=
  ⟨bCs hb h.c0, bCs hb h.c1, bCs hb h.c2, h.bits.below hb⟩
theorem IsBools.kept {W W' : World} {row : Option Nat} {a : Option Addr} {n : Nat} {bs : List Bool} (h : IsBools W a n bs) (hg : W.grownBy W' row) (hr : ∀ r, row = some r → ∃ o : Obj, W.heap[r]? = some o ∧ o.isCells = false) : IsBools W' a n bs := by
  refine ⟨h.1, fun hn => ?_⟩
  obtain ⟨b, o, h1, h2, h3⟩ := h.2 hn
  exact ⟨b, o, h1, Nat.lt_of_lt_of_le h2 hg.size, fun j hj => cell_kept (h3 j hj) hg hr⟩
theorem TB.kept {tb W H : Nat} {a : Option Addr} {n c : Nat} {bs : List Bool} {w w' : World} {row : Option Nat} (h : TB tb W H a n c bs w) (hg : w.grownBy w' row) (hr : ∀ r, row = some r → ∃ o : Obj, w.heap[r]? = some o ∧ o.isCells = false) : TB tb W H a n c bs w' :=
  ⟨cell_kept h.c0 hg hr, cell_kept h.c1 hg hr, cell_kept h.c2 hg hr, h.bits.kept hg hr⟩
theorem rowIs_kept {W W' : World} {row : Option Nat} {b t n : Nat} {f : Nat → Value} (h : W.rowIs b t n f) (hg : W.grownBy W' row) (hr : ∀ r, row = some r → ∃ o : Obj, W.heap[r]? = some o ∧ o.isCells = false) : W'.rowIs b t n f := by
  have hlt := h.lt
  refine h.of_block (hg.block b hlt fun e => ?_)
  obtain ⟨o, ho, hc⟩ := hr b e.symm
  obtain ⟨cs, hb, _⟩ := h
  rw [hb] at ho; cases ho; cases hc
/-- Row y. -/
def rowV (a : Option Addr) (c W y : Nat) : Value := .slice (if c = y * W then a else a.map (·.add (y * W))) W (c - y * W)
theorem fin_take {H k : Nat} (hk : k < H) : (List.finRange H).take (k+1) = (List.finRange H).take k ++ [⟨k, hk⟩] := by
  rw [List.take_succ_eq_append_getElem (by simpa using hk)]
  simp
end Go.Proofs.Ytoooihoaapfjeaa
