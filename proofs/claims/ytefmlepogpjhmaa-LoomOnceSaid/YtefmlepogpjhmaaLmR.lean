/- Chapter 10: the row of bits that is put together in a box. -/
import Derived.Test.YtefmlepogpjhmaaLm15
import Derived.Test.YtefmlepogpjhmaaBit
namespace Go.Proofs.Ytefmlepogpjhmaa
open Go.RowKit
set_option linter.unusedVariables false
set_option linter.unusedSimpArgs false
open Lm
/-- Block xb holds what is seen; the bits of its row so far are L, in blocks of their own. -/
structure RB (xb : Nat) (x : Seen) (L : List Bool) (W1 : World) (v : Value) (w : World) : Prop where
  row : w.rowIs xb 34 6 (xF v x)
  own : w.ownsRow W1.heap.size 4 1 v L.length (L.map Value.bool)
  bel : BelowX W1.heap.size xb W1 w
theorem RB.start {xb : Nat} {x : Seen} {w : World} (h : w.rowIs xb 34 6 (xF (.slice none 0 0) x)) : RB xb x [] w (.slice none 0 0) w :=
  ⟨h, World.ownsRow_nil _ _ _ _, BelowX.refl (Nat.le_refl _)⟩
theorem RB.app {xb : Nat} {x : Seen} {L : List Bool} {n : Nat} {W1 w WE w2 : World} {v : Value} {A : Option Addr} {cp : Nat} {bit : Bool} (hr : w.rowIs xb 34 6 (xF v x)) (hx : BelowX W1.heap.size xb W1 w) (hE : Below w.heap.size w WE) (hm : xb < W1.heap.size)
    (hown : w2.ownsRow W1.heap.size 4 1 (.slice A (n + 1) cp) (n + 1) (L.map Value.bool ++ (#[Value.bool bit]).toList)) (hb : Below W1.heap.size WE w2) :
    RB xb x (L ++ [bit]) W1 (.slice A (n + 1) cp) (w2.setCell ⟨xb, 3, none⟩ (.slice A (n + 1) cp)) := by
  have hlt : xb < w.heap.size := Nat.lt_of_lt_of_le hm hx.size
  have hn : (L ++ [bit]).length = n + 1 := by
    have h1 := hown.1
    simp at h1
    simp; omega
  have hsz : w.heap.size ≤ WE.heap.size := hE.size
  refine ⟨?_, ?_, ?_⟩
  · refine ((rowBelow (rowBelow hr hE hlt) hb hm).set 3 _).congr fun i hi => ?_
    have hi3 : i = 0 ∨ i = 1 ∨ i = 2 ∨ i = 3 ∨ i = 4 ∨ i = 5 := by omega
    rcases hi3 with rfl | rfl | rfl | rfl | rfl | rfl <;> rfl
  · rw [hn, List.map_append]
    exact ownsRow_setCell_below hown (a := ⟨xb, 3, none⟩) hm _
  · refine ⟨hb.os.trans (hE.os.trans hx.os), hb.tape.trans (hE.tape.trans hx.tape), hb.output.trans (hE.output.trans hx.output), ?_, fun k hk hkm => ?_⟩
    · rw [World.size_setCell]; exact Nat.le_trans hx.size (Nat.le_trans hE.size hb.size)
    · rw [Below.heap_setCell _ _ _ k (fun e => hkm (by rw [e])), hb.block k hk, hE.block k (Nat.lt_of_lt_of_le hk hx.size), hx.block k hk hkm]
theorem RP.ofX {mb sb g cp xb : Nat} {W H : Int} {A : Option Addr} {n c : Nat} {ws : List Int} {fs f : Nat → Value} {v : Value} {L : List Seen} {w0 w w' : World} (h : RP mb sb g cp W H A n c ws fs v L w0 w) (hx : w.rowIs xb 34 6 f) (h0 : w0.heap.size ≤ xb) (hne : ∀ q, v.ownBlock = some q → xb ≠ q)
    (hb : BelowX w.heap.size xb w w') : RP mb sb g cp W H A n c ws fs v L w0 w' := by
  have ne : ∀ k t n' (f' : Nat → Value), w.rowIs k t n' f' → t ≠ 34 → k ≠ xb := fun k t n' f' hr ht e => by
    subst e
    obtain ⟨c1, e1, _⟩ := hr
    exact ht (ty_ne hx e1)
  have hg : g ≠ xb := fun e => by
    subst e
    obtain ⟨_, _, _, _, cur, e2, _⟩ := own_parts h.own
    exact absurd (ty_ne hx e2) (by decide)
  refine ⟨h.m.of_block (hb.block _ h.m.lt (ne _ _ _ _ h.m (by decide))), h.s.of_block (hb.block _ h.s.lt (ne _ _ _ _ h.s (by decide))), own_keep h.own (hb.block _ (own_lt h.own) hg), ?_, ⟨hb.os.trans h.bel.os, hb.tape.trans h.bel.tape, hb.output.trans h.bel.output, Nat.le_trans h.bel.size hb.size, fun k hk => (hb.block k (Nat.lt_of_lt_of_le hk h.bel.size) (by omega)).trans (h.bel.block k hk)⟩, h.o1, h.o2, h.o3⟩
  obtain ⟨vs, hl, ho, hr2⟩ := h.out
  refine ⟨vs, hl, ⟨ho.1, ?_⟩, fun j hj => (hr2 j hj).of_block fun g cap f hg => hb.block g hg.lt (ne _ _ _ _ hg (by decide))⟩
  rcases ho.2 with hn | ⟨g, cap, cur, rfl, e2, e3, e4⟩
  · exact .inl hn
  · exact .inr ⟨g, cap, cur, rfl, e2, by rw [hb.block g (Array.getElem?_eq_some_iff.1 e3).1 (fun e => hne g rfl e.symm)]; exact e3, e4⟩
theorem take_get (R : List Bool) (r : Nat) (h : r < R.length) : R.take (r + 1) = R.take r ++ [R.getD r false] := by
  rw [List.take_succ_eq_append_getElem h, List.getD_eq_getElem?_getD, List.getElem?_eq_getElem h]; rfl
theorem rowOf_get {W H n : Nat} {bs : List Bool} {l : St} (hl : bs.length = n) (hn : n = W * H) (ha : 1 ≤ l.at_ ∧ l.at_ ≤ 4) (hw : l.wv < H) : (rowOf W bs l).length = W ∧ ∀ r, r < W → l.wv * W + r < n ∧ (rowOf W bs l).getD r false = bs.getD (l.wv * W + r) false := by
  have hle : l.wv * W + W ≤ n := by
    rw [hn, Nat.mul_comm W H, ← Nat.succ_mul]
    exact Nat.mul_le_mul_right W hw
  have hlen : (rowOf W bs l).length = W := by
    unfold rowOf
    rw [if_pos ha, List.length_take, List.length_drop]; omega
  refine ⟨hlen, fun r hr => ⟨by omega, ?_⟩⟩
  unfold rowOf
  rw [if_pos ha, List.getD_eq_getElem?_getD, List.getElem?_take_of_lt hr, List.getElem?_drop, List.getD_eq_getElem?_getD]
end Go.Proofs.Ytefmlepogpjhmaa
