/- A truth in a block of its own, to whose bits a loop appends. -/
import Derived.Test.YtoooihoaapfjeaaRf2
import Derived.Test.YtoooihoaapfjeaaRegB
import Derived.IntWalk
namespace Go.Proofs.Ytoooihoaapfjeaa
open Go.RowKit
set_option linter.unusedVariables false
set_option linter.unusedSimpArgs false
/-- All blocks below base but mb lie as they lay. -/
structure BelowX (base mb : Nat) (W w : World) : Prop where
  os : w.os = W.os
  tape : w.tape = W.tape
  output : w.output = W.output
  size : base ≤ w.heap.size
  block : ∀ k, k < base → k ≠ mb → w.heap[k]? = W.heap[k]?
theorem BelowX.refl {base mb : Nat} {W : World} (h : base ≤ W.heap.size) : BelowX base mb W W := ⟨rfl, rfl, rfl, h, fun _ _ _ => rfl⟩
theorem BelowX.below {base mb q : Nat} {W w : World} (h : BelowX base mb W w) (hW : W.heap.size = base) (hq : q ≤ mb) (hm : mb < base) : Below q W w :=
  ⟨h.os, h.tape, h.output, by rw [hW]; exact h.size, fun k hk => h.block k (by omega) (by omega)⟩
theorem BelowX.rowIs {base mb b t n : Nat} {f : Nat → Value} {W w : World} (h : BelowX base mb W w) (hr : W.rowIs b t n f) (hb : b < base) (hm : b ≠ mb) : w.rowIs b t n f := hr.of_block (h.block b hb hm)
theorem BelowX.bools {base mb : Nat} {W w : World} {a : Option Addr} {n : Nat} {bs : List Bool} (h : BelowX base mb W w) (hi : IsBools W a n bs) (hW : ∀ b o, a = some ⟨b, o, none⟩ → b < base ∧ b ≠ mb) : IsBools w a n bs := by
  refine ⟨hi.1, fun hn => ?_⟩
  obtain ⟨b, o, h1, h2, h3⟩ := hi.2 hn
  obtain ⟨h4, h5⟩ := hW b o h1
  exact ⟨b, o, h1, Nat.lt_of_lt_of_le h4 h.size, fun j hj => (World.cell?_of_block (h.block b h4 h5)).trans (h3 j hj)⟩
theorem OkT.of_owns {w : World} {base : Nat} {v : Value} {L : List Bool} (h : w.ownsRow base 4 1 v L.length (L.map Value.bool)) : ∃ a c, v = .slice a L.length c ∧ OkT w a L.length c L ∧ (∀ b o, a = some ⟨b, o, none⟩ → base ≤ b) := by
  obtain ⟨a, c, rfl, hi⟩ := IsBools.of_owns (n := L.length) rfl h
  refine ⟨a, c, rfl, ⟨hi, ?_, ?_⟩, ?_⟩
  all_goals
    rcases h.2 with ⟨e, e0⟩ | ⟨g, cap, cur, e, hb, _, h1, h2, _⟩
    · injection e with e1 e2 e3
      first | omega | (intro b o hb; rw [e1] at hb; cases hb)
    · injection e with e1 e2 e3
      unfold maxLen at h2
      first | omega | (intro b o hb'; rw [e1] at hb'; cases hb'; exact hb)
end Go.Proofs.Ytoooihoaapfjeaa
