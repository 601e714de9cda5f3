/- Lemmas and contracts of functions (what each call returns, and that it changes nothing that was there) that the proof of a law of this seat uses; each lemma states its own conditions. -/
import Derived.Test.YtdaacjaibfcacaaEf1
import Derived.Test.YtdaacjaibfcacaaEfN
import Derived.Test.YtdaacjaibfcacaaOwnS
import Derived.Test.YtdaacjaibfcacaaQ1
namespace Go.Proofs.Ytdaacjaibfcacaa
open Go.RowKit
set_option linter.unusedVariables false
set_option linter.unusedSimpArgs false
open Ef
theorem map_set {p : List Int} {i : Nat} {k : Int} : (p.set i k).map i64v = (p.map i64v).set i (i64v k) := by rw [List.map_set]
theorem g_at {p : List Int} {i : Nat} (hi : i < p.length) : (p.map i64v)[i]? = some (.int .i64 (g p i)) := by
  rw [List.getElem?_map, List.getElem?_eq_getElem hi]
  simp [g, List.getD, hi, i64v]
/-- The untied strands, read off the world. -/
def wcnt (w : World) (tb N : Nat) : Nat := (List.range N).countP fun i => decide (cellInt w tb i < 0)
theorem wcnt_eq {w : World} {base tb N cap : Nat} {p : List Int} (hp : p.length = N) (h : w.ownsRow base 3 1 (.slice (some ⟨tb, 0, none⟩) N cap) N (p.map i64v)) : wcnt w tb N = cnt p N := by
  unfold wcnt cnt
  refine List.countP_congr fun i hi => ?_
  rw [List.mem_range] at hi
  rw [cellInt_of (by rw [(own_cell h hi).1, g_at (by omega)])]
def lenOf : Value → Nat
  | .slice _ n _ => n
  | _ => 0
def natS (T : List Nat) : List Value := T.map fun x : Nat => i64v (x : Int)
theorem BelowX.trans {base mb : Nat} {W w w' : World} (h : BelowX base mb W w) (k : BelowX base mb w w') : BelowX base mb W w' :=
  ⟨k.os.trans h.os, k.tape.trans h.tape, k.output.trans h.output, k.size, fun b h1 h2 => (k.block b h1 h2).trans (h.block b h1 h2)⟩
theorem BelowX.of_below {base mb : Nat} {W w : World} (hb : base ≤ W.heap.size) (h : Below base W w) : BelowX base mb W w :=
  ⟨h.os, h.tape, h.output, Nat.le_trans hb h.size, fun b h1 _ => h.block b h1⟩
theorem BelowX.to_other {base base' mb mb' : Nat} {W w : World} (h : BelowX base' mb' W w) (hb : base ≤ base') (hm : base ≤ mb') : BelowX base mb W w :=
  ⟨h.os, h.tape, h.output, Nat.le_trans hb h.size, fun b h1 _ => h.block b (by omega) (by omega)⟩
theorem BelowX.growE {base mb : Nat} {W w : World} (h : BelowX base mb W w) (E : Array Obj) (d : Nat) : BelowX base mb W (extW w E d) :=
  h.trans (BelowX.of_below h.size (bExtW (Below.refl base w) h.size))
theorem BelowX.ints {base mb : Nat} {W w : World} {a : Option Addr} {n : Nat} {zs : List Int} (h : BelowX base mb W w) (hi : IsInts W a n zs) (hW : ∀ b o, a = some ⟨b, o, none⟩ → b < base ∧ b ≠ mb) : IsInts w a n zs := by
  refine ⟨hi.1, fun hn => ?_⟩
  obtain ⟨b, o, h1, h2, h3⟩ := hi.2 hn
  obtain ⟨h4, h5⟩ := hW b o h1
  exact ⟨b, o, h1, Nat.lt_of_lt_of_le h4 h.size, fun j hj => (World.cell?_of_block (h.block b h4 h5)).trans (h3 j hj)⟩
theorem ints_of_own {w : World} {base n c gb : Nat} {l : List Int} (h : w.ownsRow base 3 1 (.slice (some ⟨gb, 0, none⟩) n c) n (l.map i64v)) : IsInts w (some ⟨gb, 0, none⟩) n l := by
  have hl : l.length = n := by have := (own_parts h).1; simpa using this
  refine ⟨hl, fun _ => ⟨gb, 0, rfl, own_lt h, fun j hj => ?_⟩⟩
  rw [Nat.zero_add, (own_cell h hj).1, List.getElem?_map, List.getElem?_eq_getElem (by omega)]
  simp [List.getD, hl, hj, i64v]
theorem slice_pop (tg m cp : Nat) (h : m ≤ cp) (w : World) : (Instr.slice 34 (.slice (some ⟨tg, 0, none⟩) (m + 1) cp) none (some (.int .i64 (m))) none).run Try.prog w = .ok (.slice (some ⟨tg, 0, none⟩) m cp) w := by
  have h1 := run_slice_h (P := Try.prog) w 34 (some ⟨tg, 0, none⟩) (m + 1) cp (by kernel_rfl) .i64 (m : Int) (by omega) (by omega)
  rw [h1]
  have hsz : (sizeOf (Try.prog.elem 34)).run Try.prog w = .ok 1 w := by go_simp
  rw [hsz]
  have e2 : ((m : Int)).toNat = m := by omega
  rw [e2]
  simp [Result.andThen, sliced, Addr.add_lit]
end Go.Proofs.Ytdaacjaibfcacaa
