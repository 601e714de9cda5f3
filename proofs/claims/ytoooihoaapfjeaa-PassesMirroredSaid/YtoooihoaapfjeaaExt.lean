/- Worlds that have only grown: 'extW W E d' is W with the blocks E laid behind it. -/
import Derived.Test.YtoooihoaapfjeaaRows
import Derived.WalkKit
import Derived.WalkSpells
import Derived.WalkLawsBesides
import Derived.Lib.Hide
import Derived.Deep.RegionHeld3
import Derived.Deep.QuietTactic
import Derived.BigQuiet
namespace Go.Proofs.Ytoooihoaapfjeaa
open Go.RowKit
set_option linter.unusedVariables false
set_option linter.unusedSimpArgs false
def extW (W : World) (E : Array Obj) (d : Nat) : World := { W with heap := W.heap ++ E, drawn := d }
section
variable {W : World} {E : Array Obj} {d : Nat}
@[go_sem, simp] theorem size_extW : (extW W E d).heap.size = W.heap.size + E.size := by simp [extW]
@[go_sem, simp] theorem tape_extW : (extW W E d).tape = W.tape := rfl
@[go_sem, simp] theorem extW_drew : (extW W E d).drew = extW W E (d+1) := rfl
@[go_sem, simp] theorem drew_extW : extW W.drew E d = extW W E d := rfl
@[go_sem, simp] theorem drewN_extW (n : Nat) : extW (W.drewN n) E d = extW W E d := rfl
@[go_sem, simp] theorem extW_drewN (n : Nat) : (extW W E d).drewN n = extW W E (d+n) := rfl
theorem heap_extW (n : Nat) (hn : n < W.heap.size) : (extW W E d).heap[n]? = W.heap[n]? := by
  simp [extW, Array.getElem?_append, hn]
theorem bExt {W w1 : World} (h : Below W.heap.size W w1) : ∃ E d, w1 = extW W E d := by
  refine ⟨w1.heap.extract W.heap.size w1.heap.size, w1.drawn, ?_⟩
  have hh : w1.heap = W.heap ++ w1.heap.extract W.heap.size w1.heap.size := by
    apply Array.ext_getElem?
    intro k
    have := h.size
    rcases Nat.lt_or_ge k W.heap.size with hk | hk
    · rw [h.block k hk, Array.getElem?_append_left hk]
    · rw [Array.getElem?_append_right hk, Array.getElem?_extract]
      simp only [Nat.min_self]
      split
      · congr 1; omega
      · rw [Array.getElem?_eq_none (by omega)]
  obtain ⟨h1, t1, d1, o1, p1⟩ := w1
  have ho := h.os
  have ht := h.tape
  have hp := h.output
  simp only at ho ht hp hh
  subst ho ht hp
  unfold extW
  simp only
  rw [← hh]
theorem bExtW {B : Nat} {a : World} (h : Below B a W) (hB : B ≤ W.heap.size) : Below B a (extW W E d) :=
  h.trans ⟨rfl, rfl, rfl, by simp, fun k hk => heap_extW k (by omega)⟩
end
/-- Block n lies in W. -/
def LtW (n : Nat) (W : World) : Prop := n < W.heap.size
theorem LtW.lt {n : Nat} {W : World} (h : LtW n W) : n < W.heap.size := h
section
variable {W : World} {E : Array Obj} {d : Nat}
@[go_sem] theorem LtW_alloc (n : Nat) (o : Obj) : LtW n (W.alloc o) ↔ (n = W.heap.size ∨ LtW n W) := by
  unfold LtW; rw [World.size_alloc]; omega
@[go_sem] theorem LtW_drew (n : Nat) : LtW n W.drew ↔ LtW n W := Iff.rfl
@[go_sem] theorem LtW_drewN (n k : Nat) : LtW n (W.drewN k) ↔ LtW n W := Iff.rfl
@[go_sem] theorem LtW_setCell (n : Nat) (a : Addr) (v : Value) : LtW n (W.setCell a v) ↔ LtW n W := by
  unfold LtW; rw [World.size_setCell]
@[go_sem] theorem LtW_extW (n : Nat) : LtW n (extW W E d) ↔ (LtW n W ∨ (W.heap.size ≤ n ∧ n < W.heap.size + E.size)) := by
  unfold LtW; rw [size_extW]; omega
@[go_sem] theorem cell?_extW (n i : Nat) (hn : LtW n W) : (extW W E d).cell? ⟨n, i, none⟩ = W.cell? ⟨n, i, none⟩ :=
  World.cell?_of_block (w := W) (heap_extW n hn)
@[go_sem] theorem frozen?_extW (n i : Nat) (hn : LtW n W) : (extW W E d).frozen? ⟨n, i, none⟩ = W.frozen? ⟨n, i, none⟩ :=
  World.frozen?_of_block (w := W) (heap_extW n hn)
@[go_sem] theorem shape?_extW (n : Nat) (hn : LtW n W) : (extW W E d).shape? n = W.shape? n := by
  simp [World.shape?, heap_extW n hn]
@[go_sem] theorem setCell_extW (n i : Nat) (v : Value) (hn : LtW n W) : (extW W E d).setCell ⟨n, i, none⟩ v = extW (W.setCell ⟨n, i, none⟩ v) E d := by
  have hn := hn.lt
  unfold World.setCell extW
  congr 1
  apply Array.ext_getElem?
  intro k
  simp only [Array.getElem?_modify, Array.getElem?_append, Array.size_modify]
  by_cases hk : k = n
  · subst hk; simp [hn]
  · simp [Ne.symm hk]
@[go_sem] theorem setCell_alloc_LtW (o : Obj) (n i : Nat) (v : Value) (hn : LtW n W) : (W.alloc o).setCell ⟨n, i, none⟩ v = (W.setCell ⟨n, i, none⟩ v).alloc o := World.setCell_alloc_past o n i v hn
@[go_sem] theorem cell?_alloc_LtW (o : Obj) (n i : Nat) (hn : LtW n W) : (W.alloc o).cell? ⟨n, i, none⟩ = W.cell? ⟨n, i, none⟩ := World.cell?_alloc_past o n i hn
@[go_sem] theorem frozen?_alloc_LtW (o : Obj) (n i : Nat) (hn : LtW n W) : (W.alloc o).frozen? ⟨n, i, none⟩ = W.frozen? ⟨n, i, none⟩ := World.frozen?_alloc_past o n i hn
theorem bCs {W w' : World} (hb : Below W.heap.size W w') {p : Addr} {v : Value} (h : W.cell? p = some v) : w'.cell? p = some v :=
  (hb.cell (World.block_lt_of_cell? W _ h)).trans h
end
end Go.Proofs.Ytoooihoaapfjeaa
