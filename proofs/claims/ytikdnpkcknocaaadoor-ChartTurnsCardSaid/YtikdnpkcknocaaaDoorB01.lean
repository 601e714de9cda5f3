/- Lemmas and contracts of functions (what each call returns, and that it changes nothing that was there) that the proof of a law of this seat uses; each lemma states its own conditions. -/
import Derived.Test.YtikdnpkcknocaaaDoorRows
import Derived.WalkKit
import Derived.WalkSpells
import Derived.WalkLawsBesides
import Derived.Lib.Hide
import Derived.Deep.RegionHeld3
import Derived.Deep.QuietTactic
import Derived.BigQuiet
import Derived.Deep.OwnRows
namespace Go.Proofs.YtikdnpkcknocaaaDoor
open Go.RowKit
set_option linter.unusedVariables false
set_option linter.unusedSimpArgs false
def extW (W : World) (E : Array Obj) (d : Nat) : World := { W with heap := W.heap ++ E, drawn := d }
section
variable {W : World} {E : Array Obj} {d : Nat}
@[go_sem, simp] theorem size_extW : (extW W E d).heap.size = W.heap.size + E.size := by simp [extW]
@[go_sem, simp] theorem tape_extW : (extW W E d).tape = W.tape := rfl
@[go_sem, simp] theorem extW_drew : (extW W E d).drew = extW W E (d+1) := rfl
@[go_sem, simp] theorem drew_extW : extW W.drew E d = extW W E d := rfl
@[go_sem, simp] theorem drewN_extW (n : Nat) : extW (W.drewN n) E d = extW W E d := rfl
@[go_sem, simp] theorem extW_drewN (n : Nat) : (extW W E d).drewN n = extW W E (d+n) := rfl
theorem heap_extW (n : Nat) (hn : n < W.heap.size) : (extW W E d).heap[n]? = W.heap[n]? := by
  simp [extW, Array.getElem?_append, hn]
theorem bExt {W w1 : World} (h : Below W.heap.size W w1) : ∃ E d, w1 = extW W E d := by
  refine ⟨w1.heap.extract W.heap.size w1.heap.size, w1.drawn, ?_⟩
  have hh : w1.heap = W.heap ++ w1.heap.extract W.heap.size w1.heap.size := by
    apply Array.ext_getElem?
    intro k
    have := h.size
    rcases Nat.lt_or_ge k W.heap.size with hk | hk
    · rw [h.block k hk, Array.getElem?_append_left hk]
    · rw [Array.getElem?_append_right hk, Array.getElem?_extract]
      simp only [Nat.min_self]
      split
      · congr 1; omega
      · rw [Array.getElem?_eq_none (by omega)]
  obtain ⟨h1, t1, d1, o1, p1⟩ := w1
  have ho := h.os
  have ht := h.tape
  have hp := h.output
  simp only at ho ht hp hh
  subst ho ht hp
  unfold extW
  simp only
  rw [← hh]
theorem bExtW {B : Nat} {a : World} (h : Below B a W) (hB : B ≤ W.heap.size) : Below B a (extW W E d) :=
  h.trans ⟨rfl, rfl, rfl, by simp, fun k hk => heap_extW k (by omega)⟩
end
/-- Block n lies in W. -/
def LtW (n : Nat) (W : World) : Prop := n < W.heap.size
theorem LtW.lt {n : Nat} {W : World} (h : LtW n W) : n < W.heap.size := h
section
variable {W : World} {E : Array Obj} {d : Nat}
@[go_sem] theorem LtW_alloc (n : Nat) (o : Obj) : LtW n (W.alloc o) ↔ (n = W.heap.size ∨ LtW n W) := by
  unfold LtW; rw [World.size_alloc]; omega
@[go_sem] theorem LtW_drew (n : Nat) : LtW n W.drew ↔ LtW n W := Iff.rfl
@[go_sem] theorem LtW_drewN (n k : Nat) : LtW n (W.drewN k) ↔ LtW n W := Iff.rfl
@[go_sem] theorem LtW_setCell (n : Nat) (a : Addr) (v : Value) : LtW n (W.setCell a v) ↔ LtW n W := by
  unfold LtW; rw [World.size_setCell]
@[go_sem] theorem LtW_extW (n : Nat) : LtW n (extW W E d) ↔ (LtW n W ∨ (W.heap.size ≤ n ∧ n < W.heap.size + E.size)) := by
  unfold LtW; rw [size_extW]; omega
@[go_sem] theorem cell?_extW (n i : Nat) (hn : LtW n W) : (extW W E d).cell? ⟨n, i, none⟩ = W.cell? ⟨n, i, none⟩ :=
  World.cell?_of_block (w := W) (heap_extW n hn)
@[go_sem] theorem frozen?_extW (n i : Nat) (hn : LtW n W) : (extW W E d).frozen? ⟨n, i, none⟩ = W.frozen? ⟨n, i, none⟩ :=
  World.frozen?_of_block (w := W) (heap_extW n hn)
@[go_sem] theorem shape?_extW (n : Nat) (hn : LtW n W) : (extW W E d).shape? n = W.shape? n := by
  simp [World.shape?, heap_extW n hn]
@[go_sem] theorem setCell_extW (n i : Nat) (v : Value) (hn : LtW n W) : (extW W E d).setCell ⟨n, i, none⟩ v = extW (W.setCell ⟨n, i, none⟩ v) E d := by
  have hn := hn.lt
  unfold World.setCell extW
  congr 1
  apply Array.ext_getElem?
  intro k
  simp only [Array.getElem?_modify, Array.getElem?_append, Array.size_modify]
  by_cases hk : k = n
  · subst hk; simp [hn]
  · simp [Ne.symm hk]
@[go_sem] theorem setCell_alloc_LtW (o : Obj) (n i : Nat) (v : Value) (hn : LtW n W) : (W.alloc o).setCell ⟨n, i, none⟩ v = (W.setCell ⟨n, i, none⟩ v).alloc o := World.setCell_alloc_past o n i v hn
@[go_sem] theorem cell?_alloc_LtW (o : Obj) (n i : Nat) (hn : LtW n W) : (W.alloc o).cell? ⟨n, i, none⟩ = W.cell? ⟨n, i, none⟩ := World.cell?_alloc_past o n i hn
@[go_sem] theorem frozen?_alloc_LtW (o : Obj) (n i : Nat) (hn : LtW n W) : (W.alloc o).frozen? ⟨n, i, none⟩ = W.frozen? ⟨n, i, none⟩ := World.frozen?_alloc_past o n i hn
theorem bCs {W w' : World} (hb : Below W.heap.size W w') {p : Addr} {v : Value} (h : W.cell? p = some v) : w'.cell? p = some v :=
  (hb.cell (World.block_lt_of_cell? W _ h)).trans h
end
end Go.Proofs.YtikdnpkcknocaaaDoor

namespace Go.Proofs.YtikdnpkcknocaaaDoor
open Go.RowKit
set_option linter.unusedVariables false
set_option linter.unusedSimpArgs false
/-- t is the type of slices of e, an element of 'size' cells and 'bytes' bytes, zero z. -/
def ElemOk (t e size bytes : Nat) (z : Value) : Prop :=
  Tryd.prog.underlying t = some (.slice e) ∧ (Tryd.prog.info? e).map (fun i => (i.zero, i.size, i.bytes)) = some (some z, size, bytes) ∧ z.cells.size = size ∧ 0 < size
theorem belowGrown {B : Nat} {W w' : World} {v : Value} (hg : W.grownBy w' v.ownBlock) (hB : B ≤ W.heap.size) (hr : ∀ k, v.ownBlock = some k → B ≤ k) : Below B W w' :=
  (Below.refl B W).grown hg hB hr
/-- 'append(s, x)' of one element x, whose cells are cs. -/
theorem wpApp {W : World} {ops : Array Oper} {rest : List Oper} {o : Oper} {a : Act} {Q : Exit → Act → World → Prop} {t e size bytes : Nat} {z : Value} (hE : ElemOk t e size bytes z)
    (hgd : o.guard = none) (s x : Operand) (ho : o.op = .call { callee := .builtin .append, args := #[s, x], argTypes := #[t, t] })
    (base : Nat) (v : Value) (n : Nat) (xs : List Value) (cs : Array Value) (hs : a.eval s = v) (hown : W.ownsRow base e size v n xs)
    (hx : a.eval x = .slice (some ⟨W.heap.size, 0, none⟩) 1 1) (hl : cs.size = size) (h1 : ∀ u ∈ cs.toList, u.oneCell' = true)
    (hb : bytes ≤ 4096) (hn : n ≤ 1000000000) (hbase : base ≤ W.heap.size)
    (h : ∀ v' w', w'.ownsRow base e size v' (n + 1) (xs ++ cs.toList) → Below base W w' → wpList Tryd.prog ops Q rest (a.put o.dst v') w') : wpList Tryd.prog ops Q (o :: rest) a (W.alloc (.cells cs e)) := by
  obtain ⟨h2, h3, h4, h5⟩ := hE
  obtain ⟨i0, hi, hz0, hz1, hz2⟩ := info_parts h3
  refine wpList_append_own _ hgd s x t ho base e i0 z size bytes h2 hi hz0 hz1 hz2 h4 h5 v n xs hs (hown.alloc _) ⟨W.heap.size, 0, none⟩ 1 1 cs.toList hx (by simpa using hl) ?_ h1 (by unfold maxLen; omega) ?_ (by simp; omega) ?_
  · intro j u hj
    have : (⟨W.heap.size, 0, none⟩ : Addr).add j = ⟨W.heap.size, j, none⟩ := by rw [Addr.add_lit]; simp
    rw [this, World.cell?_alloc_new]
    simpa using hj
  · calc (n + 1) * bytes ≤ 1000000001 * 4096 := Nat.mul_le_mul (by omega) hb
      _ ≤ 140737488355328 := by omega
  · intro v' w' hown' hg _
    refine h v' w' hown' ?_
    have hk := hown.lt
    exact ((Below.refl base W).alloc hbase _).trans (belowGrown hg (by simp; omega) fun k hk' => (hk k hk').1)
/-- A list of integers that came in: at address a (of no account where the list is empty). -/
def IsInts (w : World) (a : Option Addr) (n : Nat) (zs : List Int) : Prop :=
  zs.length = n ∧ (0 < n → ∃ b o, a = some ⟨b, o, none⟩ ∧ b < w.heap.size ∧ ∀ j, j < n → w.cell? ⟨b, o + j, none⟩ = some (.int .i64 (zs.getD j 0)))
theorem IsInts.below {w w' : World} {a : Option Addr} {n : Nat} {zs : List Int} (h : IsInts w a n zs) (hb : Below w.heap.size w w') : IsInts w' a n zs := by
  refine ⟨h.1, fun hn => ?_⟩
  obtain ⟨b, o, h1, h2, h3⟩ := h.2 hn
  exact ⟨b, o, h1, Nat.lt_of_lt_of_le h2 hb.size, fun j hj => bCs hb (h3 j hj)⟩
/-- 'make([]T, n)', T of one cell. -/
theorem makeRow {t e bytes : Nat} {z : Value} (hE : ElemOk t e 1 bytes z) (hz : z.cells = #[z]) (n : Nat) (hb : bytes ≤ 4096) (hn : n ≤ 1000000000) : ∀ w : World,
    (Instr.makeSlice t (.int .i64 (n : Int)) (.int .i64 (n : Int))).run Tryd.prog w = .ok (.slice (some ⟨w.heap.size, 0, none⟩) n n) (w.alloc (.cells (madeCells #[z] n) e)) :=
  run_make_row' t e z bytes hE.1 hE.2.1 hz .i64 .i64 n (Nat.le_trans (Nat.mul_le_mul hb hn) (by omega)) (by omega)
theorem rowBelow {w w' : World} {b t n B : Nat} {f : Nat → Value} (h : w.rowIs b t n f) (hb : Below B w w') (hB : b < B) : w'.rowIs b t n f := h.of_block (hb.block b hB)
theorem getD_set (l : List Int) (i j : Nat) (v : Int) (hi : i < l.length) : (l.set i v).getD j 0 = if j = i then v else l.getD j 0 := by
  rw [List.getD_eq_getElem?_getD, List.getElem?_set, List.getD_eq_getElem?_getD]
  by_cases h : i = j
  · subst h; simp [hi]
  · rw [if_neg h, if_neg (fun e => h e.symm)]
end Go.Proofs.YtikdnpkcknocaaaDoor
