/- Laws for a slice that a call makes by itself and appends to, one element at a time; and for lists of integers that came in. -/
import Derived.Test.YtoooihoaapfjeaaExt
import Derived.Deep.OwnRows
namespace Go.Proofs.Ytoooihoaapfjeaa
open Go.RowKit
set_option linter.unusedVariables false
set_option linter.unusedSimpArgs false
/-- t is the type of slices of e, an element of 'size' cells and 'bytes' bytes, zero z. -/
def ElemOk (t e size bytes : Nat) (z : Value) : Prop :=
  Try.prog.underlying t = some (.slice e) ∧ (Try.prog.info? e).map (fun i => (i.zero, i.size, i.bytes)) = some (some z, size, bytes) ∧ z.cells.size = size ∧ 0 < size
theorem belowGrown {B : Nat} {W w' : World} {v : Value} (hg : W.grownBy w' v.ownBlock) (hB : B ≤ W.heap.size) (hr : ∀ k, v.ownBlock = some k → B ≤ k) : Below B W w' :=
  (Below.refl B W).grown hg hB hr
/-- 'append(s, x)' of one element x, whose cells are cs. -/
theorem wpApp {W : World} {ops : Array Oper} {rest : List Oper} {o : Oper} {a : Act} {Q : Exit → Act → World → Prop} {t e size bytes : Nat} {z : Value} (hE : ElemOk t e size bytes z)
    (hgd : o.guard = none) (s x : Operand) (ho : o.op = .call { callee := .builtin .append, args := #[s, x], argTypes := #[t, t] })
    (base : Nat) (v : Value) (n : Nat) (xs : List Value) (cs : Array Value) (hs : a.eval s = v) (hown : W.ownsRow base e size v n xs)
    (hx : a.eval x = .slice (some ⟨W.heap.size, 0, none⟩) 1 1) (hl : cs.size = size) (h1 : ∀ u ∈ cs.toList, u.oneCell' = true)
    (hb : bytes ≤ 4096) (hn : n ≤ 1000000000) (hbase : base ≤ W.heap.size)
    (h : ∀ v' w', w'.ownsRow base e size v' (n + 1) (xs ++ cs.toList) → Below base W w' → wpList Try.prog ops Q rest (a.put o.dst v') w') : wpList Try.prog ops Q (o :: rest) a (W.alloc (.cells cs e)) := by
  obtain ⟨h2, h3, h4, h5⟩ := hE
  obtain ⟨i0, hi, hz0, hz1, hz2⟩ := info_parts h3
  refine wpList_append_own _ hgd s x t ho base e i0 z size bytes h2 hi hz0 hz1 hz2 h4 h5 v n xs hs (hown.alloc _) ⟨W.heap.size, 0, none⟩ 1 1 cs.toList hx (by simpa using hl) ?_ h1 (by unfold maxLen; omega) ?_ (by simp; omega) ?_
  · intro j u hj
    have : (⟨W.heap.size, 0, none⟩ : Addr).add j = ⟨W.heap.size, j, none⟩ := by rw [Addr.add_lit]; simp
    rw [this, World.cell?_alloc_new]
    simpa using hj
  · calc (n + 1) * bytes ≤ 1000000001 * 4096 := Nat.mul_le_mul (by omega) hb
      _ ≤ 140737488355328 := by omega
  · intro v' w' hown' hg _
    refine h v' w' hown' ?_
    have hk := hown.lt
    exact ((Below.refl base W).alloc hbase _).trans (belowGrown hg (by simp; omega) fun k hk' => (hk k hk').1)
/-- A list of integers that came in: at address a (of no account where the list is empty). -/
def IsInts (w : World) (a : Option Addr) (n : Nat) (zs : List Int) : Prop :=
  zs.length = n ∧ (0 < n → ∃ b o, a = some ⟨b, o, none⟩ ∧ b < w.heap.size ∧ ∀ j, j < n → w.cell? ⟨b, o + j, none⟩ = some (.int .i64 (zs.getD j 0)))
theorem IsInts.below {w w' : World} {a : Option Addr} {n : Nat} {zs : List Int} (h : IsInts w a n zs) (hb : Below w.heap.size w w') : IsInts w' a n zs := by
  refine ⟨h.1, fun hn => ?_⟩
  obtain ⟨b, o, h1, h2, h3⟩ := h.2 hn
  exact ⟨b, o, h1, Nat.lt_of_lt_of_le h2 hb.size, fun j hj => bCs hb (h3 j hj)⟩
/-- 'make([]T, n)', T of one cell. -/
theorem makeRow {t e bytes : Nat} {z : Value} (hE : ElemOk t e 1 bytes z) (hz : z.cells = #[z]) (n : Nat) (hb : bytes ≤ 4096) (hn : n ≤ 1000000000) : ∀ w : World,
    (Instr.makeSlice t (.int .i64 (n : Int)) (.int .i64 (n : Int))).run Try.prog w = .ok (.slice (some ⟨w.heap.size, 0, none⟩) n n) (w.alloc (.cells (madeCells #[z] n) e)) :=
  run_make_row' t e z bytes hE.1 hE.2.1 hz .i64 .i64 n (Nat.le_trans (Nat.mul_le_mul hb hn) (by omega)) (by omega)
theorem rowBelow {w w' : World} {b t n B : Nat} {f : Nat → Value} (h : w.rowIs b t n f) (hb : Below B w w') (hB : b < B) : w'.rowIs b t n f := h.of_block (hb.block b hB)
theorem getD_set (l : List Int) (i j : Nat) (v : Int) (hi : i < l.length) : (l.set i v).getD j 0 = if j = i then v else l.getD j 0 := by
  rw [List.getD_eq_getElem?_getD, List.getElem?_set, List.getD_eq_getElem?_getD]
  by_cases h : i = j
  · subst h; simp [hi]
  · rw [if_neg h, if_neg (fun e => h e.symm)]
end Go.Proofs.Ytoooihoaapfjeaa
