/- Lemmas on which the law of this seat rests; each states its own conditions. -/
import Derived.Test.YtnlnonmgekciaaaDoorRows
import Derived.WalkKit
import Derived.WalkSpells
import Derived.WalkLawsBesides
import Derived.Lib.Hide
import Derived.Deep.RegionHeld3
import Derived.Deep.QuietTactic
import Derived.BigQuiet
import Derived.Deep.OwnRows
import Derived.StillTail
import Derived.WalkSmall
import Derived.RangeFuncNested
import Derived.RangeFuncBox
import Derived.RangeFuncBound
import Derived.RangeFuncCalls
import Derived.RangeFuncLeaves
import Derived.Shelf.Abstract
import Derived.OwnWalkIn
import Derived.TacticsInMore
import Derived.LoopNIn
import Derived.LoopIn
import Derived.IntWalk
import Derived.CallsIn
import Derived.OrdersIn
import Derived.TacticsIn
import Derived.Laws.AppendOwnNone
import Derived.Maps.AppendAt
import Derived.OrdersHeld
set_option linter.unusedVariables false
set_option linter.unusedSimpArgs false
namespace Go.Proofs.YtnlnonmgekciaaaDoor
theorem blw {P : Prop} (h : P := by repeat (first | exact Below.refl _ _ | refine Below.drew ?_ | refine below_drewN ?_ _ | refine Below.alloc ?_ (by first | exact Nat.le_refl _ | (simp; done) | (simp; omega) | omega) _ | refine Below.setCell ?_ (by first | exact Nat.le_refl _ | (simp; done) | (simp; omega) | omega) _ | refine bExtW ?_ (by first | exact Nat.le_refl _ | (simp; done) | (simp; omega) | omega) | refine Below.trans ?_ (Below.mono (by assumption) (by first | exact Nat.le_refl _ | (simp; done) | (simp; omega) | omega)))) : P := h
theorem bnd {P : Prop} (h : P := by first | exact Nat.le_refl _ | (simp; done) | (simp; omega) | omega) : P := h
theorem bnq {P : Prop} (h : P := by first | omega | (simp; done) | (simp; omega)) : P := h
namespace Se
abbrev St := Int × Int
def badS (x : St) : Prop := x.1 < 0 ∨ 62 ≤ x.1 ∨ x.2 < 1 ∨ 4096 < x.2
instance (x : St) : Decidable (badS x) := by unfold badS; exact inferInstance
def thrN (pv : Bool) (m i : Nat) (x : St) : Int := if pv = true ∧ 0 < i ∧ i + 1 < m then x.2 * 2 else x.2
def longTo (pv : Bool) (l : List St) : Nat → Int
 | 0 => 0
 | k + 1 => longTo pv l k + thrN pv l.length k (l.getD k (0, 0))
def longS (pv : Bool) (l : List St) : Int := longTo pv l l.length
def wrS (pv : Bool) (l : List St) : Int :=
 if l.length = 0 ∨ 256 < l.length ∨ (pv = true ∧ l.length = 1) then 5 else if ∃ x ∈ l, badS x then 3 else if 4096 < longS pv l then 4 else 0
theorem wrS_zero {pv : Bool} {l : List St} (h : wrS pv l = 0) : 0 < l.length ∧ l.length ≤ 256 ∧ (pv = true → 2 ≤ l.length) ∧ (∀ x ∈ l, 0 ≤ x.1 ∧ x.1 < 62 ∧ 1 ≤ x.2 ∧ x.2 ≤ 4096) ∧ longS pv l ≤ 4096 := by
 unfold wrS at h
 split at h
 ·omega
 ·rename_i h1
  split at h
  ·omega
  ·rename_i h2
   split at h
   ·omega
   ·rename_i h3
    refine ⟨by omega, by omega, fun e => ?_, fun x hx => ?_, by omega⟩
    ·have h4 : ¬ (l.length = 1) := fun e2 => h1 (.inr (.inr ⟨e, e2⟩))
     have h5 : l.length ≠ 0 := fun e2 => h1 (.inl e2)
     omega
    ·have h4 : ¬ badS x := fun hb => h2 ⟨x, hx, hb⟩
     unfold badS at h4
     omega
def palS (r : List St) : Prop := r.length % 2 = 0 ∧ 1 < r.length ∧ (r.drop 1).take (r.length / 2 - 1) = (r.drop (r.length / 2 + 1)).reverse
instance (r : List St) : Decidable (palS r) := by unfold palS; exact inferInstance
end Se
section
open Go.RowKit
def extW (W : World) (E : Array Obj) (d : Nat) : World := { W with heap := W.heap ++ E, drawn := d }
section
variable {W : World} {E : Array Obj} {d : Nat}
@[go_sem, simp] theorem size_extW : (extW W E d).heap.size = W.heap.size + E.size := by simp [extW]
@[go_sem, simp] theorem tape_extW : (extW W E d).tape = W.tape := rfl
@[go_sem, simp] theorem extW_drew : (extW W E d).drew = extW W E (d+1) := rfl
@[go_sem, simp] theorem drew_extW : extW W.drew E d = extW W E d := rfl
@[go_sem, simp] theorem drewN_extW (n : Nat) : extW (W.drewN n) E d = extW W E d := rfl
@[go_sem, simp] theorem extW_drewN (n : Nat) : (extW W E d).drewN n = extW W E (d+n) := rfl
theorem heap_extW (n : Nat) (hn : n < W.heap.size) : (extW W E d).heap[n]? = W.heap[n]? := by
 simp [extW, Array.getElem?_append, hn]
theorem bExt {W w1 : World} (h : Below W.heap.size W w1) : ∃ E d, w1 = extW W E d := by
 refine ⟨w1.heap.extract W.heap.size w1.heap.size, w1.drawn, ?_⟩
 have hh : w1.heap = W.heap ++ w1.heap.extract W.heap.size w1.heap.size := by
  apply Array.ext_getElem?
  intro k
  have := h.size
  rcases Nat.lt_or_ge k W.heap.size with hk | hk
  ·rw [h.block k hk, Array.getElem?_append_left hk]
  ·rw [Array.getElem?_append_right hk, Array.getElem?_extract]
   simp only [Nat.min_self]
   split
   ·congr 1; omega
   ·rw [Array.getElem?_eq_none (by omega)]
 obtain ⟨h1, t1, d1, o1, p1⟩ := w1
 have ho := h.os
 have ht := h.tape
 have hp := h.output
 simp only at ho ht hp hh
 subst ho ht hp
 unfold extW
 simp only
 rw [← hh]
theorem bExtW {B : Nat} {a : World} (h : Below B a W) (hB : B ≤ W.heap.size) : Below B a (extW W E d) :=
 h.trans ⟨rfl, rfl, rfl, by simp, fun k hk => heap_extW k (by omega)⟩
end
def LtW (n : Nat) (W : World) : Prop := n < W.heap.size
theorem LtW.lt {n : Nat} {W : World} (h : LtW n W) : n < W.heap.size := h
section
variable {W : World} {E : Array Obj} {d : Nat}
@[go_sem] theorem LtW_alloc (n : Nat) (o : Obj) : LtW n (W.alloc o) ↔ (n = W.heap.size ∨ LtW n W) := by
 unfold LtW; rw [World.size_alloc]; omega
@[go_sem] theorem LtW_drew (n : Nat) : LtW n W.drew ↔ LtW n W := Iff.rfl
@[go_sem] theorem LtW_drewN (n k : Nat) : LtW n (W.drewN k) ↔ LtW n W := Iff.rfl
@[go_sem] theorem LtW_setCell (n : Nat) (a : Addr) (v : Value) : LtW n (W.setCell a v) ↔ LtW n W := by
 unfold LtW; rw [World.size_setCell]
@[go_sem] theorem LtW_extW (n : Nat) : LtW n (extW W E d) ↔ (LtW n W ∨ (W.heap.size ≤ n ∧ n < W.heap.size + E.size)) := by
 unfold LtW; rw [size_extW]; omega
@[go_sem] theorem cell?_extW (n i : Nat) (hn : LtW n W) : (extW W E d).cell? ⟨n, i, none⟩ = W.cell? ⟨n, i, none⟩ :=
 World.cell?_of_block (w := W) (heap_extW n hn)
@[go_sem] theorem frozen?_extW (n i : Nat) (hn : LtW n W) : (extW W E d).frozen? ⟨n, i, none⟩ = W.frozen? ⟨n, i, none⟩ :=
 World.frozen?_of_block (w := W) (heap_extW n hn)
@[go_sem] theorem shape?_extW (n : Nat) (hn : LtW n W) : (extW W E d).shape? n = W.shape? n := by
 simp [World.shape?, heap_extW n hn]
@[go_sem] theorem setCell_extW (n i : Nat) (v : Value) (hn : LtW n W) : (extW W E d).setCell ⟨n, i, none⟩ v = extW (W.setCell ⟨n, i, none⟩ v) E d := by
 have hn := hn.lt
 unfold World.setCell extW
 congr 1
 apply Array.ext_getElem?
 intro k
 simp only [Array.getElem?_modify, Array.getElem?_append, Array.size_modify]
 by_cases hk : k = n
 ·subst hk; simp [hn]
 ·simp [Ne.symm hk]
@[go_sem] theorem setCell_alloc_LtW (o : Obj) (n i : Nat) (v : Value) (hn : LtW n W) : (W.alloc o).setCell ⟨n, i, none⟩ v = (W.setCell ⟨n, i, none⟩ v).alloc o := World.setCell_alloc_past o n i v hn
@[go_sem] theorem cell?_alloc_LtW (o : Obj) (n i : Nat) (hn : LtW n W) : (W.alloc o).cell? ⟨n, i, none⟩ = W.cell? ⟨n, i, none⟩ := World.cell?_alloc_past o n i hn
@[go_sem] theorem frozen?_alloc_LtW (o : Obj) (n i : Nat) (hn : LtW n W) : (W.alloc o).frozen? ⟨n, i, none⟩ = W.frozen? ⟨n, i, none⟩ := World.frozen?_alloc_past o n i hn
theorem bCs {W w' : World} (hb : Below W.heap.size W w') {p : Addr} {v : Value} (h : W.cell? p = some v) : w'.cell? p = some v :=
 (hb.cell (World.block_lt_of_cell? W _ h)).trans h
end
end
section
open Go.RowKit
def ElemOk (t e size bytes : Nat) (z : Value) : Prop :=
 Tryd.prog.underlying t = some (.slice e) ∧ (Tryd.prog.info? e).map (fun i => (i.zero, i.size, i.bytes)) = some (some z, size, bytes) ∧ z.cells.size = size ∧ 0 < size
theorem belowGrown {B : Nat} {W w' : World} {v : Value} (hg : W.grownBy w' v.ownBlock) (hB : B ≤ W.heap.size) (hr : ∀ k, v.ownBlock = some k → B ≤ k) : Below B W w' :=
 (Below.refl B W).grown hg hB hr
def IsInts (w : World) (a : Option Addr) (n : Nat) (zs : List Int) : Prop :=
 zs.length = n ∧ (0 < n → ∃ b o, a = some ⟨b, o, none⟩ ∧ b < w.heap.size ∧ ∀ j, j < n → w.cell? ⟨b, o + j, none⟩ = some (.int .i64 (zs.getD j 0)))
theorem rowBelow {w w' : World} {b t n B : Nat} {f : Nat → Value} (h : w.rowIs b t n f) (hb : Below B w w') (hB : b < B) : w'.rowIs b t n f := h.of_block (hb.block b hB)
end
section
open Go.RowKit
theorem extW_self (W : World) (d : Nat) : extW W #[] d = { W with drawn := d } := by simp [extW]
theorem alloc_extW (W : World) (E : Array Obj) (d : Nat) (o : Obj) : (extW W E d).alloc o = extW W (E.push o) d := by
 unfold World.alloc extW
 simp only
 rw [show (W.heap ++ E).push o = W.heap ++ E.push o by simp]
def cellInt (w : World) (b o : Nat) : Int := match w.cell? ⟨b, o, none⟩ with | some (.int _ n) => n | _ => 0
theorem cellInt_of {w : World} {b o : Nat} {n : Int} (h : w.cell? ⟨b, o, none⟩ = some (.int .i64 n)) : cellInt w b o = n := by unfold cellInt; rw [h]
theorem extW_zero (W : World) : W = extW W #[] W.drawn := by simp [extW]
theorem extW_extW (W : World) (E F : Array Obj) (d e : Nat) : extW (extW W E d) F e = extW W (E ++ F) e := by simp [extW, Array.append_assoc]
def ExtOf (W w : World) : Prop := ∃ E d, w = extW W E d
theorem ext_step {W : World} {ops : Array Oper} {Q : Act → Prop} {a : Act} {o : Oper} {rest : List Oper}
  (h : ∀ K : Act → Prop, (∀ a, wpQuiet Tryd.prog ops (fun w' => ∃ E d, w' = extW W E d) Q rest a → K a) →
   if Region.wanted o (yielded ops a.tmps) then ∃ v, (∀ E d, Oper.quietAt Tryd.prog o a (fun w' => ∃ E d, w' = extW W E d) (extW W E d) v) ∧ K (a.put o.dst v) else K (a.put o.dst undef)) :
  wpQuiet Tryd.prog ops (fun w' => ∃ E d, w' = extW W E d) Q (o :: rest) a := by
 refine wpQuiet_step fun K hK => ?_
 have := h K hK
 split
 ·rename_i hw
  rw [if_pos hw] at this
  obtain ⟨v, h1, h2⟩ := this
  exact ⟨v, fun w' ⟨E, d, e⟩ => e ▸ h1 E d, h2⟩
 ·rename_i hw
  rwa [if_neg hw] at this
theorem wp_region_ext {id : Nat} {Q : Exit → Act → World → Prop} {a : Act} {w : World} {l : List Oper} (hm : Tryd.prog.follows .mixedOrders = true) (hB : Region.lexB .any l.toArray = true)
  (h : wpQuiet Tryd.prog l.toArray (fun w' => ∃ E d, w' = extW w E d) (fun a' => ∀ E d, Q .normal a' (extW w E d)) l a) : (Code.region id l.toArray true).wp Tryd.prog Q a w := by
 refine wp_region_quiet (C := fun w' => ∃ E d, w' = extW w E d) hm hB ⟨#[], w.drawn + 1, by rw [extW_self]⟩ ?_
 have e : (fun a' => ∀ w', (∃ E d, w' = extW w E d) → Q .normal a' w') = fun a' => ∀ E d, Q .normal a' (extW w E d) := by
  funext a'
  exact propext ⟨fun h E d => h _ ⟨E, d, rfl⟩, fun h w' ⟨E, d, e⟩ => e ▸ h E d⟩
 rw [e]
 simpa using h
section
variable {P : Program} {ops : Array Oper} {md : Region.Mode} {C : World → Prop}
end
section
variable {P : Program} {ops : Array Oper} {md : Region.Mode}
end
end
section
open Go.RowKit
theorem ExtOf.al {B w : World} (h : ExtOf B w) (o : Obj) : ExtOf B (w.alloc o) := by
 obtain ⟨E, d, rfl⟩ := h
 exact ⟨E.push o, d, alloc_extW B E d o⟩
end
section
open Go.RowKit
def IsBools (w : World) (a : Option Addr) (n : Nat) (bs : List Bool) : Prop :=
 bs.length = n ∧ (0 < n → ∃ b o, a = some ⟨b, o, none⟩ ∧ b < w.heap.size ∧ ∀ j, j < n → w.cell? ⟨b, o + j, none⟩ = some (.bool (bs.getD j false)))
end
section
open Go.RowKit
open Go.Shelf
attribute [local go_sem] Oper.semAt_some
structure TB (tb W H : Nat) (a : Option Addr) (n c : Nat) (bs : List Bool) (w : World) : Prop where
 c0 : w.cell? ⟨tb, 0, none⟩ = some (.int .i64 (W))
 c1 : w.cell? ⟨tb, 1, none⟩ = some (.int .i64 (H))
 c2 : w.cell? ⟨tb, 2, none⟩ = some (.slice a n c)
 bits : IsBools w a n bs
end
section
open Go.RowKit
theorem own_form {w : World} {base e size n : Nat} {v : Value} {xs : List Value} (h : w.ownsRow base e size v n xs) : ∃ A c, v = .slice A n c := by
 rcases h.2 with ⟨rfl, rfl⟩ | ⟨g, cap, cur, rfl, _⟩
 ·exact ⟨_, _, rfl⟩
 ·exact ⟨_, _, rfl⟩
theorem ownBelow {w w' : World} {base e size n : Nat} {v : Value} {xs : List Value} (h : w.ownsRow base e size v n xs) (hb : Below w.heap.size w w') : w'.ownsRow base e size v n xs := by
 obtain ⟨h1, h2⟩ := h
 refine ⟨h1, ?_⟩
 rcases h2 with h2 | ⟨g, cap, cur, e1, e2, e3, e4⟩
 ·exact .inl h2
 ·refine .inr ⟨g, cap, cur, e1, e2, ?_, e4⟩
  rw [hb.block g (by
   rcases Nat.lt_or_ge g w.heap.size with hlt | hge
   ·exact hlt
   ·rw [Array.getElem?_eq_none hge] at e3; cases e3)]
  exact e3
end
section
open Go.RowKit
section
variable {P : Program} {ops : Array Oper} {md : Region.Mode}
end
end
section
open Go.RowKit
open Go.Shelf
attribute [local go_sem] Oper.semAt_some
structure OkT (w : World) (a : Option Addr) (n c : Nat) (bs : List Bool) : Prop where
 bits : IsBools w a n bs
 cap : n ≤ c
 lim : c ≤ 9223372036854775807
end
section
open Go.RowKit
structure BelowX (base mb : Nat) (W w : World) : Prop where
 os : w.os = W.os
 tape : w.tape = W.tape
 output : w.output = W.output
 size : base ≤ w.heap.size
 block : ∀ k, k < base → k ≠ mb → w.heap[k]? = W.heap[k]?
end
section
open Go.RowKit
theorem wpAppG {W : World} {ops : Array Oper} {rest : List Oper} {o : Oper} {a : Act} {Q : Exit → Act → World → Prop} {t e size bytes : Nat} {z : Value} (hE : ElemOk t e size bytes z)
  (hgd : o.guard = none) (s x : Operand) (ho : o.op = .call { callee := .builtin .append, args := #[s, x], argTypes := #[t, t] })
  (base : Nat) (v : Value) (n : Nat) (xs : List Value) (cs : Array Value) (B : Nat) (hs : a.eval s = v) (hown : W.ownsRow base e size v n xs)
  (hx : a.eval x = .slice (some ⟨B, 0, none⟩) 1 1) (hcs : ∀ j u, cs[j]? = some u → W.cell? ⟨B, j, none⟩ = some u) (hl : cs.size = size) (h1 : ∀ u ∈ cs.toList, u.oneCell' = true)
  (hb : bytes ≤ 4096) (hn : n ≤ 1000000000) (hbase : base ≤ W.heap.size)
  (h : ∀ v' w', w'.ownsRow base e size v' (n + 1) (xs ++ cs.toList) → W.grownBy w' v.ownBlock → wpList Tryd.prog ops Q rest (a.put o.dst v') w') : wpList Tryd.prog ops Q (o :: rest) a W := by
 obtain ⟨h2, h3, h4, h5⟩ := hE
 obtain ⟨i0, hi, hz0, hz1, hz2⟩ := info_parts h3
 refine wpList_append_own _ hgd s x t ho base e i0 z size bytes h2 hi hz0 hz1 hz2 h4 h5 v n xs hs hown ⟨B, 0, none⟩ 1 1 cs.toList hx (by simpa using hl) ?_ h1 (by unfold maxLen; omega) ?_ hbase ?_
 ·intro j u hj
  have : (⟨B, 0, none⟩ : Addr).add j = ⟨B, j, none⟩ := by rw [Addr.add_lit]; simp
  rw [this]
  exact hcs j u (by simpa using hj)
 ·calc (n + 1) * bytes ≤ 1000000001 * 4096 := Nat.mul_le_mul (by omega) hb
   _ ≤ 140737488355328 := by omega
 ·intro v' w' hown' hg _
  exact h v' w' hown' hg
end
section
open Go.RowKit
section
variable {P : Program} {n l : Nat}
end
end
section
open Go.RowKit
theorem wpAppV {W : World} {ops : Array Oper} {rest : List Oper} {o : Oper} {a : Act} {Q : Exit → Act → World → Prop} {t e bytes : Nat} {z : Value} (hE : ElemOk t e 1 bytes z)
  (hgd : o.guard = none) (s x : Operand) (ho : o.op = .call { callee := .builtin .append, args := #[s, x], argTypes := #[t, t] })
  (base : Nat) (v : Value) (n : Nat) (xs : List Value) (A : Option Addr) (m c : Nat) (news : List Value) (hs : a.eval s = v) (hown : W.ownsRow base e 1 v n xs)
  (hx : a.eval x = .slice A m c) (hc : A = none → c = 0) (hl : news.length = m) (hI : 0 < m → ∃ b of, A = some ⟨b, of, none⟩ ∧ ∀ j u, news[j]? = some u → W.cell? ⟨b, of + j, none⟩ = some u)
  (h1 : ∀ u ∈ news, u.oneCell' = true) (hb : bytes ≤ 4096) (hn : n + m ≤ 1000000000) (hbase : base ≤ W.heap.size)
  (h : ∀ v' w', w'.ownsRow base e 1 v' (n + m) (xs ++ news) → W.grownBy w' v.ownBlock → (v'.ownBlock = v.ownBlock ∨ v'.ownBlock = some W.heap.size) → wpList Tryd.prog ops Q rest (a.put o.dst v') w') : wpList Tryd.prog ops Q (o :: rest) a W := by
 obtain ⟨h2, h3, h4, h5⟩ := hE
 obtain ⟨i0, hi, hz0, hz1, hz2⟩ := info_parts h3
 rcases A with _ | ad
 ·have hm : m = 0 := by
   rcases Nat.eq_zero_or_pos m with h0 | h0
   ·exact h0
   ·obtain ⟨_, _, e, _⟩ := hI h0; cases e
  subst hm
  have hc0 := hc rfl
  subst hc0
  have hnn : news = [] := List.length_eq_zero_iff.1 hl
  subst hnn
  refine wpList_append_own_none hgd s x t ho base e i0 1 h2 hi v n xs hs hown hx (h v W ?_ (World.grownBy.refl _ _) (.inl rfl))
  simpa using hown
 ·refine wpList_append_own_at _ hgd s x t ho base e i0 z 1 bytes h2 hi hz0 hz1 hz2 h4 h5 v n xs hs hown ad m c news hx (by simpa using hl) ?_ h1 (by unfold maxLen; omega) ?_ hbase ?_
  ·intro j u hj
   have hjm : j < m := by rw [← hl]; exact (List.getElem?_eq_some_iff.1 hj).1
   obtain ⟨b, of, e, hcell⟩ := hI (by omega)
   cases e
   rw [Addr.add_lit]
   exact hcell j u hj
  ·calc (n + m) * bytes ≤ 1000000001 * 4096 := Nat.mul_le_mul (by omega) hb
    _ ≤ 140737488355328 := by omega
  ·intro v' w' hown' hg _ hat
   exact h v' w' hown' hg hat
end
section
open Go.RowKit
open Se
def strK (L : List St) : List Value := L.flatMap fun x => [.int .i64 x.1, .int .i64 x.2]
theorem strK_snoc (L : List St) (x : St) : strK (L ++ [x]) = strK L ++ [.int .i64 x.1, .int .i64 x.2] := by unfold strK; rw [List.flatMap_append]; simp
theorem strK_get (L : List St) : ∀ j, j < L.length → (strK L)[2 * j]? = some (.int .i64 (L.getD j (0, 0)).1) ∧ (strK L)[2 * j + 1]? = some (.int .i64 (L.getD j (0, 0)).2) := by
 induction L with
 | nil => intro j h; simp at h
 | cons p L ih =>
  intro j h
  have e : strK (p :: L) = .int .i64 p.1 :: .int .i64 p.2 :: strK L := rfl
  rw [e]
  cases j with
  | zero => exact ⟨rfl, rfl⟩
  | succ j =>
   have := ih j (by simpa using h)
   simp only [List.getD_cons_succ]
   rw [show 2 * (j + 1) = 2 * j + 1 + 1 by omega]
   simp only [List.getElem?_cons_succ]
   exact this
def IsStr (w : World) (a : Option Addr) (n : Nat) (L : List St) : Prop :=
 L.length = n ∧ (0 < n → ∃ b o, a = some ⟨b, o, none⟩ ∧ b < w.heap.size ∧ ∀ j, j < n → w.cell? ⟨b, o + j * 2, none⟩ = some (.int .i64 (L.getD j (0, 0)).1) ∧ w.cell? ⟨b, o + j * 2 + 1, none⟩ = some (.int .i64 (L.getD j (0, 0)).2))
theorem IsStr.below {w w' : World} {a : Option Addr} {n : Nat} {L : List St} (h : IsStr w a n L) (hb : Below w.heap.size w w') : IsStr w' a n L := by
 refine ⟨h.1, fun hn => ?_⟩
 obtain ⟨b, o, h1, h2, h3⟩ := h.2 hn
 exact ⟨b, o, h1, Nat.lt_of_lt_of_le h2 hb.size, fun j hj => ⟨bCs hb (h3 j hj).1, bCs hb (h3 j hj).2⟩⟩
theorem IsStr.nil (w : World) : IsStr w none 0 [] := ⟨rfl, fun h => absurd h (by omega)⟩
def OwnSt (w : World) (base : Nat) (v : Value) (L : List St) : Prop := w.ownsRow base 44 2 v L.length (strK L)
theorem OwnSt.nil (w : World) (base c : Nat) : OwnSt w base (.slice none 0 0) [] := World.ownsRow_nil _ _ _ _
theorem OwnSt.val {w : World} {base : Nat} {v : Value} {L : List St} (h : OwnSt w base v L) : ∃ A C, v = .slice A L.length C := by
 rcases h.2 with ⟨e, e0⟩ | ⟨g, cap, cur, e, _⟩
 ·rw [e0] at *
  exact ⟨none, 0, by rw [e]⟩
 ·exact ⟨_, _, e⟩
theorem OwnSt.str {w : World} {base : Nat} {A : Option Addr} {n C : Nat} {L : List St} (h : OwnSt w base (.slice A n C) L) : n = L.length ∧ IsStr w A n L := by
 have hv := h.2
 rcases hv with ⟨e, e0⟩ | ⟨g, cap, cur, e, hb, hg, h3, h4, h5, h6⟩
 ·injection e with e1 e2 e3
  subst e2
  refine ⟨e0.symm, e0, fun hn => absurd hn (by omega)⟩
 ·injection e with e1 e2 e3
  refine ⟨e2, e2.symm, fun hn => ⟨g, 0, e1, (Array.getElem?_eq_some_iff.1 hg).1, fun j hj => ?_⟩⟩
  have hc : ∀ r u, r < 2 → (strK L)[2 * j + r]? = some u → w.cell? ⟨g, 0 + j * 2 + r, none⟩ = some u := fun r u hr hu => by
   have h7 : cur[2 * j + r]? = some u := by
    rw [← Array.getElem?_toList, ← List.getElem?_take_of_lt (show 2 * j + r < L.length * 2 by omega), h6]
    exact hu
   rw [show 0 + j * 2 + r = 2 * j + r by omega]
   simp [World.cell?, hg, h7]
  have hg2 := strK_get L j (by omega)
  exact ⟨hc 0 _ (by omega) hg2.1, hc 1 _ (by omega) hg2.2⟩
theorem okStr : ElemOk 22 44 2 16 (.agg #[.int .i64 0, .int .i64 0]) := ⟨Tryd.underlying22, by kernel_rfl, rfl, by omega⟩
end
section
open Go.RowKit
open Se
theorem longTo_bd {pv : Bool} {L : List St} : ∀ k, (∀ j, j < k → ¬ badS (L.getD j (0, 0))) → 0 ≤ longTo pv L k ∧ longTo pv L k ≤ 8192 * k
 | 0, _ => by unfold longTo; omega
 | k + 1, h => by
  have ih := longTo_bd (pv := pv) k fun j hj => h j (by omega)
  have hk := h k (by omega)
  unfold badS at hk
  have e : longTo pv L (k + 1) = longTo pv L k + thrN pv L.length k (L.getD k (0, 0)) := rfl
  rw [e]
  unfold thrN
  split <;> omega
theorem wrS_many {pv : Bool} {L : List St} {n : Nat} (hl : L.length = n) (h : n = 0 ∨ 256 < n ∨ (pv = true ∧ n = 1)) : wrS pv L = 5 := by
 unfold wrS; rw [if_pos (by rw [hl]; exact h)]
theorem wrS_bad {pv : Bool} {L : List St} {n k : Nat} (hl : L.length = n) (h : ¬ (n = 0 ∨ 256 < n ∨ (pv = true ∧ n = 1))) (hk : k < n) (hb : badS (L.getD k (0, 0))) : wrS pv L = 3 := by
 unfold wrS
 rw [if_neg (by rw [hl]; exact h), if_pos]
 refine ⟨L.getD k (0, 0), ?_, hb⟩
 rw [List.getD_eq_getElem?_getD, List.getElem?_eq_getElem (by omega)]
 exact List.getElem_mem _
theorem wrS_all {pv : Bool} {L : List St} {n : Nat} (hl : L.length = n) (h : ¬ (n = 0 ∨ 256 < n ∨ (pv = true ∧ n = 1))) (hb : ∀ j, j < n → ¬ badS (L.getD j (0, 0))) : wrS pv L = if 4096 < longTo pv L n then 4 else 0 := by
 unfold wrS
 rw [if_neg (by rw [hl]; exact h), if_neg]
 ·unfold longS; rw [hl]
 ·rintro ⟨x, hx, hbx⟩
  obtain ⟨j, hj, rfl⟩ := List.getElem_of_mem hx
  have := hb j (by omega)
  rw [List.getD_eq_getElem?_getD, List.getElem?_eq_getElem hj] at this
  exact this hbx
theorem lfSe20 {P : Prop} (h : P := by
 go_wp2
 go_ret
 exact ⟨by rw [HR.out]; rfl, blw⟩) : P := h
set_option maxRecDepth 100000 in
set_option maxHeartbeats 8000000 in
theorem seWrong_any (pv : Bool) (a : Option Addr) (n c : Nat) (L : List St) (w : World) (hI : IsStr w a n L) (hn : n ≤ 9223372036854775807) :
  Calls Tryd.prog 7 #[.agg #[.bool pv, .slice a n c]] w fun r w' => r = .returned (.int .i64 (wrS pv L)) ∧ Below w.heap.size w w' := by
 have HI := Lib.hid hI
 by_cases hm : n = 0 ∨ 256 < n ∨ (pv = true ∧ n = 1)
 ·have HW := Lib.hid (wrS_many hI.1 hm)
  clear hI
  by_cases h0 : n = 0
  ·have q1 : ((n : Int) == 0) = true := by simp; omega
   clear hm h0
   go_enter Tryd.func7, Tryd.ntmps7
   go_wp2
   go_ret
   exact ⟨by rw [HW.out]; rfl, blw⟩
  ·have q1 : ((n : Int) == 0) = false := by simp; omega
   by_cases h2 : 256 < n
   ·have q2 : decide ((n : Int) > 256) = true := by simp; omega
    have q3 : decide ((256 : Int) < (n : Int)) = true := by simp; omega
    clear hm h0 h2
    go_enter Tryd.func7, Tryd.ntmps7
    go_wp2
    go_ret
    exact ⟨by rw [HW.out]; rfl, blw⟩
   ·have q2 : decide ((n : Int) > 256) = false := by simp; omega
    have q3 : decide ((256 : Int) < (n : Int)) = false := by simp; omega
    have h3 : pv = true ∧ n = 1 := by
     rcases hm with h | h | h
     ·exact absurd h h0
     ·exact absurd h h2
     ·exact h
    obtain ⟨rfl, rfl⟩ := h3
    clear hm h0 h2
    go_enter Tryd.func7, Tryd.ntmps7
    go_wp2
    go_ret
    exact ⟨by rw [HW.out]; rfl, blw⟩
 ·have HW := Lib.hid (fun k => wrS_bad (k := k) hI.1 hm)
  have HA := Lib.hid (wrS_all hI.1 hm)
  have HL := Lib.hid hI.1
  have q1 : ((n : Int) == 0) = false := by simp; omega
  have q2 : decide ((n : Int) > 256) = false := by simp; omega
  have q3 : decide ((256 : Int) < (n : Int)) = false := by simp; omega
  have hn2 : n ≤ 256 := by omega
  have hn0 : 0 < n := by omega
  have hp1 : pv = true → ((n : Int) == 1) = false := fun h => by
   have : n ≠ 1 := fun e => hm (.inr (.inr ⟨h, e⟩))
   simp; omega
  clear hm hI hn
  go_enter Tryd.func7, Tryd.ntmps7
  obtain ⟨lt, hlt⟩ : ∃ f, longTo pv L = f := ⟨_, rfl⟩
  rw [hlt] at HA
  have HB : Hid (∀ k, (∀ j, j < k → ¬ badS (L.getD j (0, 0))) → 0 ≤ lt k ∧ lt k ≤ 8192 * k) := Lib.hid fun k h => by rw [← hlt]; exact longTo_bd k h
  have HS : Hid (∀ k, lt (k + 1) = lt k + thrN pv n k (L.getD k (0, 0))) := Lib.hid fun k => by rw [← hlt, ← HL.out]; rfl
  have H0 : Hid (lt 0 = 0) := Lib.hid (by rw [← hlt]; rfl)
  clear hlt
  unfold thrN at HS
  cases pv
  all_goals
   try have hp2 := hp1 rfl
   clear hp1
   simp only [Bool.false_eq_true, false_and, true_and, if_false] at HS
   go_wp2_with fail
   try clear hp2
   go_loopw [3, 30] (fun al iv wr => ∃ k : Nat, k ≤ n ∧ iv = .int .i64 k ∧ al = .int .i64 (lt k) ∧ Hid (∀ j, j < k → ¬ badS (L.getD j (0, 0))) ∧ ∃ E d, wr = extW (w.alloc (.cells #[.bool _, .slice a n c] 24)) E d) (fun _ i _ => n - (intOf i).toNat)
   case atStart => exact ⟨0, Nat.zero_le _, rfl, by rw [H0.out], Lib.hid (by omega), _, _, extW_zero _⟩
   case round =>
    obtain ⟨k, hk, rfl, rfl, HK, E, d, rfl⟩ := hrel
    have hlb := HB.out k HK.out
    by_cases hkn : k < n
    ·skip
     obtain ⟨p1, o1, rfl, hp1, hc1⟩ := HI.out.2 (by omega)
     have kk := hc1 k hkn
     have l1 : LtW p1 w := hp1
     obtain ⟨x, hx⟩ : ∃ x, (L.getD k (0, 0)).1 = x := ⟨_, rfl⟩
     obtain ⟨y, hy⟩ : ∃ y, (L.getD k (0, 0)).2 = y := ⟨_, rfl⟩
     have hbd : badS (L.getD k (0, 0)) ↔ (x < 0 ∨ 62 ≤ x ∨ y < 1 ∨ 4096 < y) := by unfold badS; rw [hx, hy]
     rw [hx, hy] at kk
     obtain ⟨k1, k2⟩ := kk
     have HX := Lib.hid hx; have HY := Lib.hid hy
     have HBD := Lib.hid hbd
     clear hc1 hp1 hx hy hbd
     rcases (show x < 0 ∨ (0 ≤ x ∧ 62 ≤ x) ∨ (0 ≤ x ∧ x < 62 ∧ y < 1) ∨ (0 ≤ x ∧ x < 62 ∧ 1 ≤ y ∧ 4096 < y) ∨ (0 ≤ x ∧ x < 62 ∧ 1 ≤ y ∧ y ≤ 4096 ∧ k = 0) ∨ (0 ≤ x ∧ x < 62 ∧ 1 ≤ y ∧ y ≤ 4096 ∧ 0 < k ∧ k + 1 < n) ∨ (0 ≤ x ∧ x < 62 ∧ 1 ≤ y ∧ y ≤ 4096 ∧ 0 < k ∧ n ≤ k + 1) by omega) with h | ⟨h, h2⟩ | ⟨h, h2, h3⟩ | ⟨h, h2, h3, h4⟩ | ⟨h, h2, h3, h4, h5⟩ | ⟨h, h2, h3, h4, h5, h6⟩ | ⟨h, h2, h3, h4, h5, h6⟩
     all_goals
      try have f1t : decide (x < 0) = true := by simp; omega
      try have f1f : decide (x < 0) = false := by simp; omega
      try have f2t : decide (x ≥ 62) = true := by simp; omega
      try have f2f : decide (x ≥ 62) = false := by simp; omega
      try have f2bt : decide (62 ≤ x) = true := by simp; omega
      try have f2bf : decide (62 ≤ x) = false := by simp; omega
      try have f3t : decide (y < 1) = true := by simp; omega
      try have f3f : decide (y < 1) = false := by simp; omega
      try have f4t : decide (y > 4096) = true := by simp; omega
      try have f4f : decide (y > 4096) = false := by simp; omega
      try have f4bt : decide (4096 < y) = true := by simp; omega
      try have f4bf : decide (4096 < y) = false := by simp; omega
      try have f5t : decide ((k : Int) > 0) = true := by simp; omega
      try have f5f : decide ((k : Int) > 0) = false := by simp; omega
      try have f5bt : decide ((0 : Int) < (k : Int)) = true := by simp; omega
      try have f5bf : decide ((0 : Int) < (k : Int)) = false := by simp; omega
      try have f5ct : decide (0 < k) = true := by simp; omega
      try have f5cf : decide (0 < k) = false := by simp; omega
      try have f6t : decide ((k : Int) < (n : Int) - 1) = true := by simp; omega
      try have f6f : decide ((k : Int) < (n : Int) - 1) = false := by simp; omega
     ·have HR := Lib.hid (HW.out k hkn (HBD.out.2 (by omega)))
      exact lfSe20
     ·have HR := Lib.hid (HW.out k hkn (HBD.out.2 (by omega)))
      exact lfSe20
     ·have HR := Lib.hid (HW.out k hkn (HBD.out.2 (by omega)))
      exact lfSe20
     ·have HR := Lib.hid (HW.out k hkn (HBD.out.2 (by omega)))
      exact lfSe20
     all_goals
      have HK1 : Hid (∀ j, j < k + 1 → ¬ badS (L.getD j (0, 0))) := Lib.hid (fun j hj => by
       by_cases e : j = k
       ·subst e; exact fun hb => by have := HBD.out.1 hb; omega
       ·exact HK.out j (by omega))
      have hs := HS.out k
      rw [HY.out] at hs
      first | rw [if_neg (by omega)] at hs | rw [if_pos (by omega)] at hs | skip
      have v1 : IntKind.i64.wrap (lt k + y) = lt k + y := IntWalk.i64_in _ (by omega)
      have v2 : IntKind.i64.wrap (y * 2) = y * 2 := IntWalk.i64_in _ (by omega)
      have v3 : IntKind.i64.wrap (lt k + y * 2) = lt k + y * 2 := IntWalk.i64_in _ (by omega)
      have v4 : IntKind.i64.wrap ((n : Int) - 1) = (n : Int) - 1 := IntWalk.i64_in _ (by omega)
      have HS1 := Lib.hid hs
      clear hs
      try clear h6
      clear h5
      go_wp2
      go_roundw
      case rel => exact ⟨k + 1, by omega, by go_num, by rw [HS1.out], HK1, bExt blw⟩
      case measure => simp [intOf]; omega
    ·have hkn2 : k = n := by omega
     subst hkn2
     have HR := Lib.hid (HA.out HK.out)
     by_cases hm : 4096 < lt k
     ·have q4 : decide (lt k > 4096) = true := by simp; omega
      have q5 : decide (4096 < lt k) = true := by simp; omega
      rw [if_pos hm] at HR
      exact lfSe20
     ·have q4 : decide (lt k > 4096) = false := by simp; omega
      have q5 : decide (4096 < lt k) = false := by simp; omega
      rw [if_neg hm] at HR
      exact lfSe20
end
section
open Go.RowKit
open Se
set_option maxRecDepth 100000 in
set_option maxHeartbeats 8000000 in
theorem rLong_ok (pv : Bool) (a : Option Addr) (n c : Nat) (L : List St) (w : World) (hI : IsStr w a n L) (hn2 : n ≤ 256) (hb : ∀ j, j < n → ¬ badS (L.getD j (0, 0))) :
  Calls Tryd.prog 20 #[.agg #[.bool pv, .slice a n c]] w fun r w' => r = .returned (.int .i64 (longTo pv L n)) ∧ Below w.heap.size w w' := by
 have HI := Lib.hid hI
 have HL := Lib.hid hI.1
 have HBB := Lib.hid hb
 obtain ⟨lt, hlt⟩ : ∃ f, longTo pv L = f := ⟨_, rfl⟩
 have HB : Hid (∀ k, (∀ j, j < k → ¬ badS (L.getD j (0, 0))) → 0 ≤ lt k ∧ lt k ≤ 8192 * k) := Lib.hid fun k h => by rw [← hlt]; exact longTo_bd k h
 have HS : Hid (∀ k, lt (k + 1) = lt k + thrN pv n k (L.getD k (0, 0))) := Lib.hid fun k => by rw [← hlt, ← HL.out]; rfl
 have H0 : Hid (lt 0 = 0) := Lib.hid (by rw [← hlt]; rfl)
 rw [hlt]
 clear hlt hI hb
 unfold thrN at HS
 go_enter Tryd.func20, Tryd.ntmps20
 cases pv
 all_goals
  simp only [Bool.false_eq_true, false_and, true_and, if_false] at HS
  go_wp2_with fail
  go_loopw [3, 9] (fun al iv wr => ∃ k : Nat, k ≤ n ∧ iv = .int .i64 k ∧ al = .int .i64 (lt k) ∧ ∃ E d, wr = extW (w.alloc (.cells #[.bool _, .slice a n c] 24)) E d) (fun _ i _ => n - (intOf i).toNat)
  case atStart => exact ⟨0, Nat.zero_le _, rfl, by rw [H0.out], _, _, extW_zero _⟩
  case round =>
   obtain ⟨k, hk, rfl, rfl, E, d, rfl⟩ := hrel
   have hlb := HB.out k (fun j hj => HBB.out j (by omega))
   by_cases hkn : k < n
   ·skip
    obtain ⟨p1, o1, rfl, hp1, hc1⟩ := HI.out.2 (by omega)
    have kk := hc1 k hkn
    have l1 : LtW p1 w := hp1
    obtain ⟨x, hx⟩ : ∃ x, (L.getD k (0, 0)).1 = x := ⟨_, rfl⟩
    obtain ⟨y, hy⟩ : ∃ y, (L.getD k (0, 0)).2 = y := ⟨_, rfl⟩
    have hbd : badS (L.getD k (0, 0)) ↔ (x < 0 ∨ 62 ≤ x ∨ y < 1 ∨ 4096 < y) := by unfold badS; rw [hx, hy]
    rw [hx, hy] at kk
    obtain ⟨k1, k2⟩ := kk
    have HX := Lib.hid hx; have HY := Lib.hid hy
    have HBD := Lib.hid hbd
    clear hc1 hp1 hx hy hbd
    have hgood : ¬ (x < 0 ∨ 62 ≤ x ∨ y < 1 ∨ 4096 < y) := fun h => HBB.out k hkn (HBD.out.2 h)
    rcases (show k = 0 ∨ (0 < k ∧ k + 1 < n) ∨ (0 < k ∧ n ≤ k + 1) by omega) with h5 | ⟨h5, h6⟩ | ⟨h5, h6⟩
    all_goals
     try have f1t : decide (x < 0) = true := by simp; omega
     try have f1f : decide (x < 0) = false := by simp; omega
     try have f2t : decide (x ≥ 62) = true := by simp; omega
     try have f2f : decide (x ≥ 62) = false := by simp; omega
     try have f2bt : decide (62 ≤ x) = true := by simp; omega
     try have f2bf : decide (62 ≤ x) = false := by simp; omega
     try have f3t : decide (y < 1) = true := by simp; omega
     try have f3f : decide (y < 1) = false := by simp; omega
     try have f4t : decide (y > 4096) = true := by simp; omega
     try have f4f : decide (y > 4096) = false := by simp; omega
     try have f4bt : decide (4096 < y) = true := by simp; omega
     try have f4bf : decide (4096 < y) = false := by simp; omega
     try have f5t : decide ((k : Int) > 0) = true := by simp; omega
     try have f5f : decide ((k : Int) > 0) = false := by simp; omega
     try have f5bt : decide ((0 : Int) < (k : Int)) = true := by simp; omega
     try have f5bf : decide ((0 : Int) < (k : Int)) = false := by simp; omega
     try have f5ct : decide (0 < k) = true := by simp; omega
     try have f5cf : decide (0 < k) = false := by simp; omega
     try have f6t : decide ((k : Int) < (n : Int) - 1) = true := by simp; omega
     try have f6f : decide ((k : Int) < (n : Int) - 1) = false := by simp; omega
     try have g2t : decide (x > 61) = true := by simp; omega
     try have g2f : decide (x > 61) = false := by simp; omega
     try have g2bt : decide (61 < x) = true := by simp; omega
     try have g2bf : decide (61 < x) = false := by simp; omega
     try have g6t : decide ((k : Int) + 1 < (n : Int)) = true := by simp; omega
     try have g6f : decide ((k : Int) + 1 < (n : Int)) = false := by simp; omega
     have hs := HS.out k
     rw [HY.out] at hs
     first | rw [if_neg (by omega)] at hs | rw [if_pos (by omega)] at hs | skip
     have v1 : IntKind.i64.wrap (lt k + y) = lt k + y := IntWalk.i64_in _ (by omega)
     have v2 : IntKind.i64.wrap (lt k + y + y) = lt k + y + y := IntWalk.i64_in _ (by omega)
     have v4 : IntKind.i64.wrap ((k : Int) + 1) = (k : Int) + 1 := IntWalk.i64_in _ (by omega)
     have HS1 := Lib.hid hs
     clear hs hgood
     try clear h6
     clear h5
     go_wp2
     go_roundw
     case rel => exact ⟨k + 1, by omega, by go_num, (by rw [HS1.out]; try (congr 1; omega)), bExt blw⟩
     case measure => simp [intOf]; omega
   ·have hkn2 : k = n := by omega
    subst hkn2
    go_wp2
    go_ret
    exact ⟨rfl, blw⟩
theorem lfSe40 {P : Prop} (h : P := by
 go_wp2
 go_ret
 exact ⟨by rw [HR.out]; rfl, blw⟩) : P := h
set_option maxRecDepth 100000 in
set_option maxHeartbeats 8000000 in
theorem rWrongS_any (pv : Bool) (a : Option Addr) (n c : Nat) (L : List St) (w : World) (hI : IsStr w a n L) (hn : n ≤ 9223372036854775807) :
  Calls Tryd.prog 8 #[.agg #[.bool pv, .slice a n c]] w fun r w' => r = .returned (.int .i64 (wrS pv L)) ∧ Below w.heap.size w w' := by
 have HI := Lib.hid hI
 by_cases hm : n = 0 ∨ 256 < n ∨ (pv = true ∧ n = 1)
 ·have HW := Lib.hid (wrS_many hI.1 hm)
  clear hI
  by_cases h0 : n = 0
  ·have q1 : decide ((n : Int) < 1) = true := by simp; omega
   clear hm h0
   go_enter Tryd.func8, Tryd.ntmps8
   go_wp2
   go_ret
   exact ⟨by rw [HW.out]; rfl, blw⟩
  ·have q1 : decide ((n : Int) < 1) = false := by simp; omega
   by_cases h2 : 256 < n
   ·have q2 : decide ((n : Int) > 256) = true := by simp; omega
    have q3 : decide ((256 : Int) < (n : Int)) = true := by simp; omega
    clear hm h0 h2
    go_enter Tryd.func8, Tryd.ntmps8
    go_wp2
    go_ret
    exact ⟨by rw [HW.out]; rfl, blw⟩
   ·have q2 : decide ((n : Int) > 256) = false := by simp; omega
    have q3 : decide ((256 : Int) < (n : Int)) = false := by simp; omega
    have h3 : pv = true ∧ n = 1 := by
     rcases hm with h | h | h
     ·exact absurd h h0
     ·exact absurd h h2
     ·exact h
    obtain ⟨rfl, rfl⟩ := h3
    clear hm h0 h2
    go_enter Tryd.func8, Tryd.ntmps8
    go_wp2
    go_ret
    exact ⟨by rw [HW.out]; rfl, blw⟩
 ·have HW := Lib.hid (fun k => wrS_bad (k := k) hI.1 hm)
  have HA := Lib.hid (wrS_all hI.1 hm)
  have HL := Lib.hid hI.1
  have q1 : decide ((n : Int) < 1) = false := by simp; omega
  have q2 : decide ((n : Int) > 256) = false := by simp; omega
  have q3 : decide ((256 : Int) < (n : Int)) = false := by simp; omega
  have hn2 : n ≤ 256 := by omega
  have hn0 : 0 < n := by omega
  have hp1 : pv = true → decide ((n : Int) < 2) = false := fun h => by
   have : n ≠ 1 := fun e => hm (.inr (.inr ⟨h, e⟩))
   simp; omega
  have HLG : Hid (∀ w, IsStr w a n L → (∀ j, j < n → ¬ badS (L.getD j (0, 0))) → Calls Tryd.prog 20 #[.agg #[.bool pv, .slice a n c]] w fun r w' => r = .returned (.int .i64 (longTo pv L n)) ∧ Below w.heap.size w w') := Lib.hid fun w h hb => rLong_ok pv a n c L w h hn2 hb
  clear hm hI hn
  obtain ⟨lg, hlg⟩ : ∃ lg, longTo pv L n = lg := ⟨_, rfl⟩
  rw [hlg] at HA HLG
  clear hlg
  go_enter Tryd.func8, Tryd.ntmps8
  cases pv
  all_goals
   try have hp2 := hp1 rfl
   clear hp1
   go_wp2_with fail
   try clear hp2
   go_loopw [28] (fun iv wr => ∃ k : Nat, k ≤ n ∧ iv = .int .i64 k ∧ Hid (∀ j, j < k → ¬ badS (L.getD j (0, 0))) ∧ ∃ E d, wr = extW (w.alloc (.cells #[.bool _, .slice a n c] 24)) E d) (fun i _ => n - (intOf i).toNat)
   case atStart => exact ⟨0, Nat.zero_le _, rfl, Lib.hid (by omega), _, _, extW_zero _⟩
   case round =>
    obtain ⟨k, hk, rfl, HK, E, d, rfl⟩ := hrel
    by_cases hkn : k < n
    ·skip
     obtain ⟨p1, o1, rfl, hp1, hc1⟩ := HI.out.2 (by omega)
     have kk := hc1 k hkn
     have l1 : LtW p1 w := hp1
     obtain ⟨x, hx⟩ : ∃ x, (L.getD k (0, 0)).1 = x := ⟨_, rfl⟩
     obtain ⟨y, hy⟩ : ∃ y, (L.getD k (0, 0)).2 = y := ⟨_, rfl⟩
     have hbd : badS (L.getD k (0, 0)) ↔ (x < 0 ∨ 62 ≤ x ∨ y < 1 ∨ 4096 < y) := by unfold badS; rw [hx, hy]
     rw [hx, hy] at kk
     obtain ⟨k1, k2⟩ := kk
     have HX := Lib.hid hx; have HY := Lib.hid hy
     have HBD := Lib.hid hbd
     clear hc1 hp1 hx hy hbd
     rcases (show x < 0 ∨ (0 ≤ x ∧ 62 ≤ x) ∨ (0 ≤ x ∧ x < 62 ∧ y < 1) ∨ (0 ≤ x ∧ x < 62 ∧ 1 ≤ y ∧ 4096 < y) ∨ (0 ≤ x ∧ x < 62 ∧ 1 ≤ y ∧ y ≤ 4096) by omega) with h | ⟨h, h2⟩ | ⟨h, h2, h3⟩ | ⟨h, h2, h3, h4⟩ | ⟨h, h2, h3, h4⟩
     all_goals
      try have f1t : decide (x < 0) = true := by simp; omega
      try have f1f : decide (x < 0) = false := by simp; omega
      try have f2t : decide (x ≥ 62) = true := by simp; omega
      try have f2f : decide (x ≥ 62) = false := by simp; omega
      try have f2bt : decide (62 ≤ x) = true := by simp; omega
      try have f2bf : decide (62 ≤ x) = false := by simp; omega
      try have f3t : decide (y < 1) = true := by simp; omega
      try have f3f : decide (y < 1) = false := by simp; omega
      try have f4t : decide (y > 4096) = true := by simp; omega
      try have f4f : decide (y > 4096) = false := by simp; omega
      try have f4bt : decide (4096 < y) = true := by simp; omega
      try have f4bf : decide (4096 < y) = false := by simp; omega
      try have f5t : decide ((k : Int) > 0) = true := by simp; omega
      try have f5f : decide ((k : Int) > 0) = false := by simp; omega
      try have f5bt : decide ((0 : Int) < (k : Int)) = true := by simp; omega
      try have f5bf : decide ((0 : Int) < (k : Int)) = false := by simp; omega
      try have f5ct : decide (0 < k) = true := by simp; omega
      try have f5cf : decide (0 < k) = false := by simp; omega
      try have f6t : decide ((k : Int) < (n : Int) - 1) = true := by simp; omega
      try have f6f : decide ((k : Int) < (n : Int) - 1) = false := by simp; omega
      try have g2t : decide (x > 61) = true := by simp; omega
      try have g2f : decide (x > 61) = false := by simp; omega
      try have g2bt : decide (61 < x) = true := by simp; omega
      try have g2bf : decide (61 < x) = false := by simp; omega
      try have g6t : decide ((k : Int) + 1 < (n : Int)) = true := by simp; omega
      try have g6f : decide ((k : Int) + 1 < (n : Int)) = false := by simp; omega
     ·have HR := Lib.hid (HW.out k hkn (HBD.out.2 (by omega)))
      exact lfSe40
     ·have HR := Lib.hid (HW.out k hkn (HBD.out.2 (by omega)))
      exact lfSe40
     ·have HR := Lib.hid (HW.out k hkn (HBD.out.2 (by omega)))
      exact lfSe40
     ·have HR := Lib.hid (HW.out k hkn (HBD.out.2 (by omega)))
      exact lfSe40
     ·have HK1 : Hid (∀ j, j < k + 1 → ¬ badS (L.getD j (0, 0))) := Lib.hid (fun j hj => by
       by_cases e : j = k
       ·subst e; exact fun hb => by have := HBD.out.1 hb; omega
       ·exact HK.out j (by omega))
      go_wp2
      go_roundw
      case rel => exact ⟨k + 1, by omega, by go_num, HK1, bExt blw⟩
      case measure => simp [intOf]; omega
    ·have hkn2 : k = n := by omega
     subst hkn2
     have HR := Lib.hid (HA.out HK.out)
     (go_wp2_with fail; refine (HLG.out _ (HI.out.below blw) HK.out).mono ?_; rintro r w1 ⟨rfl, hb⟩; obtain ⟨E, d, rfl⟩ := bExt hb; clear hb)
     by_cases hm : 4096 < lg
     ·have q4 : decide (lg > 4096) = true := by simp; omega
      have q5 : decide (4096 < lg) = true := by simp; omega
      rw [if_pos hm] at HR
      exact lfSe40
     ·have q4 : decide (lg > 4096) = false := by simp; omega
      have q5 : decide (4096 < lg) = false := by simp; omega
      rw [if_neg hm] at HR
      exact lfSe40
end
section
open Go.RowKit
end
section
open Go.RowKit
open Se
set_option maxRecDepth 100000 in
set_option maxHeartbeats 8000000 in
theorem rSame_self (pv : Bool) (L : List St) (a1 a2 : Option Addr) (n c1 c2 : Nat) (w : World) (h1 : IsStr w a1 n L) (h2 : IsStr w a2 n L) (hn : n ≤ 9223372036854775807) :
  Calls Tryd.prog 14 #[.agg #[.bool pv, .slice a1 n c1], .agg #[.bool pv, .slice a2 n c2]] w fun r w' => r = .returned (.bool true) ∧ Below w.heap.size w w' := by
 have HI := Lib.hid h1; have HJ := Lib.hid h2
 have e0 : (pv != pv) = false := by simp
 have e1 : ((n : Int) != (n : Int)) = false := by simp
 clear h1 h2
 go_enter Tryd.func14, Tryd.ntmps14
 go_wp2_with fail
 clear e1 e0
 go_loopw [23] (fun i wr => ∃ k : Nat, k ≤ n ∧ i = .int .i64 k ∧ ∃ E d, wr = extW ((w.alloc (.cells #[.bool pv, .slice a1 n c1] 24)).alloc (.cells #[.bool pv, .slice a2 n c2] 24)) E d) (fun i _ => n - (intOf i).toNat)
 case atStart => exact ⟨0, Nat.zero_le _, rfl, _, _, extW_zero _⟩
 case round =>
  obtain ⟨k, hk, rfl, E, d, rfl⟩ := hrel
  by_cases hkn : k < n
  ·obtain ⟨p1, o1, rfl, hp1, hc1⟩ := HI.out.2 (by omega)
   obtain ⟨p2, o2, rfl, hp2, hc2⟩ := HJ.out.2 (by omega)
   obtain ⟨k1, k2⟩ := hc1 k hkn
   obtain ⟨k3, k4⟩ := hc2 k hkn
   have l1 : LtW p1 w := hp1
   have l2 : LtW p2 w := hp2
   obtain ⟨x, hx⟩ : ∃ x, (L.getD k (0, 0)).1 = x := ⟨_, rfl⟩
   obtain ⟨y, hy⟩ : ∃ y, (L.getD k (0, 0)).2 = y := ⟨_, rfl⟩
   rw [hx] at k1 k3
   rw [hy] at k2 k4
   clear hc1 hc2 hp1 hp2 hx hy
   have e1 : (x == x) = true := by simp
   have e2 : (y == y) = true := by simp
   go_wp2_with fail
   (refine wp_region_ext (by kernel_rfl) (by kernel_rfl) ?_; (repeat (first | ((with_reducible refine ext_step (fun K hK => ?_)); go_simp; first | (refine hK _ ?_; clear hK K) | (apply Exists.intro; refine ⟨fun _ _ => ?_, hK _ ?_⟩; fail; clear hK K)))); refine wpQuiet_nil ?_; intro E d)
   go_wp2
   go_roundw
   case rel => exact ⟨k + 1, by omega, by go_num, _, _, extW_extW _ _ _ _ _⟩
   case measure => simp [intOf]; omega
  ·go_wp2
   go_ret
   exact ⟨rfl, blw⟩
end
section
open Go.RowKit
end
section
open Go.RowKit
open Go.Shelf
attribute [local go_sem] Oper.semAt_some
end
section
open Go.RowKit
open Go.Shelf
attribute [local go_sem] Oper.semAt_some
end
section
open Go.RowKit
open Go.Shelf
attribute [local go_sem] Oper.semAt_some
section
variable {H M W : Nat} {aa bb : List Bool} {pre : List (Fin H)} {y : Nat} {pre2 : List (Fin M)} {k x p : Nat}
end
section
variable {w : World} {qb ob g ta rb M H W n1 n2 n : Nat} {a1 : Option Addr} {c1 : Nat} {a2 : Option Addr} {c2 : Nat} {f f' : Nat → Bool} {A B : World}
end
end
section
open Go.RowKit
end
section
open Go.RowKit
structure RowsAt (w : World) (a : Option Addr) (n W : Nat) (rs : List (List Bool)) : Prop where
 len : rs.length = n
 rows : 0 < n → ∃ b o, a = some ⟨b, o, none⟩ ∧ b < w.heap.size ∧ ∀ j, j < n → ∃ A c, w.cell? ⟨b, o + j, none⟩ = some (.slice A W c) ∧ IsBools w A W (rs.getD j [])
end
section
open Go.RowKit
open Go.Shelf
end
section
open Go.RowKit
section
variable {P : Program} {ops : Array Oper} {Q : Exit → Act → World → Prop} {md : Region.Mode} {S : World → Prop} {stop : Nat → Bool}
end
end
section
open Go.RowKit
open Go.Shelf
attribute [local go_sem] Oper.semAt_some
section
variable {w : World} {kb ob tb W H n : Nat} {a : Option Addr} {c : Nat} {vk vo : Value} {ks : List (Fin H)} {os : List Nat} {st : List (Fin H) × List Nat} {A B : World}
end
end
section
open Go.RowKit
end
section
open Go.RowKit
namespace Ef
def crs (W : Nat) (cs : List Int) (a b : Nat) : Option Int :=
 if a < W ∧ W ≤ b then some (cs.getD ((b - W) * W + a) 0)
 else if b < W ∧ W ≤ a then some (cs.getD ((a - W) * W + b) 0) else none
def g (p : List Int) (i : Nat) : Int := p.getD i (-1)
def ClosedAt (W : Nat) (cs p : List Int) (a : Nat) : Prop := ∀ b v, b < p.length → crs W cs a b = some v → g p a = v ∨ g p b = v
def Closed (W : Nat) (cs p : List Int) : Prop := ∀ a, a < p.length → 0 ≤ g p a → ClosedAt W cs p a
def Extd (p q : List Int) : Prop := q.length = p.length ∧ ∀ i, i < p.length → 0 ≤ g p i → g q i = g p i
def Good (p : List Int) : Prop := ∀ i, i < p.length → -1 ≤ g p i ∧ g p i < 62
def Least (W : Nat) (cs p r : List Int) : Prop := Extd p r ∧ Closed W cs r ∧ Good r ∧ ∀ q, Good q → Extd p q → Closed W cs q → Extd r q
def Never (W : Nat) (cs p : List Int) : Prop := ∀ q, Good q → Extd p q → ¬ Closed W cs q
inductive Str (W : Nat) (cs : List Int) (N : Nat) : Nat → List Int → Prop
 | zero : Str W cs N 0 (List.replicate N (-1))
 | keep {i : Nat} {p : List Int} : Str W cs N i p → i < N → 0 ≤ g p i → Str W cs N (i + 1) p
 | tie {i : Nat} {p r : List Int} {k : Nat} : Str W cs N i p → i < N → g p i < 0 → k < 62 → (∀ j : Nat, j < k → Never W cs (p.set i j)) → Least W cs (p.set i k) r → Str W cs N (i + 1) r
end Ef
end
section
open Go.RowKit
section
variable {P : Program} {ops : Array Oper} {md : Region.Mode} {Q : Exit → Act → World → Prop}
end
end
section
open Go.RowKit
end
end Go.Proofs.YtnlnonmgekciaaaDoor
