/- Lemmas on which the law of this seat rests; each states its own conditions. -/
import Derived.Test.YtajdoobkfbdgoaaDoorC18
set_option linter.unusedVariables false
set_option linter.unusedSimpArgs false
namespace Go.Proofs.YtajdoobkfbdgoaaDoor
section
open Go.RowKit
open By (bytesOf hasAt sgL encN decL colAt rowF RowR readS rowsF RdR hdR)
def ctF (g w h : Int) (v : Value) : Nat → Value := fun j => if j = 0 then .int .i64 g else if j = 1 then .int .i64 w else if j = 2 then .int .i64 h else v
theorem ctF_alloc (w : World) (g a b : Int) (A : Option Addr) (k c : Nat) : (w.alloc (.cells #[.int .i64 g, .int .i64 a, .int .i64 b, .slice A k c] 25)).rowIs w.heap.size 25 4 (ctF g a b (.slice A k c)) := by
 refine World.rowIs_alloc w #[.int .i64 g, .int .i64 a, .int .i64 b, .slice A k c] 25 _ ?_
 intro i hi
 have hi3 : i = 0 ∨ i = 1 ∨ i = 2 ∨ i = 3 := by simp at hi; omega
 rcases hi3 with rfl | rfl | rfl | rfl <;> rfl
def ftF (e p : Int) : Nat → Value := fun j => if j = 0 then .int .i64 e else .int .i64 p
theorem ftF_alloc (w : World) (e p : Int) : (w.alloc (.cells #[.int .i64 e, .int .i64 p] 28)).rowIs w.heap.size 28 2 (ftF e p) :=
 World.rowIs_alloc w #[.int .i64 e, .int .i64 p] 28 (ftF e p) (by
  intro i hi
  have hi2 : i = 0 ∨ i = 1 := by simp at hi; omega
  rcases hi2 with rfl | rfl <;> rfl)
theorem rdF_alloc (w : World) (s : ByteArray) (p : Nat) : (w.alloc (.cells #[.string s, .int .i64 p] 62)).rowIs w.heap.size 62 2 (rdF s p) :=
 World.rowIs_alloc w #[.string s, .int .i64 p] 62 (rdF s p) (by
  intro i hi
  have hi2 : i = 0 ∨ i = 1 := by simp at hi; omega
  rcases hi2 with rfl | rfl <;> rfl)
def RdPost (R : Nat × RdR) (w : World) (r : Ending) (w' : World) : Prop :=
 match R.2 with
 | .bad e p => r = .returned (.tuple #[.agg #[.int .i64 (0), .int .i64 (0), .int .i64 (0), .slice none 0 0], .agg #[.int .i64 ((e : Int)), .int .i64 ((p : Int))]]) ∧ Below w.heap.size w w'
 | .ok rows => (∃ A C, r = .returned (.tuple #[.agg #[.int .i64 ((R.1 : Int)), .int .i64 (((rows.headD []).length : Int)), .int .i64 ((rows.length : Int)), .slice A rows.reverse.flatten.length C], .agg #[.int .i64 (0), .int .i64 (0)]]) ∧ IsInts w' A rows.reverse.flatten.length (natI rows.reverse.flatten)) ∧ Below w.heap.size w w'
structure OrdR (q q1 rb cb base : Nat) : Prop where
 a : q < q1
 b : q1 < rb
 c : rb < cb
 d : cb < base
structure RI (q q1 rb cb base : Nat) (s : ByteArray) (w0 : World) (p : Nat) (G Wd Hh : Int) (acc : List Nat) (v : Value) (w : World) : Prop where
 res : w.rowIs q 25 4 (ctF 0 0 0 (.slice none 0 0))
 flt : w.rowIs q1 28 2 (ftF 0 0)
 rd : w.rowIs rb 62 2 (rdF s p)
 row : w.rowIs cb 25 4 (ctF G Wd Hh v)
 own : w.ownsRow base 3 1 v acc.length (colsV acc)
 bel : Below q w0 w
 siz : base ≤ w.heap.size
theorem RI.grow {q q1 rb cb base : Nat} {s : ByteArray} {w0 w w' : World} {p : Nat} {G Wd Hh : Int} {acc : List Nat} {v : Value} (h : RI q q1 rb cb base s w0 p G Wd Hh acc v w) (o : OrdR q q1 rb cb base) (hb : Below w.heap.size w w') : RI q q1 rb cb base s w0 p G Wd Hh acc v w' :=
 ⟨rowBelow h.res hb h.res.lt, rowBelow h.flt hb h.flt.lt, rowBelow h.rd hb h.rd.lt, rowBelow h.row hb h.row.lt, ownBelow h.own hb, h.bel.trans (hb.mono (by have := h.res.lt; omega)), Nat.le_trans h.siz hb.size⟩
theorem RI.setAt {q q1 rb cb base : Nat} {s : ByteArray} {w0 w : World} {p : Nat} {G Wd Hh : Int} {acc : List Nat} {v : Value} (h : RI q q1 rb cb base s w0 p G Wd Hh acc v w) (o : OrdR q q1 rb cb base) (p' : Nat) : RI q q1 rb cb base s w0 p' G Wd Hh acc v (w.setCell ⟨rb, 1, none⟩ (.int .i64 (p' : Int))) := by
 have oa := o.a; have ob := o.b; have oc := o.c; have od := o.d
 refine ⟨h.res.of_block (Below.heap_setCell _ _ _ q (by simp; omega)), h.flt.of_block (Below.heap_setCell _ _ _ q1 (by simp; omega)), (h.rd.set 1 _).congr fun i hi => ?_, h.row.of_block (Below.heap_setCell _ _ _ cb (by simp; omega)), ownsRow_setCell_below h.own (a := ⟨rb, 1, none⟩) (by simp; omega) _, h.bel.setCell (by simp; omega) _, by rw [World.size_setCell]; exact h.siz⟩
 have hi3 : i = 0 ∨ i = 1 := by omega
 rcases hi3 with rfl | rfl <;> rfl
theorem RI.setC {q q1 rb cb base : Nat} {s : ByteArray} {w0 w : World} {p : Nat} {G Wd Hh G' W' H' : Int} {acc : List Nat} {v : Value} (h : RI q q1 rb cb base s w0 p G Wd Hh acc v w) (o : OrdR q q1 rb cb base) (i : Nat) (x : Value) (hx : ∀ j, j < 4 → (if j = i then x else ctF G Wd Hh v j) = ctF G' W' H' v j) : RI q q1 rb cb base s w0 p G' W' H' acc v (w.setCell ⟨cb, i, none⟩ x) := by
 have oa := o.a; have ob := o.b; have oc := o.c; have od := o.d
 refine ⟨h.res.of_block (Below.heap_setCell _ _ _ q (by simp; omega)), h.flt.of_block (Below.heap_setCell _ _ _ q1 (by simp; omega)), h.rd.of_block (Below.heap_setCell _ _ _ rb (by simp; omega)), (h.row.set i _).congr fun j hj => hx j hj, ownsRow_setCell_below h.own (a := ⟨cb, i, none⟩) (by simp; omega) _, h.bel.setCell (by simp; omega) _, by rw [World.size_setCell]; exact h.siz⟩
theorem nxt_has {B : List Nat} (hB : ∀ x ∈ B, x < 256) {i r : Nat} (hi : i ≤ B.length) (hr : r < 55296) (h0 : r ≠ 0) : (nxt B i).1 = r ↔ hasAt B i (encN r) := by
 rw [By.has_dec hB hr]
 unfold nxt
 by_cases h : i = B.length
 ·rw [if_pos h]
  constructor
  ·intro e; exact absurd e.symm h0
  ·rintro ⟨h1, _⟩; omega
 ·rw [if_neg h]
  exact ⟨fun e => ⟨by omega, e⟩, fun e => e.2⟩
theorem nxt_at {B : List Nat} (hB : ∀ x ∈ B, x < 256) {i r : Nat} (hr : r < 55296) (h : hasAt B i (encN r)) : nxt B i = (r, (encN r).length) ∧ i + (encN r).length ≤ B.length := by
 have h1 := (By.has_dec hB hr).1 h
 have h2 := By.hasAt_bd h (fun e => by have := (By.encN_len r).1; rw [e] at this; simp at this)
 have h3 := (By.encN_len r).1
 unfold nxt
 rw [if_neg (by omega)]
 exact ⟨Prod.ext h1.2 (By.dec_len hB hr h1.2), h2⟩
theorem RI.call {q q1 rb cb base : Nat} {s : ByteArray} {w0 w w' : World} {p p' : Nat} {G Wd Hh : Int} {acc L : List Nat} {v v' : Value} (h : RI q q1 rb cb base s w0 p G Wd Hh acc v w) (o : OrdR q q1 rb cb base) (hw : RwR rb s w p' L v' w') : RI q q1 rb cb base s w0 p' G Wd Hh acc v w' := by
 have oa := o.a; have ob := o.b; have oc := o.c; have od := o.d
 refine ⟨hw.bel.rowIs h.res h.res.lt (by omega), hw.bel.rowIs h.flt h.flt.lt (by omega), hw.rd, hw.bel.rowIs h.row h.row.lt (by omega), ?_, ?_, Nat.le_trans h.siz hw.bel.size⟩
 ·refine ⟨h.own.1, ?_⟩
  rcases h.own.2 with h2 | ⟨g, cap, cur, e1, hb2, hc, h3⟩
  ·exact .inl h2
  ·refine .inr ⟨g, cap, cur, e1, hb2, ?_, h3⟩
   rw [hw.bel.block g ?_ (by omega)]
   ·exact hc
   ·exact (Array.getElem?_eq_some_iff.1 hc).1
 ·have hl := h.res.lt
  exact h.bel.trans ⟨hw.bel.os, hw.bel.tape, hw.bel.output, Nat.le_trans (Nat.le_of_lt hl) hw.bel.size |> fun h => by have := hw.bel.size; omega, fun k hk => hw.bel.block k (by omega) (by omega)⟩
theorem RI.app {q q1 rb cb base : Nat} {s : ByteArray} {w0 w w' : World} {p : Nat} {G Wd Hh : Int} {acc acc' : List Nat} {v v' : Value} (h : RI q q1 rb cb base s w0 p G Wd Hh acc v w) (o : OrdR q q1 rb cb base) (hb : Below base w w') (hown : w'.ownsRow base 3 1 v' acc'.length (colsV acc')) : RI q q1 rb cb base s w0 p G Wd Hh acc' v' (w'.setCell ⟨cb, 3, none⟩ v') := by
 have oa := o.a; have ob := o.b; have oc := o.c; have od := o.d
 refine ⟨(rowBelow h.res hb (by omega)).of_block (Below.heap_setCell _ _ _ q (by simp; omega)), (rowBelow h.flt hb (by omega)).of_block (Below.heap_setCell _ _ _ q1 (by simp; omega)), (rowBelow h.rd hb (by omega)).of_block (Below.heap_setCell _ _ _ rb (by simp; omega)), ((rowBelow h.row hb (by omega)).set 3 _).congr fun i hi => ?_, ownsRow_setCell_below hown (a := ⟨cb, 3, none⟩) (by simp; omega) _, (h.bel.trans (hb.mono (by omega))).setCell (by simp; omega) _, by rw [World.size_setCell]; exact Nat.le_trans h.siz hb.size⟩
 have hi3 : i = 0 ∨ i = 1 ∨ i = 2 ∨ i = 3 := by omega
 rcases hi3 with rfl | rfl | rfl | rfl <;> rfl
theorem own_cellsV {w : World} {base e m c : Nat} {A : Option Addr} {xs : List Value} (h : w.ownsRow base e 1 (.slice A m c) m xs) (hm : 0 < m) : ∃ b of, A = some ⟨b, of, none⟩ ∧ ∀ j u, xs[j]? = some u → w.cell? ⟨b, of + j, none⟩ = some u := by
 obtain ⟨g, c', e1⟩ := own_some h hm
 injection e1 with e1 _ e2
 subst e1 e2
 refine ⟨g, 0, rfl, fun j u hj => ?_⟩
 rw [Nat.zero_add]
 have hl := (own_parts h).1
 have hj2 := (List.getElem?_eq_some_iff.1 hj).1
 exact (own_cell h (by omega)).1.trans hj
theorem cols_one (l : List Nat) : ∀ u ∈ colsV l, u.oneCell' = true := by
 intro u hu
 simp only [colsV, List.mem_map] at hu
 obtain ⟨x, _, rfl⟩ := hu
 rfl
theorem ctF_1 {G Wd Hh x : Int} {v : Value} : ∀ j, j < 4 → (if j = 1 then .int .i64 x else ctF G Wd Hh v j) = ctF G x Hh v j := fun j hj => by
 have hi3 : j = 0 ∨ j = 1 ∨ j = 2 ∨ j = 3 := by omega
 rcases hi3 with rfl | rfl | rfl | rfl <;> rfl
theorem ctF_2 {G Wd Hh x : Int} {v : Value} : ∀ j, j < 4 → (if j = 2 then .int .i64 x else ctF G Wd Hh v j) = ctF G Wd x v j := fun j hj => by
 have hi3 : j = 0 ∨ j = 1 ∨ j = 2 ∨ j = 3 := by omega
 rcases hi3 with rfl | rfl | rfl | rfl <;> rfl
theorem ctF_0 {G Wd Hh x : Int} {v : Value} : ∀ j, j < 4 → (if j = 0 then .int .i64 x else ctF G Wd Hh v j) = ctF x Wd Hh v j := fun j hj => by
 have hi3 : j = 0 ∨ j = 1 ∨ j = 2 ∨ j = 3 := by omega
 rcases hi3 with rfl | rfl | rfl | rfl <;> rfl
theorem ri_start (s : ByteArray) (w : World) : RI w.heap.size (w.heap.size + 1) (w.heap.size + 1 + 1) (w.heap.size + 1 + 1 + 1) (w.heap.size + 1 + 1 + 1 + 1) s w 0 0 0 0 [] (.slice none 0 0) (((((w.alloc (.cells #[.int .i64 (0), .int .i64 (0), .int .i64 (0), .slice none 0 0] 25)).alloc (.cells #[.int .i64 (0), .int .i64 (0)] 28)).alloc (.cells #[.string s, .int .i64 (0)] 62)).alloc (.cells #[.int .i64 (0), .int .i64 (0), .int .i64 (0), .slice none 0 0] 25))) := by
 have h1 := ((((ctF_alloc w 0 0 0 none 0 0).alloc (.cells #[.int .i64 (0), .int .i64 (0)] 28)).alloc (.cells #[.string s, .int .i64 (0)] 62)).alloc (.cells #[.int .i64 (0), .int .i64 (0), .int .i64 (0), .slice none 0 0] 25))
 have h2 := (((ftF_alloc (w.alloc (.cells #[.int .i64 (0), .int .i64 (0), .int .i64 (0), .slice none 0 0] 25)) 0 0).alloc (.cells #[.string s, .int .i64 (0)] 62)).alloc (.cells #[.int .i64 (0), .int .i64 (0), .int .i64 (0), .slice none 0 0] 25))
 have h3 := ((rdF_alloc ((w.alloc (.cells #[.int .i64 (0), .int .i64 (0), .int .i64 (0), .slice none 0 0] 25)).alloc (.cells #[.int .i64 (0), .int .i64 (0)] 28)) s 0).alloc (.cells #[.int .i64 (0), .int .i64 (0), .int .i64 (0), .slice none 0 0] 25))
 have h4 := ctF_alloc (((w.alloc (.cells #[.int .i64 (0), .int .i64 (0), .int .i64 (0), .slice none 0 0] 25)).alloc (.cells #[.int .i64 (0), .int .i64 (0)] 28)).alloc (.cells #[.string s, .int .i64 (0)] 62)) 0 0 0 none 0 0
 rw [World.size_alloc] at h2
 rw [World.size_alloc, World.size_alloc] at h3
 rw [World.size_alloc, World.size_alloc, World.size_alloc] at h4
 exact ⟨h1, h2, h3, h4, World.ownsRow_nil _ _ _ _, blw, by simp⟩
set_option maxRecDepth 100000 in
theorem lfRd71 {P : Prop} (h : P := by
 have c3 : (w2).cell? ⟨cb, 3, none⟩ = some ((.slice A acc.length C)) := (HRI.out).row.cell (i := 3) (by omega)
 have g0 := (HRI.out).row.frozen 0; have g1 := (HRI.out).row.frozen 1; have g2 := (HRI.out).row.frozen 2; have g3 := (HRI.out).row.frozen 3
 have lc : LtW cb w2 := (HRI.out).row.lt
 go_wp2_with fail
 refine (chBad_any 2 (p9 : Int) _).mono ?_
 rintro r w8 ⟨rfl, hb8⟩
 have hu8 := HRI.out.grow HO.out hb8
 have q0 : (w8).cell? ⟨q, 0, none⟩ = some (.int .i64 (0)) := (hu8).res.cell (i := 0) (by omega)
 have q1' : (w8).cell? ⟨q, 1, none⟩ = some (.int .i64 (0)) := (hu8).res.cell (i := 1) (by omega)
 have q2 : (w8).cell? ⟨q, 2, none⟩ = some (.int .i64 (0)) := (hu8).res.cell (i := 2) (by omega)
 have q3 : (w8).cell? ⟨q, 3, none⟩ = some (.slice none 0 0) := (hu8).res.cell (i := 3) (by omega)
 have f0 := (hu8).res.frozen 0; have f1 := (hu8).res.frozen 1; have f2 := (hu8).res.frozen 2; have f3 := (hu8).res.frozen 3
 have s0 : (w8).cell? ⟨q1, 0, none⟩ = some (.int .i64 (0)) := (hu8).flt.cell (i := 0) (by omega)
 have s1 : (w8).cell? ⟨q1, 1, none⟩ = some (.int .i64 (0)) := (hu8).flt.cell (i := 1) (by omega)
 have e0 := (hu8).flt.frozen 0; have e1 := (hu8).flt.frozen 1
 have lq : LtW q w8 := (hu8).res.lt
 have lq1 : LtW q1 w8 := (hu8).flt.lt
 have HBF := Lib.hid hu8.bel
 clear hb8 hu8 HRI r0 r1 fr lr c0 c1 c2 c3 g0 g1 g2 g3 lc
 go_wp2
 refine bodyPost_ret (v := .tuple #[.agg #[.int .i64 (0), .int .i64 (0), .int .i64 (0), .slice none 0 0], .agg #[.int .i64 (2), .int .i64 ((p9 : Int))]]) (by simp [results, Tryd.results6, go_sem, q0, q1', q2, q3, s0, s1]) rfl ?_
 rw [HU.out]
 refine ⟨rfl, ?_⟩
 rw [HQE.out]
 exact (((((HBF.out.setCell bnq _).setCell bnq _).setCell bnq _).setCell bnq _).setCell bnq _).setCell bnq _) : P := h
set_option maxRecDepth 100000 in
theorem lfRd72 {P : Prop} (h : P := by
 go_wp2_with fail
 refine (chBad_any 5 (i : Int) _).mono ?_
 rintro r w8 ⟨rfl, hb8⟩
 have hu8 := HRI.out.grow HO.out hb8
 have q0 : (w8).cell? ⟨q, 0, none⟩ = some (.int .i64 (0)) := (hu8).res.cell (i := 0) (by omega)
 have q1' : (w8).cell? ⟨q, 1, none⟩ = some (.int .i64 (0)) := (hu8).res.cell (i := 1) (by omega)
 have q2 : (w8).cell? ⟨q, 2, none⟩ = some (.int .i64 (0)) := (hu8).res.cell (i := 2) (by omega)
 have q3 : (w8).cell? ⟨q, 3, none⟩ = some (.slice none 0 0) := (hu8).res.cell (i := 3) (by omega)
 have f0 := (hu8).res.frozen 0; have f1 := (hu8).res.frozen 1; have f2 := (hu8).res.frozen 2; have f3 := (hu8).res.frozen 3
 have s0 : (w8).cell? ⟨q1, 0, none⟩ = some (.int .i64 (0)) := (hu8).flt.cell (i := 0) (by omega)
 have s1 : (w8).cell? ⟨q1, 1, none⟩ = some (.int .i64 (0)) := (hu8).flt.cell (i := 1) (by omega)
 have e0 := (hu8).flt.frozen 0; have e1 := (hu8).flt.frozen 1
 have lq : LtW q w8 := (hu8).res.lt
 have lq1 : LtW q1 w8 := (hu8).flt.lt
 have HBF := Lib.hid hu8.bel
 clear hb8 hu8 HRI r0 r1 fr lr c0 c1 c2 c3 g0 g1 g2 g3 lc
 go_wp2
 refine bodyPost_ret (v := .tuple #[.agg #[.int .i64 (0), .int .i64 (0), .int .i64 (0), .slice none 0 0], .agg #[.int .i64 (5), .int .i64 ((i : Int))]]) (by simp [results, Tryd.results6, go_sem, q0, q1', q2, q3, s0, s1]) rfl ?_
 rw [HU.out]
 refine ⟨rfl, ?_⟩
 rw [HQE.out]
 exact (((((HBF.out.setCell bnq _).setCell bnq _).setCell bnq _).setCell bnq _).setCell bnq _).setCell bnq _) : P := h
set_option maxRecDepth 100000 in
theorem lfRd73 {P : Prop} (h : P := by
 go_wp2_with fail
 refine hROW.mono ?_
 rintro r w2 ⟨rfl, L, v', hw⟩
 have HRI := Lib.hid (HR1.out.call HO.out hw)
 clear hw hROW HR1 HRS2 HNX HNA HNH HTB HT
 clear r0 r1 fr lr c0 c1 c2 c3 g0 g1 g2 g3 lc
 have r0 : (w2).cell? ⟨rb, 0, none⟩ = some (.string s) := (HRI.out).rd.cell (i := 0) (by omega)
 have r1 : (w2).cell? ⟨rb, 1, none⟩ = some (.int .i64 ((p9 : Int))) := (HRI.out).rd.cell (i := 1) (by omega)
 have fr := (HRI.out).rd.frozen 1
 have lr : LtW rb w2 := (HRI.out).rd.lt
 have c0 : (w2).cell? ⟨cb, 0, none⟩ = some (.int .i64 ((GG : Int))) := (HRI.out).row.cell (i := 0) (by omega)
 have c1 : (w2).cell? ⟨cb, 1, none⟩ = some (.int .i64 ((wd : Int))) := (HRI.out).row.cell (i := 1) (by omega)
 have c2 : (w2).cell? ⟨cb, 2, none⟩ = some (.int .i64 ((0 : Int))) := (HRI.out).row.cell (i := 2) (by omega)
 exact lfRd71) : P := h
theorem lfRd74 {P : Prop} (h : P := by
 clear hown4 hg4 hat4 hown5 HOR HRI hb4
 clear r0 r1 fr lr c0 c1 c2 c3 g0 g1 g2 g3 lc
 go_wp2
 go_roundw
 case rel => exact ⟨p9, f, rows ++ [row], .slice A' (rl + acc.length) C', hp2, by omega, by rw [HHE.out]; omega, Lib.hid (by rw [HACE.out, HHE.out, List.length_append, HRL.out]; omega), HRS3, Lib.hid (by rw [HW2.out, HHE.out, HACE.out]; exact HRN.out)⟩
 case measure => exact measR HMS.out HM.out hp1 (by omega)) : P := h
set_option maxRecDepth 100000 in
theorem lfRd70 {P : Prop} (h : P := by
 have HRI := Lib.hid hri3
 have r0 : (w3).cell? ⟨rb, 0, none⟩ = some (.string s) := (hri3).rd.cell (i := 0) (by omega)
 have r1 : (w3).cell? ⟨rb, 1, none⟩ = some (.int .i64 ((3 : Int))) := (hri3).rd.cell (i := 1) (by omega)
 have fr := (hri3).rd.frozen 1
 have lr : LtW rb w3 := (hri3).rd.lt
 have c0 : (w3).cell? ⟨cb, 0, none⟩ = some (.int .i64 ((GG : Int))) := (hri3).row.cell (i := 0) (by omega)
 have c1 : (w3).cell? ⟨cb, 1, none⟩ = some (.int .i64 ((0 : Int))) := (hri3).row.cell (i := 1) (by omega)
 have c2 : (w3).cell? ⟨cb, 2, none⟩ = some (.int .i64 ((0 : Int))) := (hri3).row.cell (i := 2) (by omega)
 have c3 : (w3).cell? ⟨cb, 3, none⟩ = some ((.slice none 0 0)) := (hri3).row.cell (i := 3) (by omega)
 have g0 := (hri3).row.frozen 0; have g1 := (hri3).row.frozen 1; have g2 := (hri3).row.frozen 2; have g3 := (hri3).row.frozen 3
 have lc : LtW cb w3 := (hri3).row.lt
 have hn1 := HNX.out 3 rb w3 (HTB.out _ hri3.bel) (by have := hA.2; omega) r0 r1
 clear hri3
 by_cases h10 : hasAt (bytesOf s) 3 [10]
 ·have hA1 := (HNA.out 3 10 (by omega) h10).1
  have e3 : (encN 10).length = 1 := by decide
  rw [hA1, e3] at hn1
  have HRS : Hid (readS (bytesOf s) = (GG, rowsF (bytesOf s) (N + 2) 4 [])) := Lib.hid (by rw [HR2.out, if_pos h10])
  have h4N : 4 ≤ N := by have := (HNA.out 3 10 (by omega) h10).2; rw [e3] at this; omega
  clear HR2 hA hA1 e3 h10
  go_wp2_with fail
  refine hn1.mono ?_
  rintro r w4 ⟨rfl, hb4⟩
  have hri := HRI.out.grow HO.out hb4
  clear hb4 hn1 HRI
  clear r0 r1 fr lr c0 c1 c2 c3 g0 g1 g2 g3 lc
  have r0 : (w4).cell? ⟨rb, 0, none⟩ = some (.string s) := (hri).rd.cell (i := 0) (by omega)
  have r1 : (w4).cell? ⟨rb, 1, none⟩ = some (.int .i64 ((3 : Int))) := (hri).rd.cell (i := 1) (by omega)
  have fr := (hri).rd.frozen 1
  have lr : LtW rb w4 := (hri).rd.lt
  have c0 : (w4).cell? ⟨cb, 0, none⟩ = some (.int .i64 ((GG : Int))) := (hri).row.cell (i := 0) (by omega)
  have c1 : (w4).cell? ⟨cb, 1, none⟩ = some (.int .i64 ((0 : Int))) := (hri).row.cell (i := 1) (by omega)
  have c2 : (w4).cell? ⟨cb, 2, none⟩ = some (.int .i64 ((0 : Int))) := (hri).row.cell (i := 2) (by omega)
  have c3 : (w4).cell? ⟨cb, 3, none⟩ = some ((.slice none 0 0)) := (hri).row.cell (i := 3) (by omega)
  have g0 := (hri).row.frozen 0; have g1 := (hri).row.frozen 1; have g2 := (hri).row.frozen 2; have g3 := (hri).row.frozen 3
  have lc : LtW cb w4 := (hri).row.lt
  go_upto_region 17 with fail
  have HRI : Hid (RI q q1 rb cb base s w 4 GG 0 0 [] (.slice none 0 0) (w4.setCell ⟨rb, 1, none⟩ (.int .i64 (4)))) := Lib.hid (hri.setAt HO.out 4)
  clear hri
  clear r0 r1 fr lr c0 c1 c2 c3 g0 g1 g2 g3 lc
  generalize w4.setCell ⟨rb, 1, none⟩ (.int .i64 (4)) = w5 at *
  obtain ⟨RES, hRES⟩ : ∃ RES, rowsF (bytesOf s) (N + 2) 4 [] = RES := ⟨_, rfl⟩
  rw [hRES] at HRS
  have HRES := Lib.hid hRES
  clear hRES
  go_loopw [] (fun wr => ∃ (i f : Nat) (rows : List (List Nat)) (v : Value), i ≤ N ∧ N + 2 ≤ i + f ∧ rows.length ≤ 64 ∧ Hid (rows.reverse.flatten.length ≤ 64 * rows.length) ∧ Hid (rowsF (bytesOf s) f i rows = RES) ∧ Hid (RI q q1 rb cb base s w i GG ((rows.headD []).length : Nat) (rows.length : Nat) rows.reverse.flatten v wr)) (fun wr => N + 1 - (cellInt wr rb 1).toNat)
  case atStart => exact ⟨4, N + 2, [], _, by omega, by omega, by simp, Lib.hid (by simp), HRES, HRI⟩
  case round =>
   obtain ⟨i, f, rows, v, hiN, hf, hr64, HAL, HRS2, HR1⟩ := hrel
   clear HRI HRES
   obtain ⟨f, rfl⟩ : ∃ f', f = f' + 1 := ⟨f - 1, by omega⟩
   obtain ⟨A, C, rfl⟩ := own_form HR1.out.own
   have hun : rowsF (bytesOf s) (f + 1) i rows = if i < (bytesOf s).length ∨ rows = [] then (match rowF (bytesOf s) ((bytesOf s).length + 1) i [] with
    | .bad p => .bad 2 p
    | .ok row p => if rows ≠ [] ∧ row.length ≠ (rows.headD []).length then .bad 8 i else if 64 < row.length ∨ rows.length = 64 then .bad 5 i else rowsF (bytesOf s) f p (rows ++ [row])) else .ok rows := rfl
   rw [HRS2.out, HBL.out] at hun
   have hrow0 : rows = [] ↔ rows.length = 0 := List.length_eq_zero_iff.symm
   obtain ⟨wd, hwd⟩ : ∃ x, (rows.headD []).length = x := ⟨_, rfl⟩
   obtain ⟨ht, hht⟩ : ∃ x, rows.length = x := ⟨_, rfl⟩
   obtain ⟨acc, hacc⟩ : ∃ x, rows.reverse.flatten = x := ⟨_, rfl⟩
   have HWD := Lib.hid hwd
   have HHT := Lib.hid hht
   have HAC := Lib.hid hacc
   rw [hwd, hht, hacc] at HR1
   rw [hht, hacc] at HAL
   rw [hht] at hr64 hrow0
   clear hwd hht hacc
   have r0 : (wr).cell? ⟨rb, 0, none⟩ = some (.string s) := (HR1.out).rd.cell (i := 0) (by omega)
   have r1 : (wr).cell? ⟨rb, 1, none⟩ = some (.int .i64 ((i : Int))) := (HR1.out).rd.cell (i := 1) (by omega)
   have fr := (HR1.out).rd.frozen 1
   have lr : LtW rb wr := (HR1.out).rd.lt
   have c0 : (wr).cell? ⟨cb, 0, none⟩ = some (.int .i64 ((GG : Int))) := (HR1.out).row.cell (i := 0) (by omega)
   have c1 : (wr).cell? ⟨cb, 1, none⟩ = some (.int .i64 ((wd : Int))) := (HR1.out).row.cell (i := 1) (by omega)
   have c2 : (wr).cell? ⟨cb, 2, none⟩ = some (.int .i64 ((ht : Int))) := (HR1.out).row.cell (i := 2) (by omega)
   have c3 : (wr).cell? ⟨cb, 3, none⟩ = some ((.slice A acc.length C)) := (HR1.out).row.cell (i := 3) (by omega)
   have g0 := (HR1.out).row.frozen 0; have g1 := (HR1.out).row.frozen 1; have g2 := (HR1.out).row.frozen 2; have g3 := (HR1.out).row.frozen 3
   have lc : LtW cb wr := (HR1.out).row.lt
   by_cases hc : i < N ∨ ht = 0
   ·have hROW := row_ok s i rb wr (HTB.out _ HR1.out.bel) HTN.out (by rw [HN.out]; exact hN6) (by rw [HN.out]; exact hiN) HR1.out.rd
    rw [if_pos (by rw [hrow0]; exact hc)] at hun
    have hfo := fun r p h => By.rowF_ok (By.bytesOf_lt s) (N + 1) i [] r p h (fun k hk => by cases hk)
    rw [HN.out] at hROW
    cases hrow : rowF (bytesOf s) (N + 1) i [] with
    | bad p9 =>
     rw [hrow] at hROW hun
     simp only at hun
     have HU : Hid (readS (bytesOf s) = (GG, .bad 2 p9)) := Lib.hid (by rw [HRS.out, hun])
     clear hun hfo hrow
     by_cases h0 : ht = 0
     ·subst h0
      by_cases hi2 : i < N
      ·have t1 : decide ((i : Int) < (N : Int)) = true := by simp; omega
       have t2 : decide (i < N) = true := by simp; omega
       exact lfRd73
      ·have t1 : decide ((i : Int) < (N : Int)) = false := by simp; omega
       have t2 : decide (i < N) = false := by simp; omega
       exact lfRd73
     ·have e0 : ((ht : Int) == 0) = false := by simp; omega
      have e0' : (ht == 0) = false := by simp; omega
      have e1 : decide ((ht : Int) > 0) = true := by simp; omega
      have e2 : decide ((0 : Int) < (ht : Int)) = true := by simp; omega
      have e3 : decide (0 < ht) = true := by simp; omega
      have hi2 : i < N := by omega
      have t1 : decide ((i : Int) < (N : Int)) = true := by simp; omega
      have t2 : decide (i < N) = true := by simp; omega
      go_wp2_with fail
      refine hROW.mono ?_
      rintro r w2 ⟨rfl, L, v', hw⟩
      have HRI := Lib.hid (HR1.out.call HO.out hw)
      clear hw hROW HR1 HRS2 HNX HNA HNH HTB HT
      clear r0 r1 fr lr c0 c1 c2 c3 g0 g1 g2 g3 lc
      have r0 : (w2).cell? ⟨rb, 0, none⟩ = some (.string s) := (HRI.out).rd.cell (i := 0) (by omega)
      have r1 : (w2).cell? ⟨rb, 1, none⟩ = some (.int .i64 ((p9 : Int))) := (HRI.out).rd.cell (i := 1) (by omega)
      have fr := (HRI.out).rd.frozen 1
      have lr : LtW rb w2 := (HRI.out).rd.lt
      have c0 : (w2).cell? ⟨cb, 0, none⟩ = some (.int .i64 ((GG : Int))) := (HRI.out).row.cell (i := 0) (by omega)
      have c1 : (w2).cell? ⟨cb, 1, none⟩ = some (.int .i64 ((wd : Int))) := (HRI.out).row.cell (i := 1) (by omega)
      have c2 : (w2).cell? ⟨cb, 2, none⟩ = some (.int .i64 ((ht : Int))) := (HRI.out).row.cell (i := 2) (by omega)
      exact lfRd71
    | ok row p9 =>
     rw [hrow] at hROW hun
     simp only at hun
     obtain ⟨t, e1, e2, _, e4, e5⟩ := hfo row p9 hrow
     rw [List.nil_append] at e1
     subst e1
     have hbd := By.hasAt_bd e4 (by simp)
     rw [List.length_append, List.length_singleton, HBL.out] at hbd
     have hrl1 : 0 < row.length := List.length_pos_iff.2 e2
     have hrl2 := By.rowL_len row
     have hp1 : i < p9 := by omega
     have hp2 : p9 ≤ N := by omega
     have hrl3 : row.length ≤ 65536 := by omega
     clear e4 e5 e2 hbd hrl2 hfo hrow
     have hun2 : RES = if ht ≠ 0 ∧ row.length ≠ wd then .bad 8 i else if 64 < row.length ∨ ht = 64 then .bad 5 i else rowsF (bytesOf s) f p9 (rows ++ [row]) := by
      rw [hun, HHT.out, HWD.out]
      simp only [ne_eq, hrow0]
     clear hun
     have HWR : Hid (((rows ++ [row]).headD []).length = if ht = 0 then row.length else wd) := Lib.hid (by
      by_cases h : ht = 0
      ·rw [if_pos h, hrow0.2 h]; rfl
      ·rw [if_neg h, ← HWD.out]
       cases rows with
       | nil => exact absurd (hrow0.1 rfl) h
       | cons x xs => rfl)
     clear hrow0
     obtain ⟨rl, hrl⟩ : ∃ rl, row.length = rl := ⟨_, rfl⟩
     rw [hrl] at hun2 hrl1 hrl3 HWR
     have HRL := Lib.hid hrl
     have hROW2 : Calls Tryd.prog 18 #[.pointer (some ⟨rb, 0, none⟩)] wr (fun r w2 => ∃ A9 C9, r = .returned (.tuple #[.slice A9 rl C9, .bool true]) ∧ RwR rb s wr p9 row (.slice A9 rl C9) w2) := hROW.mono (fun r w' h => by rw [← hrl]; exact h)
     clear hrl hROW
     have hROW := hROW2
     clear hROW2
     by_cases h0 : ht = 0
     ·subst h0
      by_cases hi2 : i < N
      ·have t1 : decide ((i : Int) < (N : Int)) = true := by simp; omega
       have t2 : decide (i < N) = true := by simp; omega
       have HMS := Lib.hid r1
       go_wp2_with fail
       refine hROW.mono ?_
       rintro r w2 ⟨A9, C9, rfl, hw⟩
       have HRI := Lib.hid (HR1.out.call HO.out hw)
       have ho9 := hw.own
       rw [HRL.out] at ho9
       obtain ⟨gr, cr, er⟩ := own_some ho9 hrl1
       injection er with er1 _ er2
       subst er1 er2
       have hgb : base ≤ gr := Nat.le_trans HR1.out.siz (own_parts ho9).2.1
       have HOR := Lib.hid (own_base ho9 hgb)
       clear hw hROW ho9
       clear HR1 HRS2 HNX HNA HNH HTB HT
       clear r0 r1 fr lr c0 c1 c2 c3 g0 g1 g2 g3 lc
       have r0 : (w2).cell? ⟨rb, 0, none⟩ = some (.string s) := (HRI.out).rd.cell (i := 0) (by omega)
       have r1 : (w2).cell? ⟨rb, 1, none⟩ = some (.int .i64 ((p9 : Int))) := (HRI.out).rd.cell (i := 1) (by omega)
       have fr := (HRI.out).rd.frozen 1
       have lr : LtW rb w2 := (HRI.out).rd.lt
       have c0 : (w2).cell? ⟨cb, 0, none⟩ = some (.int .i64 ((GG : Int))) := (HRI.out).row.cell (i := 0) (by omega)
       have c1 : (w2).cell? ⟨cb, 1, none⟩ = some (.int .i64 ((wd : Int))) := (HRI.out).row.cell (i := 1) (by omega)
       have c2 : (w2).cell? ⟨cb, 2, none⟩ = some (.int .i64 ((0 : Int))) := (HRI.out).row.cell (i := 2) (by omega)
       have c3 : (w2).cell? ⟨cb, 3, none⟩ = some ((.slice A acc.length C)) := (HRI.out).row.cell (i := 3) (by omega)
       have g0 := (HRI.out).row.frozen 0; have g1 := (HRI.out).row.frozen 1; have g2 := (HRI.out).row.frozen 2; have g3 := (HRI.out).row.frozen 3
       have lc : LtW cb w2 := (HRI.out).row.lt
       by_cases h64 : 64 < rl
       ·have e5 : decide ((rl : Int) > 64) = true := by simp; omega
        have e6 : decide ((64 : Int) < (rl : Int)) = true := by simp; omega
        have e7 : decide (64 < rl) = true := by simp; omega
        have HU : Hid (readS (bytesOf s) = (GG, .bad 5 i)) := Lib.hid (by rw [HRS.out, hun2, if_neg (fun x => x.1 rfl), if_pos (.inl h64)])
        clear hun2
        exact lfRd72
       ·have e5 : decide ((rl : Int) > 64) = false := by simp; omega
        have e6 : decide ((64 : Int) < (rl : Int)) = false := by simp; omega
        have e7 : decide (64 < rl) = false := by simp; omega
        have HW2 : Hid (((rows ++ [row]).headD []).length = rl) := Lib.hid (by rw [HWR.out]; simp)
        have HRS3 : Hid (rowsF (bytesOf s) f p9 (rows ++ [row]) = RES) := Lib.hid (by rw [hun2, if_neg (fun x => x.1 rfl), if_neg (by omega)])
        clear hun2 HWR
        go_upto_region 28 with fail
        have hri2 : RI q q1 rb cb base s w p9 GG rl ((1 : Int)) acc (.slice A acc.length C) ((w2.setCell ⟨cb, 1, none⟩ (.int .i64 ((rl : Int)))).setCell ⟨cb, 2, none⟩ (.int .i64 ((1 : Int)))) := (HRI.out.setC HO.out 1 _ ctF_1).setC HO.out 2 _ ctF_2
        have hor2 := ownsRow_setCell_below (ownsRow_setCell_below HOR.out (a := ⟨cb, 1, none⟩) hod (.int .i64 ((rl : Int)))) (a := ⟨cb, 2, none⟩) hod (.int .i64 ((1 : Int)))
        clear HRI HOR
        clear r0 r1 fr lr c0 c1 c2 c3 g0 g1 g2 g3 lc
        generalize (w2.setCell ⟨cb, 1, none⟩ (.int .i64 ((rl : Int)))).setCell ⟨cb, 2, none⟩ (.int .i64 ((1 : Int))) = w3 at *
        have HRI := Lib.hid hri2; have HOR := Lib.hid hor2
        clear hri2 hor2
        have r0 : (w3).cell? ⟨rb, 0, none⟩ = some (.string s) := (HRI.out).rd.cell (i := 0) (by omega)
        have r1 : (w3).cell? ⟨rb, 1, none⟩ = some (.int .i64 ((p9 : Int))) := (HRI.out).rd.cell (i := 1) (by omega)
        have fr := (HRI.out).rd.frozen 1
        have lr : LtW rb w3 := (HRI.out).rd.lt
        have c0 : (w3).cell? ⟨cb, 0, none⟩ = some (.int .i64 ((GG : Int))) := (HRI.out).row.cell (i := 0) (by omega)
        have c1 : (w3).cell? ⟨cb, 1, none⟩ = some (.int .i64 ((rl : Int))) := (HRI.out).row.cell (i := 1) (by omega)
        have c2 : (w3).cell? ⟨cb, 2, none⟩ = some (.int .i64 ((1 : Int))) := (HRI.out).row.cell (i := 2) (by omega)
        have c3 : (w3).cell? ⟨cb, 3, none⟩ = some ((.slice A acc.length C)) := (HRI.out).row.cell (i := 3) (by omega)
        have g0 := (HRI.out).row.frozen 0; have g1 := (HRI.out).row.frozen 1; have g2 := (HRI.out).row.frozen 2; have g3 := (HRI.out).row.frozen 3
        have lc : LtW cb w3 := (HRI.out).row.lt
        have hal := HAL.out
        go_wp2_with (at_builtin; refine wpAppV okRdI rfl (.tmp 137) (.tmp 139) rfl base (.slice (some ⟨gr, 0, none⟩) rl C9) rl (colsV row) A acc.length C (colsV acc) rfl HOR.out rfl (fun e => by subst e; exact own_none HRI.out.own) (by simp [colsV]) (fun h => own_cellsV HRI.out.own h) (cols_one acc) (by omega) (by omega) HRI.out.siz ?_)
        intro v' w4 hown4 hg4 hat4
        obtain ⟨A', C', rfl⟩ := own_form hown4
        have hb4 : Below base w3 w4 := belowGrown hg4 HRI.out.siz (fun k hk => by have e : some gr = some k := hk; injection e with e; omega)
        have hown5 : w4.ownsRow base 3 1 (.slice A' (rl + acc.length) C') (row ++ acc).length (colsV (row ++ acc)) := by
         rw [List.length_append, HRL.out]; unfold colsV at hown4 ⊢; rw [List.map_append]; exact hown4
        have HRN := Lib.hid (HRI.out.app HO.out hb4 hown5)
        have c3' : w4.cell? ⟨cb, 3, none⟩ = some (.slice A acc.length C) := (hb4.cell (p := ⟨cb, 3, none⟩) hod).trans c3
        have g3' := (hb4.frozen (p := ⟨cb, 3, none⟩) hod).trans g3
        have lc' : LtW cb w4 := Nat.lt_of_lt_of_le lc hb4.size
        have HM := Lib.hid (HRN.out.rd.cell (i := 1) (by omega))
        have HACE : Hid ((rows ++ [row]).reverse.flatten = row ++ acc) := Lib.hid (by rw [← HAC.out]; simp)
        have HHE : Hid ((rows ++ [row]).length = 0 + 1) := Lib.hid (by rw [List.length_append, HHT.out]; rfl)
        exact lfRd74
      ·have t1 : decide ((i : Int) < (N : Int)) = false := by simp; omega
       have t2 : decide (i < N) = false := by simp; omega
       exfalso
       omega
     ·have e0 : ((ht : Int) == 0) = false := by simp; omega
      have e0' : (ht == 0) = false := by simp; omega
      have e1 : decide ((ht : Int) > 0) = true := by simp; omega
      have e2 : decide ((0 : Int) < (ht : Int)) = true := by simp; omega
      have e3 : decide (0 < ht) = true := by simp; omega
      have hi2 : i < N := by omega
      have t1 : decide ((i : Int) < (N : Int)) = true := by simp; omega
      have t2 : decide (i < N) = true := by simp; omega
      have HMS := Lib.hid r1
      go_wp2_with fail
      refine hROW.mono ?_
      rintro r w2 ⟨A9, C9, rfl, hw⟩
      have HRI := Lib.hid (HR1.out.call HO.out hw)
      have ho9 := hw.own
      rw [HRL.out] at ho9
      obtain ⟨gr, cr, er⟩ := own_some ho9 hrl1
      injection er with er1 _ er2
      subst er1 er2
      have hgb : base ≤ gr := Nat.le_trans HR1.out.siz (own_parts ho9).2.1
      have HOR := Lib.hid (own_base ho9 hgb)
      clear hw hROW ho9
      clear HR1 HRS2 HNX HNA HNH HTB HT
      clear r0 r1 fr lr c0 c1 c2 c3 g0 g1 g2 g3 lc
      have r0 : (w2).cell? ⟨rb, 0, none⟩ = some (.string s) := (HRI.out).rd.cell (i := 0) (by omega)
      have r1 : (w2).cell? ⟨rb, 1, none⟩ = some (.int .i64 ((p9 : Int))) := (HRI.out).rd.cell (i := 1) (by omega)
      have fr := (HRI.out).rd.frozen 1
      have lr : LtW rb w2 := (HRI.out).rd.lt
      have c0 : (w2).cell? ⟨cb, 0, none⟩ = some (.int .i64 ((GG : Int))) := (HRI.out).row.cell (i := 0) (by omega)
      have c1 : (w2).cell? ⟨cb, 1, none⟩ = some (.int .i64 ((wd : Int))) := (HRI.out).row.cell (i := 1) (by omega)
      have c2 : (w2).cell? ⟨cb, 2, none⟩ = some (.int .i64 ((ht : Int))) := (HRI.out).row.cell (i := 2) (by omega)
      have c3 : (w2).cell? ⟨cb, 3, none⟩ = some ((.slice A acc.length C)) := (HRI.out).row.cell (i := 3) (by omega)
      have g0 := (HRI.out).row.frozen 0; have g1 := (HRI.out).row.frozen 1; have g2 := (HRI.out).row.frozen 2; have g3 := (HRI.out).row.frozen 3
      have lc : LtW cb w2 := (HRI.out).row.lt
      by_cases hrw : rl = wd
      ·have e5 : ((rl : Int) != (wd : Int)) = false := by simp; omega
       have e6 : (rl != wd) = false := by simp; omega
       by_cases h64 : 64 < rl
       ·have e7 : decide ((rl : Int) > 64) = true := by simp; omega
        have e8 : decide ((64 : Int) < (rl : Int)) = true := by simp; omega
        have e9 : decide (64 < rl) = true := by simp; omega
        have HU : Hid (readS (bytesOf s) = (GG, .bad 5 i)) := Lib.hid (by rw [HRS.out, hun2, if_neg (fun x => x.2 hrw), if_pos (.inl h64)])
        clear hun2 hrw
        exact lfRd72
       ·have e7 : decide ((rl : Int) > 64) = false := by simp; omega
        have e8 : decide ((64 : Int) < (rl : Int)) = false := by simp; omega
        have e9 : decide (64 < rl) = false := by simp; omega
        by_cases hh64 : ht = 64
        ·have e10 : ((ht : Int) == 64) = true := by simp; omega
         have e11 : (ht == 64) = true := by simp; omega
         have HU : Hid (readS (bytesOf s) = (GG, .bad 5 i)) := Lib.hid (by rw [HRS.out, hun2, if_neg (fun x => x.2 hrw), if_pos (.inr hh64)])
         clear hun2 hrw hh64
         exact lfRd72
        ·have e10 : ((ht : Int) == 64) = false := by simp; omega
         have e11 : (ht == 64) = false := by simp; omega
         have HW2 : Hid (((rows ++ [row]).headD []).length = rl) := Lib.hid (by rw [HWR.out, if_neg h0, hrw])
         have HRS3 : Hid (rowsF (bytesOf s) f p9 (rows ++ [row]) = RES) := Lib.hid (by rw [hun2, if_neg (fun x => x.2 hrw), if_neg (by omega)])
         clear hun2 HWR hrw
         go_upto_region 28 with fail
         have hri2 : RI q q1 rb cb base s w p9 GG rl ((ht : Int) + 1) acc (.slice A acc.length C) ((w2.setCell ⟨cb, 1, none⟩ (.int .i64 ((rl : Int)))).setCell ⟨cb, 2, none⟩ (.int .i64 ((ht : Int) + 1))) := (HRI.out.setC HO.out 1 _ ctF_1).setC HO.out 2 _ ctF_2
         have hor2 := ownsRow_setCell_below (ownsRow_setCell_below HOR.out (a := ⟨cb, 1, none⟩) hod (.int .i64 ((rl : Int)))) (a := ⟨cb, 2, none⟩) hod (.int .i64 ((ht : Int) + 1))
         clear HRI HOR
         clear r0 r1 fr lr c0 c1 c2 c3 g0 g1 g2 g3 lc
         generalize (w2.setCell ⟨cb, 1, none⟩ (.int .i64 ((rl : Int)))).setCell ⟨cb, 2, none⟩ (.int .i64 ((ht : Int) + 1)) = w3 at *
         have HRI := Lib.hid hri2; have HOR := Lib.hid hor2
         clear hri2 hor2
         have r0 : (w3).cell? ⟨rb, 0, none⟩ = some (.string s) := (HRI.out).rd.cell (i := 0) (by omega)
         have r1 : (w3).cell? ⟨rb, 1, none⟩ = some (.int .i64 ((p9 : Int))) := (HRI.out).rd.cell (i := 1) (by omega)
         have fr := (HRI.out).rd.frozen 1
         have lr : LtW rb w3 := (HRI.out).rd.lt
         have c0 : (w3).cell? ⟨cb, 0, none⟩ = some (.int .i64 ((GG : Int))) := (HRI.out).row.cell (i := 0) (by omega)
         have c1 : (w3).cell? ⟨cb, 1, none⟩ = some (.int .i64 ((rl : Int))) := (HRI.out).row.cell (i := 1) (by omega)
         have c2 : (w3).cell? ⟨cb, 2, none⟩ = some (.int .i64 ((ht : Int) + 1)) := (HRI.out).row.cell (i := 2) (by omega)
         have c3 : (w3).cell? ⟨cb, 3, none⟩ = some ((.slice A acc.length C)) := (HRI.out).row.cell (i := 3) (by omega)
         have g0 := (HRI.out).row.frozen 0; have g1 := (HRI.out).row.frozen 1; have g2 := (HRI.out).row.frozen 2; have g3 := (HRI.out).row.frozen 3
         have lc : LtW cb w3 := (HRI.out).row.lt
         have hal := HAL.out
         go_wp2_with (at_builtin; refine wpAppV okRdI rfl (.tmp 137) (.tmp 139) rfl base (.slice (some ⟨gr, 0, none⟩) rl C9) rl (colsV row) A acc.length C (colsV acc) rfl HOR.out rfl (fun e => by subst e; exact own_none HRI.out.own) (by simp [colsV]) (fun h => own_cellsV HRI.out.own h) (cols_one acc) (by omega) (by omega) HRI.out.siz ?_)
         intro v' w4 hown4 hg4 hat4
         obtain ⟨A', C', rfl⟩ := own_form hown4
         have hb4 : Below base w3 w4 := belowGrown hg4 HRI.out.siz (fun k hk => by have e : some gr = some k := hk; injection e with e; omega)
         have hown5 : w4.ownsRow base 3 1 (.slice A' (rl + acc.length) C') (row ++ acc).length (colsV (row ++ acc)) := by
          rw [List.length_append, HRL.out]; unfold colsV at hown4 ⊢; rw [List.map_append]; exact hown4
         have HRN := Lib.hid (HRI.out.app HO.out hb4 hown5)
         have c3' : w4.cell? ⟨cb, 3, none⟩ = some (.slice A acc.length C) := (hb4.cell (p := ⟨cb, 3, none⟩) hod).trans c3
         have g3' := (hb4.frozen (p := ⟨cb, 3, none⟩) hod).trans g3
         have lc' : LtW cb w4 := Nat.lt_of_lt_of_le lc hb4.size
         have HM := Lib.hid (HRN.out.rd.cell (i := 1) (by omega))
         have HACE : Hid ((rows ++ [row]).reverse.flatten = row ++ acc) := Lib.hid (by rw [← HAC.out]; simp)
         have HHE : Hid ((rows ++ [row]).length = ht + 1) := Lib.hid (by rw [List.length_append, HHT.out]; rfl)
         exact lfRd74
      ·have e5 : ((rl : Int) != (wd : Int)) = true := by simp; omega
       have e6 : (rl != wd) = true := by simp; omega
       have HU : Hid (readS (bytesOf s) = (GG, .bad 8 i)) := Lib.hid (by rw [HRS.out, hun2, if_pos ⟨h0, hrw⟩])
       clear hun2 hrw
       go_wp2_with fail
       refine (chBad_any 8 (i : Int) _).mono ?_
       rintro r w8 ⟨rfl, hb8⟩
       have hu8 := HRI.out.grow HO.out hb8
       have q0 : (w8).cell? ⟨q, 0, none⟩ = some (.int .i64 (0)) := (hu8).res.cell (i := 0) (by omega)
       have q1' : (w8).cell? ⟨q, 1, none⟩ = some (.int .i64 (0)) := (hu8).res.cell (i := 1) (by omega)
       have q2 : (w8).cell? ⟨q, 2, none⟩ = some (.int .i64 (0)) := (hu8).res.cell (i := 2) (by omega)
       have q3 : (w8).cell? ⟨q, 3, none⟩ = some (.slice none 0 0) := (hu8).res.cell (i := 3) (by omega)
       have f0 := (hu8).res.frozen 0; have f1 := (hu8).res.frozen 1; have f2 := (hu8).res.frozen 2; have f3 := (hu8).res.frozen 3
       have s0 : (w8).cell? ⟨q1, 0, none⟩ = some (.int .i64 (0)) := (hu8).flt.cell (i := 0) (by omega)
       have s1 : (w8).cell? ⟨q1, 1, none⟩ = some (.int .i64 (0)) := (hu8).flt.cell (i := 1) (by omega)
       have e0 := (hu8).flt.frozen 0; have e1 := (hu8).flt.frozen 1
       have lq : LtW q w8 := (hu8).res.lt
       have lq1 : LtW q1 w8 := (hu8).flt.lt
       have HBF := Lib.hid hu8.bel
       clear hb8 hu8 HRI r0 r1 fr lr c0 c1 c2 c3 g0 g1 g2 g3 lc
       go_wp2
       refine bodyPost_ret (v := .tuple #[.agg #[.int .i64 (0), .int .i64 (0), .int .i64 (0), .slice none 0 0], .agg #[.int .i64 (8), .int .i64 ((i : Int))]]) (by simp [results, Tryd.results6, go_sem, q0, q1', q2, q3, s0, s1]) rfl ?_
       rw [HU.out]
       refine ⟨rfl, ?_⟩
       rw [HQE.out]
       exact (((((HBF.out.setCell bnq _).setCell bnq _).setCell bnq _).setCell bnq _).setCell bnq _).setCell bnq _
   ·have hht0 : ht ≠ 0 := fun h => hc (.inr h)
    have hiN2 : i = N := by omega
    have e0 : ((ht : Int) == 0) = false := by simp; omega
    have e0' : (ht == 0) = false := by simp; omega
    have t1 : decide ((i : Int) < (N : Int)) = false := by simp; omega
    have t2 : decide (i < N) = false := by simp; omega
    rw [if_neg (by rw [hrow0]; exact hc)] at hun
    have HU : Hid (readS (bytesOf s) = (GG, .ok rows)) := Lib.hid (by rw [HRS.out, hun])
    have HB1 := Lib.hid HR1.out.bel
    have HOW := Lib.hid HR1.out.own
    have q0 : (wr).cell? ⟨q, 0, none⟩ = some (.int .i64 (0)) := (HR1.out).res.cell (i := 0) (by omega)
    have q1' : (wr).cell? ⟨q, 1, none⟩ = some (.int .i64 (0)) := (HR1.out).res.cell (i := 1) (by omega)
    have q2 : (wr).cell? ⟨q, 2, none⟩ = some (.int .i64 (0)) := (HR1.out).res.cell (i := 2) (by omega)
    have q3 : (wr).cell? ⟨q, 3, none⟩ = some (.slice none 0 0) := (HR1.out).res.cell (i := 3) (by omega)
    have f0 := (HR1.out).res.frozen 0; have f1 := (HR1.out).res.frozen 1; have f2 := (HR1.out).res.frozen 2; have f3 := (HR1.out).res.frozen 3
    have s0 : (wr).cell? ⟨q1, 0, none⟩ = some (.int .i64 (0)) := (HR1.out).flt.cell (i := 0) (by omega)
    have s1 : (wr).cell? ⟨q1, 1, none⟩ = some (.int .i64 (0)) := (HR1.out).flt.cell (i := 1) (by omega)
    have e0 := (HR1.out).flt.frozen 0; have e1 := (HR1.out).flt.frozen 1
    have lq : LtW q wr := (HR1.out).res.lt
    have lq1 : LtW q1 wr := (HR1.out).flt.lt
    have hbq : q < base := by omega
    have hbq1 : q1 < base := by omega
    clear hun hrow0 HRS2 HAL HR1 HNX HNA HNH HTB HT hc
    go_wp2
    refine bodyPost_ret (v := .tuple #[.agg #[.int .i64 ((GG : Int)), .int .i64 ((wd : Int)), .int .i64 ((ht : Int)), .slice A acc.length C], .agg #[.int .i64 (0), .int .i64 (0)]]) (by simp [results, Tryd.results6, go_sem, q0, q1', q2, q3, s0, s1]) rfl ?_
    rw [HU.out]
    have hown2 := ownsRow_setCell_below (ownsRow_setCell_below (ownsRow_setCell_below (ownsRow_setCell_below (ownsRow_setCell_below (ownsRow_setCell_below HOW.out (a := ⟨q, 0, none⟩) hbq (.int .i64 ((GG : Int)))) (a := ⟨q, 1, none⟩) hbq (.int .i64 ((wd : Int)))) (a := ⟨q, 2, none⟩) hbq (.int .i64 ((ht : Int)))) (a := ⟨q, 3, none⟩) hbq (.slice A acc.length C)) (a := ⟨q1, 0, none⟩) hbq1 (.int .i64 (0))) (a := ⟨q1, 1, none⟩) hbq1 (.int .i64 (0))
    obtain ⟨a9, c9, e9, hI9⟩ := IsInts.of_nats hown2
    injection e9 with e91 _ e92
    subst e91 e92
    refine ⟨?_, ?_⟩
    ·simp only
     rw [HWD.out, HHT.out, HAC.out]
     exact ⟨A, C, rfl, hI9⟩
    ·rw [HQE.out]
     exact (((((HB1.out.setCell bnq _).setCell bnq _).setCell bnq _).setCell bnq _).setCell bnq _).setCell bnq _
 ·have n10 : (nxt (bytesOf s) 3).1 ≠ 10 := fun e => h10 ((HNH.out 3 10 (by have := hA.2; omega) (by omega) (by omega)).1 e)
  have HU : Hid (readS (bytesOf s) = (GG, .bad 2 3)) := Lib.hid (by rw [HR2.out, if_neg h10])
  clear hA
  generalize (nxt (bytesOf s) 3).1 = c at *
  generalize (nxt (bytesOf s) 3).2 = m at *
  have b1 : ((c : Int) != 10) = true := by simp; omega
  have b2 : (c != 10) = true := by simp; omega
  clear n10 h10 HR2
  go_wp2_with fail
  refine hn1.mono ?_
  rintro r w4 ⟨rfl, hb4⟩
  have hri := HRI.out.grow HO.out hb4
  clear hb4 hn1 HRI
  clear r0 r1 fr lr c0 c1 c2 c3 g0 g1 g2 g3 lc
  have HRI := Lib.hid hri
  have r0 : (w4).cell? ⟨rb, 0, none⟩ = some (.string s) := (hri).rd.cell (i := 0) (by omega)
  have r1 : (w4).cell? ⟨rb, 1, none⟩ = some (.int .i64 ((3 : Int))) := (hri).rd.cell (i := 1) (by omega)
  have fr := (hri).rd.frozen 1
  have lr : LtW rb w4 := (hri).rd.lt
  have c0 : (w4).cell? ⟨cb, 0, none⟩ = some (.int .i64 ((GG : Int))) := (hri).row.cell (i := 0) (by omega)
  have c1 : (w4).cell? ⟨cb, 1, none⟩ = some (.int .i64 ((0 : Int))) := (hri).row.cell (i := 1) (by omega)
  have c2 : (w4).cell? ⟨cb, 2, none⟩ = some (.int .i64 ((0 : Int))) := (hri).row.cell (i := 2) (by omega)
  have c3 : (w4).cell? ⟨cb, 3, none⟩ = some ((.slice none 0 0)) := (hri).row.cell (i := 3) (by omega)
  have g0 := (hri).row.frozen 0; have g1 := (hri).row.frozen 1; have g2 := (hri).row.frozen 2; have g3 := (hri).row.frozen 3
  have lc : LtW cb w4 := (hri).row.lt
  clear hri
  go_wp2_with fail
  refine (chBad_any 2 3 _).mono ?_
  rintro r w8 ⟨rfl, hb8⟩
  have hu8 := HRI.out.grow HO.out hb8
  have q0 : (w8).cell? ⟨q, 0, none⟩ = some (.int .i64 (0)) := (hu8).res.cell (i := 0) (by omega)
  have q1' : (w8).cell? ⟨q, 1, none⟩ = some (.int .i64 (0)) := (hu8).res.cell (i := 1) (by omega)
  have q2 : (w8).cell? ⟨q, 2, none⟩ = some (.int .i64 (0)) := (hu8).res.cell (i := 2) (by omega)
  have q3 : (w8).cell? ⟨q, 3, none⟩ = some (.slice none 0 0) := (hu8).res.cell (i := 3) (by omega)
  have f0 := (hu8).res.frozen 0; have f1 := (hu8).res.frozen 1; have f2 := (hu8).res.frozen 2; have f3 := (hu8).res.frozen 3
  have s0 : (w8).cell? ⟨q1, 0, none⟩ = some (.int .i64 (0)) := (hu8).flt.cell (i := 0) (by omega)
  have s1 : (w8).cell? ⟨q1, 1, none⟩ = some (.int .i64 (0)) := (hu8).flt.cell (i := 1) (by omega)
  have e0 := (hu8).flt.frozen 0; have e1 := (hu8).flt.frozen 1
  have lq : LtW q w8 := (hu8).res.lt
  have lq1 : LtW q1 w8 := (hu8).flt.lt
  have HBF := Lib.hid hu8.bel
  clear hb8 hu8 HRI r0 r1 fr lr c0 c1 c2 c3 g0 g1 g2 g3 lc
  go_wp2
  refine bodyPost_ret (v := .tuple #[.agg #[.int .i64 (0), .int .i64 (0), .int .i64 (0), .slice none 0 0], .agg #[.int .i64 (2), .int .i64 (3)]]) (by simp [results, Tryd.results6, go_sem, q0, q1', q2, q3, s0, s1]) rfl ?_
  rw [HU.out]
  refine ⟨rfl, ?_⟩
  rw [HQE.out]
  exact (((((HBF.out.setCell bnq _).setCell bnq _).setCell bnq _).setCell bnq _).setCell bnq _).setCell bnq _) : P := h
set_option maxRecDepth 100000 in
set_option maxHeartbeats 8000000 in
theorem chRead_any (s : ByteArray) (w : World) (hs : s.size ≤ 9223372036854775807) (hT : Tabs w) : Calls Tryd.prog 6 #[.string s] w (RdPost (readS (bytesOf s)) w) := by
 have hBL := By.bytesOf_len s
 have hB := By.bytesOf_lt s
 have HNX := Lib.hid (fun i b w hT hi h0 h1 => next_ok s i b w hT hs hi h0 h1)
 obtain ⟨N, hN⟩ : ∃ N, s.size = N := ⟨_, rfl⟩
 rw [hN] at hBL hs HNX
 have HN := Lib.hid hN
 have HBL := Lib.hid hBL
 have HT := Lib.hid hT
 have hl1 := World.block_lt_of_cell? _ _ (hT.1 0 (by omega))
 have hl2 := World.block_lt_of_cell? _ _ (hT.2 0 (by omega)).1
 have HLT := Lib.hid (And.intro hl1 hl2)
 clear hN hBL hT hl1 hl2
 by_cases hm : 65536 < N
 ·have d1 : decide ((N : Int) > 65536) = true := by simp; omega
  have d2 : decide (65536 < N) = true := by simpa using hm
  have d3 : decide ((65536 : Int) < N) = true := by simp; omega
  have HR : Hid (readS (bytesOf s) = (0, .bad 4 0)) := Lib.hid (by unfold readS; rw [if_pos (by rw [HBL.out]; exact hm)])
  have hsz : s.size = N := HN.out
  clear hm hB HNX
  go_enter Tryd.func6, Tryd.ntmps6
  go_wp2
  refine bodyPost_ret (v := .tuple #[.agg #[.int .i64 (0), .int .i64 (0), .int .i64 (0), .slice none 0 0], .agg #[.int .i64 (4), .int .i64 (0)]]) (by simp [results, Tryd.results6, go_sem]) rfl ?_
  rw [HR.out]
  exact ⟨rfl, blw⟩
 ·have d1 : decide ((N : Int) > 65536) = false := by simp; omega
  have d2 : decide (65536 < N) = false := by simpa using hm
  have d3 : decide ((65536 : Int) < N) = false := by simp; omega
  have HR : Hid (readS (bytesOf s) = if hasAt (bytesOf s) 0 (hdR 6) then (6, if hasAt (bytesOf s) 3 [10] then rowsF (bytesOf s) (N + 2) 4 [] else .bad 2 3)
   else if hasAt (bytesOf s) 0 (hdR 4) then (4, if hasAt (bytesOf s) 3 [10] then rowsF (bytesOf s) (N + 2) 4 [] else .bad 2 3)
   else (0, .bad 2 0)) := Lib.hid (by
    have h : readS (bytesOf s) = if 65536 < (bytesOf s).length then (0, .bad 4 0) else _ := rfl
    rw [h, HBL.out, if_neg hm])
  have hsz : s.size = N := HN.out
  have hN6 : N ≤ 65536 := by omega
  have HNH := Lib.hid (fun (i r : Nat) (hi : i ≤ N) hr h0 => nxt_has hB (i := i) (r := r) (by rw [HBL.out]; exact hi) hr h0)
  have HNA := Lib.hid (fun (i r : Nat) hr h => nxt_at hB (i := i) (r := r) hr h)
  rw [HBL.out] at HNA
  clear hm
  go_enter Tryd.func6, Tryd.ntmps6
  go_wp2_with fail
  have hri := ri_start s w
  have hor : OrdR w.heap.size (w.heap.size + 1) (w.heap.size + 1 + 1) (w.heap.size + 1 + 1 + 1) (w.heap.size + 1 + 1 + 1 + 1) := ⟨by omega, by omega, by omega, by omega⟩
  generalize ((((w.alloc (.cells #[.int .i64 (0), .int .i64 (0), .int .i64 (0), .slice none 0 0] 25)).alloc (.cells #[.int .i64 (0), .int .i64 (0)] 28)).alloc (.cells #[.string s, .int .i64 (0)] 62)).alloc (.cells #[.int .i64 (0), .int .i64 (0), .int .i64 (0), .slice none 0 0] 25)) = W0 at *
  generalize hbs : w.heap.size + 1 + 1 + 1 + 1 = base at *
  generalize w.heap.size + 1 + 1 + 1 = cb at *
  generalize w.heap.size + 1 + 1 = rb at *
  generalize w.heap.size + 1 = q1 at *
  generalize hq : w.heap.size = q at *
  have HQE := Lib.hid hq
  have HRI := Lib.hid hri
  have HO := Lib.hid hor
  clear hq hbs hri hor d1 d2 d3
  have hoa := HO.out.a; have hob := HO.out.b; have hoc := HO.out.c; have hod := HO.out.d
  have HTN : Hid (rb ≠ 0 ∧ rb ≠ 1) := Lib.hid (by have h := HLT.out; have h1 := h.1; have h2 := h.2; constructor <;> omega)
  have HTB : Hid (∀ w', Below q w w' → Tabs w') := Lib.hid fun w' h => HT.out.below (by rw [HQE.out]; exact h)
  have r0 : (W0).cell? ⟨rb, 0, none⟩ = some (.string s) := (HRI.out).rd.cell (i := 0) (by omega)
  have r1 : (W0).cell? ⟨rb, 1, none⟩ = some (.int .i64 ((0 : Int))) := (HRI.out).rd.cell (i := 1) (by omega)
  have fr := (HRI.out).rd.frozen 1
  have lr : LtW rb W0 := (HRI.out).rd.lt
  have c0 : (W0).cell? ⟨cb, 0, none⟩ = some (.int .i64 ((0 : Int))) := (HRI.out).row.cell (i := 0) (by omega)
  have c1 : (W0).cell? ⟨cb, 1, none⟩ = some (.int .i64 ((0 : Int))) := (HRI.out).row.cell (i := 1) (by omega)
  have c2 : (W0).cell? ⟨cb, 2, none⟩ = some (.int .i64 ((0 : Int))) := (HRI.out).row.cell (i := 2) (by omega)
  have c3 : (W0).cell? ⟨cb, 3, none⟩ = some ((.slice none 0 0)) := (HRI.out).row.cell (i := 3) (by omega)
  have g0 := (HRI.out).row.frozen 0; have g1 := (HRI.out).row.frozen 1; have g2 := (HRI.out).row.frozen 2; have g3 := (HRI.out).row.frozen 3
  have lc : LtW cb W0 := (HRI.out).row.lt
  have hn0 := HNX.out 0 rb W0 (HTB.out _ HRI.out.bel) (by omega) r0 r1
  by_cases h6 : hasAt (bytesOf s) 0 (hdR 6)
  ·skip
   have hA := HNA.out 0 9651 (by omega) h6
   have e3 : (encN 9651).length = 3 := by decide
   rw [e3] at hA
   rw [hA.1] at hn0
   refine hn0.mono ?_
   rintro r w2 ⟨rfl, hb2⟩
   have hri := HRI.out.grow HO.out hb2
   clear hb2 hn0 HRI e3
   clear r0 r1 fr lr c0 c1 c2 c3 g0 g1 g2 g3 lc
   have r0 : (w2).cell? ⟨rb, 0, none⟩ = some (.string s) := (hri).rd.cell (i := 0) (by omega)
   have r1 : (w2).cell? ⟨rb, 1, none⟩ = some (.int .i64 ((0 : Int))) := (hri).rd.cell (i := 1) (by omega)
   have fr := (hri).rd.frozen 1
   have lr : LtW rb w2 := (hri).rd.lt
   have c0 : (w2).cell? ⟨cb, 0, none⟩ = some (.int .i64 ((0 : Int))) := (hri).row.cell (i := 0) (by omega)
   have c1 : (w2).cell? ⟨cb, 1, none⟩ = some (.int .i64 ((0 : Int))) := (hri).row.cell (i := 1) (by omega)
   have c2 : (w2).cell? ⟨cb, 2, none⟩ = some (.int .i64 ((0 : Int))) := (hri).row.cell (i := 2) (by omega)
   have c3 : (w2).cell? ⟨cb, 3, none⟩ = some ((.slice none 0 0)) := (hri).row.cell (i := 3) (by omega)
   have g0 := (hri).row.frozen 0; have g1 := (hri).row.frozen 1; have g2 := (hri).row.frozen 2; have g3 := (hri).row.frozen 3
   have lc : LtW cb w2 := (hri).row.lt
   go_upto_region 13 with fail
   obtain ⟨GG, hGG⟩ : ∃ GG : Nat, GG = 6 := ⟨_, rfl⟩
   have HR2 : Hid (readS (bytesOf s) = (GG, if hasAt (bytesOf s) 3 [10] then rowsF (bytesOf s) (N + 2) 4 [] else .bad 2 3)) := Lib.hid (by rw [HR.out, if_pos h6, hGG])
   have hri3 : RI q q1 rb cb base s w 3 GG 0 0 [] (.slice none 0 0) ((w2.setCell ⟨cb, 0, none⟩ (.int .i64 (6))).setCell ⟨rb, 1, none⟩ (.int .i64 (3))) := by
    rw [hGG]; exact (hri.setC HO.out 0 (.int .i64 (6)) ctF_0).setAt HO.out 3
   clear hri HR h6 hGG
   clear r0 r1 fr lr c0 c1 c2 c3 g0 g1 g2 g3 lc
   generalize (w2.setCell ⟨cb, 0, none⟩ (.int .i64 (6))).setCell ⟨rb, 1, none⟩ (.int .i64 (3)) = w3 at *
   exact lfRd70
  ·by_cases h4 : hasAt (bytesOf s) 0 (hdR 4)
   ·skip
    have hA := HNA.out 0 9633 (by omega) h4
    have e3 : (encN 9633).length = 3 := by decide
    rw [e3] at hA
    rw [hA.1] at hn0
    refine hn0.mono ?_
    rintro r w2 ⟨rfl, hb2⟩
    have hri := HRI.out.grow HO.out hb2
    clear hb2 hn0 HRI e3
    clear r0 r1 fr lr c0 c1 c2 c3 g0 g1 g2 g3 lc
    have r0 : (w2).cell? ⟨rb, 0, none⟩ = some (.string s) := (hri).rd.cell (i := 0) (by omega)
    have r1 : (w2).cell? ⟨rb, 1, none⟩ = some (.int .i64 ((0 : Int))) := (hri).rd.cell (i := 1) (by omega)
    have fr := (hri).rd.frozen 1
    have lr : LtW rb w2 := (hri).rd.lt
    have c0 : (w2).cell? ⟨cb, 0, none⟩ = some (.int .i64 ((0 : Int))) := (hri).row.cell (i := 0) (by omega)
    have c1 : (w2).cell? ⟨cb, 1, none⟩ = some (.int .i64 ((0 : Int))) := (hri).row.cell (i := 1) (by omega)
    have c2 : (w2).cell? ⟨cb, 2, none⟩ = some (.int .i64 ((0 : Int))) := (hri).row.cell (i := 2) (by omega)
    have c3 : (w2).cell? ⟨cb, 3, none⟩ = some ((.slice none 0 0)) := (hri).row.cell (i := 3) (by omega)
    have g0 := (hri).row.frozen 0; have g1 := (hri).row.frozen 1; have g2 := (hri).row.frozen 2; have g3 := (hri).row.frozen 3
    have lc : LtW cb w2 := (hri).row.lt
    go_upto_region 13 with fail
    obtain ⟨GG, hGG⟩ : ∃ GG : Nat, GG = 4 := ⟨_, rfl⟩
    have HR2 : Hid (readS (bytesOf s) = (GG, if hasAt (bytesOf s) 3 [10] then rowsF (bytesOf s) (N + 2) 4 [] else .bad 2 3)) := Lib.hid (by rw [HR.out, if_neg h6, if_pos h4, hGG])
    have hri3 : RI q q1 rb cb base s w 3 GG 0 0 [] (.slice none 0 0) ((w2.setCell ⟨cb, 0, none⟩ (.int .i64 (4))).setCell ⟨rb, 1, none⟩ (.int .i64 (3))) := by
     rw [hGG]; exact (hri.setC HO.out 0 (.int .i64 (4)) ctF_0).setAt HO.out 3
    clear hri HR h6 h4 hGG
    clear r0 r1 fr lr c0 c1 c2 c3 g0 g1 g2 g3 lc
    generalize (w2.setCell ⟨cb, 0, none⟩ (.int .i64 (4))).setCell ⟨rb, 1, none⟩ (.int .i64 (3)) = w3 at *
    exact lfRd70
   ·have n6 : (nxt (bytesOf s) 0).1 ≠ 9651 := fun e => h6 ((HNH.out 0 9651 (by omega) (by omega) (by omega)).1 e)
    have n4 : (nxt (bytesOf s) 0).1 ≠ 9633 := fun e => h4 ((HNH.out 0 9633 (by omega) (by omega) (by omega)).1 e)
    have HU : Hid (readS (bytesOf s) = (0, .bad 2 0)) := Lib.hid (by rw [HR.out, if_neg h6, if_neg h4])
    generalize (nxt (bytesOf s) 0).1 = c at *
    generalize (nxt (bytesOf s) 0).2 = m at *
    have b1 : ((c : Int) == 9651) = false := by rw [beq_eq_false_iff_ne]; omega
    have b2 : (c == 9651) = false := by rw [beq_eq_false_iff_ne]; omega
    have b3 : ((c : Int) == 9633) = false := by rw [beq_eq_false_iff_ne]; omega
    have b4 : (c == 9633) = false := by rw [beq_eq_false_iff_ne]; omega
    clear n6 n4 h6 h4 hB HR
    refine hn0.mono ?_
    rintro r w2 ⟨rfl, hb2⟩
    have hri := HRI.out.grow HO.out hb2
    clear hb2 hn0 HRI
    clear r0 r1 fr lr c0 c1 c2 c3 g0 g1 g2 g3 lc
    have HRI := Lib.hid hri
    have r0 : (w2).cell? ⟨rb, 0, none⟩ = some (.string s) := (HRI.out).rd.cell (i := 0) (by omega)
    have r1 : (w2).cell? ⟨rb, 1, none⟩ = some (.int .i64 ((0 : Int))) := (HRI.out).rd.cell (i := 1) (by omega)
    have fr := (HRI.out).rd.frozen 1
    have lr : LtW rb w2 := (HRI.out).rd.lt
    have c0 : (w2).cell? ⟨cb, 0, none⟩ = some (.int .i64 ((0 : Int))) := (HRI.out).row.cell (i := 0) (by omega)
    have c1 : (w2).cell? ⟨cb, 1, none⟩ = some (.int .i64 ((0 : Int))) := (HRI.out).row.cell (i := 1) (by omega)
    have c2 : (w2).cell? ⟨cb, 2, none⟩ = some (.int .i64 ((0 : Int))) := (HRI.out).row.cell (i := 2) (by omega)
    have c3 : (w2).cell? ⟨cb, 3, none⟩ = some ((.slice none 0 0)) := (HRI.out).row.cell (i := 3) (by omega)
    have g0 := (HRI.out).row.frozen 0; have g1 := (HRI.out).row.frozen 1; have g2 := (HRI.out).row.frozen 2; have g3 := (HRI.out).row.frozen 3
    have lc : LtW cb w2 := (HRI.out).row.lt
    clear hri
    go_wp2_with fail
    refine (chBad_any 2 0 _).mono ?_
    rintro r w8 ⟨rfl, hb8⟩
    have hu8 := HRI.out.grow HO.out hb8
    have q0 : (w8).cell? ⟨q, 0, none⟩ = some (.int .i64 (0)) := (hu8).res.cell (i := 0) (by omega)
    have q1' : (w8).cell? ⟨q, 1, none⟩ = some (.int .i64 (0)) := (hu8).res.cell (i := 1) (by omega)
    have q2 : (w8).cell? ⟨q, 2, none⟩ = some (.int .i64 (0)) := (hu8).res.cell (i := 2) (by omega)
    have q3 : (w8).cell? ⟨q, 3, none⟩ = some (.slice none 0 0) := (hu8).res.cell (i := 3) (by omega)
    have f0 := (hu8).res.frozen 0; have f1 := (hu8).res.frozen 1; have f2 := (hu8).res.frozen 2; have f3 := (hu8).res.frozen 3
    have s0 : (w8).cell? ⟨q1, 0, none⟩ = some (.int .i64 (0)) := (hu8).flt.cell (i := 0) (by omega)
    have s1 : (w8).cell? ⟨q1, 1, none⟩ = some (.int .i64 (0)) := (hu8).flt.cell (i := 1) (by omega)
    have e0 := (hu8).flt.frozen 0; have e1 := (hu8).flt.frozen 1
    have lq : LtW q w8 := (hu8).res.lt
    have lq1 : LtW q1 w8 := (hu8).flt.lt
    have HBF := Lib.hid hu8.bel
    clear hb8 hu8 HRI r0 r1 fr lr c0 c1 c2 c3 g0 g1 g2 g3 lc
    go_wp2
    refine bodyPost_ret (v := .tuple #[.agg #[.int .i64 (0), .int .i64 (0), .int .i64 (0), .slice none 0 0], .agg #[.int .i64 (2), .int .i64 (0)]]) (by simp [results, Tryd.results6, go_sem, q0, q1', q2, q3, s0, s1]) rfl ?_
    rw [HU.out]
    refine ⟨rfl, ?_⟩
    rw [HQE.out]
    exact (((((HBF.out.setCell bnq _).setCell bnq _).setCell bnq _).setCell bnq _).setCell bnq _).setCell bnq _
end
end Go.Proofs.YtajdoobkfbdgoaaDoor
