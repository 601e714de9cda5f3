/- Lemmas on which the law of this seat rests; each states its own conditions. -/
import Derived.Test.YtajdoobkfbdgoaaDoorB20
import Derived.Test.YtajdoobkfbdgoaaDoorB22
import Derived.Test.YtajdoobkfbdgoaaDoorB23
import Derived.Test.YtajdoobkfbdgoaaDoorB24
import Derived.Test.YtajdoobkfbdgoaaDoorB25
import Derived.Test.YtajdoobkfbdgoaaDoorB12
set_option linter.unusedVariables false
set_option linter.unusedSimpArgs false
namespace Go.Proofs.YtajdoobkfbdgoaaDoor
section
open Go.RowKit
open Cl Lo
def mF (k p t1 tw th tb t2 hg lf dn al cd : Value) : Nat → Value := fun i => ([k, p, t1, tw, th, tb, t2, hg, lf, dn, al, cd] : List Value).getD i (.int .i64 0)
structure MD (ob mb base : Nat) (f : Nat → Value) (W H : Int) (a : Option Addr) (n c : Nat) (bs : List Bool) (W0 w : World) : Prop where
 row : w.rowIs ob 37 12 f
 mrow : w.rowIs mb 33 3 (tF W H (.slice a n c))
 tr : OkT w a n c bs
 bel : BelowX base ob W0 w
 ne : mb ≠ ob
 off : ∀ b o, a = some ⟨b, o, none⟩ → b ≠ ob
section
variable {ob mb base : Nat} {f : Nat → Value} {W H : Int} {a : Option Addr} {n c : Nat} {bs : List Bool} {W0 w w' : World}
theorem MD.call (h : MD ob mb base f W H a n c bs W0 w) (hb : Below w.heap.size w w') : MD ob mb base f W H a n c bs W0 w' :=
 ⟨rowBelow h.row hb h.row.lt, rowBelow h.mrow hb h.mrow.lt, h.tr.below hb, ⟨hb.os.trans h.bel.os, hb.tape.trans h.bel.tape, hb.output.trans h.bel.output, Nat.le_trans h.bel.size hb.size, fun k hk hkm => (hb.block k (Nat.lt_of_lt_of_le hk h.bel.size)).trans (h.bel.block k hk hkm)⟩, h.ne, h.off⟩
theorem MD.set (h : MD ob mb base f W H a n c bs W0 w) (i : Nat) (v : Value) {f' : Nat → Value} (hf : ∀ j, j < 12 → (if j = i then v else f j) = f' j) : MD ob mb base f' W H a n c bs W0 (w.setCell ⟨ob, i, none⟩ v) := by
 refine ⟨(h.row.set i v).congr fun j hj => hf j hj, ?_, ?_, h.bel.set i v, h.ne, h.off⟩
 ·exact h.mrow.of_block (Below.heap_setCell _ _ _ mb (fun e => h.ne e))
 ·have BX := (BelowX.refl (base := w.heap.size) (mb := ob) (W := w) (Nat.le_refl _)).set i v
  exact BX.okT h.tr rfl h.off
end
structure LV (B : Nat) (w : World) (A : Option Addr) (n : Nat) (L : List Int) : Prop where
 ints : IsInts w A n L
 off : ∀ b o, A = some ⟨b, o, none⟩ → B ≤ b
theorem LV.call {B : Nat} {w w' : World} {A : Option Addr} {n : Nat} {L : List Int} (h : LV B w A n L) (hb : Below w.heap.size w w') : LV B w' A n L := ⟨h.ints.below hb, h.off⟩
theorem LV.set {B : Nat} {w : World} {A : Option Addr} {n : Nat} {L : List Int} (h : LV B w A n L) {ob : Nat} (hob : ob < B) (i : Nat) (v : Value) : LV B (w.setCell ⟨ob, i, none⟩ v) A n L :=
 ⟨h.ints.setOther (p := ⟨ob, i, none⟩) (fun b o e => by have := h.off b o e; show b ≠ ob; omega) v, h.off⟩
structure OV (B : Nat) (w : World) (A : Option Addr) (n c : Nat) (L : List Bool) : Prop where
 okt : OkT w A n c L
 off : ∀ b o, A = some ⟨b, o, none⟩ → B ≤ b
theorem OV.call {B : Nat} {w w' : World} {A : Option Addr} {n c : Nat} {L : List Bool} (h : OV B w A n c L) (hb : Below w.heap.size w w') : OV B w' A n c L := ⟨h.okt.below hb, h.off⟩
theorem OV.set {B : Nat} {w : World} {A : Option Addr} {n c : Nat} {L : List Bool} (h : OV B w A n c L) {ob : Nat} (hob : ob < B) (i : Nat) (v : Value) : OV B (w.setCell ⟨ob, i, none⟩ v) A n c L := by
 refine ⟨?_, h.off⟩
 have BX := (BelowX.refl (base := w.heap.size) (mb := ob) (W := w) (Nat.le_refl _)).set i v
 exact BX.okT h.okt rfl (fun b o e => by have := h.off b o e; omega)
theorem MD.set' {ob mb base : Nat} {f : Nat → Value} {W H : Int} {a : Option Addr} {n c : Nat} {bs : List Bool} {W0 w : World} (h : MD ob mb base f W H a n c bs W0 w) (i : Nat) (v : Value) : MD ob mb base (fun j => if j = i then v else f j) W H a n c bs W0 (w.setCell ⟨ob, i, none⟩ v) := h.set i v fun _ _ => rfl
theorem MD.congr {ob mb base : Nat} {f f' : Nat → Value} {W H : Int} {a : Option Addr} {n c : Nat} {bs : List Bool} {W0 w : World} (h : MD ob mb base f W H a n c bs W0 w) (hf : ∀ j, j < 12 → f j = f' j) : MD ob mb base f' W H a n c bs W0 w := ⟨h.row.congr hf, h.mrow, h.tr, h.bel, h.ne, h.off⟩
theorem belowXof {B ob : Nat} {w w' : World} (h : Below B w w') (hB : B ≤ w.heap.size := by omega) : BelowX B ob w w' := ⟨h.os, h.tape, h.output, Nat.le_trans hB h.size, fun j hj _ => h.block j hj⟩
def WvPost (ob : Nat) (k p : Value) (W H e q : Nat) (l1 l2 : List Int) (l5 : List Bool) (l6 : List Nat) (dn al : Int) (cd : ByteArray) (B : Nat) (w w' : World) : Prop :=
 ∃ A1 c1 A2 c2 A5 c5 A6 c6, w'.rowIs ob 37 12 (mF k p (.slice A1 W c1) (.int .i64 (e)) (.int .i64 (q)) (.slice A5 (e * q) c5) (.slice A2 H c2) (.bool (((l6.length : Nat) : Int) == 0)) (.slice A6 l6.length c6) (.int .i64 (dn)) (.int .i64 (al)) (.string cd)) ∧
  LV B w' A1 W l1 ∧ LV B w' A2 H l2 ∧ OV B w' A5 (e * q) c5 l5 ∧ LV B w' A6 l6.length (natI l6) ∧ BelowX w.heap.size ob w w'
set_option maxRecDepth 100000 in
set_option maxHeartbeats 8000000 in
theorem weave_ok (W H n : Nat) (a : Option Addr) (c : Nat) (bs : List Bool) (ob : Nat) (k p : Value) (w : World) (hT : OkT w a n c bs) (hW : W ≤ 64) (hH : H ≤ 64) (hW0 : 0 < W) (hH0 : 0 < H) (hn : n = W * H)
  (hR : w.rowIs ob 37 12 (mF k p (.slice none 0 0) (.int .i64 (0)) (.int .i64 (0)) (.slice none 0 0) (.slice none 0 0) (.bool false) (.slice none 0 0) (.int .i64 (0)) (.int .i64 (0)) (.string ⟨#[]⟩))) (hoff : ∀ b o, a = some ⟨b, o, none⟩ → b ≠ ob) :
  Calls Tryd.prog 22 #[.agg #[.int .i64 (W), .int .i64 (H), .slice a n c], .pointer (some ⟨ob, 0, none⟩)] w fun r w' => r = .returned (.int .i64 (0)) ∧ WvPost ob k p W H (ends W H bs).length (picks W H bs).length (natI (thL W H bs)) (natI (trL W H bs)) (tieL W H bs) (lift (W+H) (abM W H bs)) (longV true H W (turnL W H bs)) (longV false W H bs) (strOf (deckL W H bs)) w.heap.size w w' := by
 have hp : 0 < n := by rw [hn]; exact Nat.mul_pos hW0 hH0
 have hwc : wrC W H n = 0 := by unfold wrC; rw [hn, wrT_ok hW hH]; simp; omega
 have hlt := hR.lt
 have HF := Lib.hid (fun w h => dFew_ok W H n a c bs w h hW hH hn hp)
 have HL := Lib.hid (fun w (h : OkT w a n c bs) => Lift_ok W H a n c bs w h.bits hW hH hn hwc)
 have HO := Lib.hid (fun w h => Floats_ok W H n hn a c bs w h hW hH hW0 hH0)
 have HP := Lib.hid (fun w h => Pack_ok W H n a c bs w h hW hH hn)
 have HM0 : Hid (MD ob w.heap.size w.heap.size (mF k p (.slice none 0 0) (.int .i64 (0)) (.int .i64 (0)) (.slice none 0 0) (.slice none 0 0) (.bool false) (.slice none 0 0) (.int .i64 (0)) (.int .i64 (0)) (.string ⟨#[]⟩)) W H a n c bs w (w.alloc (.cells #[.int .i64 W, .int .i64 H, .slice a n c] 33))) := Lib.hid
  ⟨rowBelow hR ((Below.refl _ _).alloc (Nat.le_refl _) _) hlt, tF_alloc w W H (.slice a n c) rfl, hT.below ((Below.refl _ _).alloc (Nat.le_refl _) _), belowXof ((Below.refl _ _).alloc (Nat.le_refl _) _), Nat.ne_of_gt hlt, hoff⟩
 unfold FewPost LiftPost StrPost at *
 generalize (ends W H bs).length = e at *
 generalize (picks W H bs).length = q at *
 generalize natI (thL W H bs) = l1 at *
 generalize natI (trL W H bs) = l2 at *
 generalize tieL W H bs = l5 at *
 generalize lift (W+H) (abM W H bs) = l6 at *
 generalize longV true H W (turnL W H bs) = dn at *
 generalize longV false W H bs = al at *
 generalize strOf (deckL W H bs) = cd at *
 clear hT hR hn hp hwc hoff
 go_enter Tryd.func22, Tryd.ntmps22
 go_wp2_with fail
 refine (HF.out _ HM0.out.tr).mono ?_
 rintro r w1 ⟨A1, c1, A2, c2, A5, c5, rfl, i1, t5, i2, hb, f1, f2, f5⟩
 have HMX := Lib.hid (HM0.out.call hb)
 have V1 : Hid (LV w.heap.size w1 A1 W l1) := Lib.hid ⟨i1, fun b o h => by have := f1 b o h; simp at this; omega⟩
 have V2 : Hid (LV w.heap.size w1 A2 H l2) := Lib.hid ⟨i2, fun b o h => by have := f2 b o h; simp at this; omega⟩
 have V5 : Hid (OV w.heap.size w1 A5 (e * q) c5 l5) := Lib.hid ⟨t5, fun b o h => by have := f5 b o h; simp at this; omega⟩
 clear HF HM0 hb i1 i2 t5 f1 f2 f5
 obtain ⟨mb, hmb⟩ : ∃ mb, mb = w.heap.size := ⟨_, rfl⟩
 rw [← hmb] at HMX hlt ⊢
 have HMB := Lib.hid hmb
 have hlt' : ob < w.heap.size := by omega
 clear hmb
 have n1 : ¬ (ob = mb) := by omega
 have n2 : ¬ (mb = ob) := by omega
 have q0 : w1.cell? ⟨mb, 0, none⟩ = some (.int .i64 (W)) := HMX.out.mrow.cell (i := 0) (by omega)
 have q1 : w1.cell? ⟨mb, 1, none⟩ = some (.int .i64 (H)) := HMX.out.mrow.cell (i := 1) (by omega)
 have q2 : w1.cell? ⟨mb, 2, none⟩ = some (.slice a n c) := HMX.out.mrow.cell (i := 2) (by omega)
 have lq : LtW mb w1 := HMX.out.mrow.lt
 have lo : LtW ob w1 := HMX.out.row.lt
 have o2 : w1.cell? ⟨ob, 2, none⟩ = some (.slice none 0 0) := HMX.out.row.cell (i := 2) (by omega)
 have g2 := HMX.out.row.frozen 2
 have o3 : w1.cell? ⟨ob, 3, none⟩ = some (.int .i64 (0)) := HMX.out.row.cell (i := 3) (by omega)
 have g3 := HMX.out.row.frozen 3
 have o4 : w1.cell? ⟨ob, 4, none⟩ = some (.int .i64 (0)) := HMX.out.row.cell (i := 4) (by omega)
 have g4 := HMX.out.row.frozen 4
 have o5 : w1.cell? ⟨ob, 5, none⟩ = some (.slice none 0 0) := HMX.out.row.cell (i := 5) (by omega)
 have g5 := HMX.out.row.frozen 5
 have o6 : w1.cell? ⟨ob, 6, none⟩ = some (.slice none 0 0) := HMX.out.row.cell (i := 6) (by omega)
 have g6 := HMX.out.row.frozen 6
 go_wp2_with fail
 have HM2 : Hid (MD ob mb mb (mF k p (.slice A1 W c1) (.int .i64 (e)) (.int .i64 (q)) (.slice A5 (e * q) c5) (.slice A2 H c2) (.bool false) (.slice none 0 0) (.int .i64 (0)) (.int .i64 (0)) (.string ⟨#[]⟩)) W H a n c bs w (((((w1.setCell ⟨ob, 2, none⟩ (.slice A1 W c1)).setCell ⟨ob, 3, none⟩ (.int .i64 (e))).setCell ⟨ob, 4, none⟩ (.int .i64 (q))).setCell ⟨ob, 5, none⟩ (.slice A5 (e * q) c5)).setCell ⟨ob, 6, none⟩ (.slice A2 H c2))) := Lib.hid (by
  refine (((((HMX.out.set' 2 (.slice A1 W c1)).set' 3 (.int .i64 (e))).set' 4 (.int .i64 (q))).set' 5 (.slice A5 (e * q) c5)).set' 6 (.slice A2 H c2)).congr ?_
  exact (fun j hj => by
 have h12 : j = 0 ∨ j = 1 ∨ j = 2 ∨ j = 3 ∨ j = 4 ∨ j = 5 ∨ j = 6 ∨ j = 7 ∨ j = 8 ∨ j = 9 ∨ j = 10 ∨ j = 11 := by omega
 rcases h12 with rfl | rfl | rfl | rfl | rfl | rfl | rfl | rfl | rfl | rfl | rfl | rfl <;> rfl))
 refine (HL.out _ HM2.out.tr).mono ?_
 rintro r w2 ⟨A6, c6, rfl, i6, hb, f6⟩
 have U1 := Lib.hid ((((((V1.out.set hlt' 2 (.slice A1 W c1)).set hlt' 3 (.int .i64 (e))).set hlt' 4 (.int .i64 (q))).set hlt' 5 (.slice A5 (e * q) c5)).set hlt' 6 (.slice A2 H c2)).call hb)
 have U2 := Lib.hid ((((((V2.out.set hlt' 2 (.slice A1 W c1)).set hlt' 3 (.int .i64 (e))).set hlt' 4 (.int .i64 (q))).set hlt' 5 (.slice A5 (e * q) c5)).set hlt' 6 (.slice A2 H c2)).call hb)
 have U5 := Lib.hid ((((((V5.out.set hlt' 2 (.slice A1 W c1)).set hlt' 3 (.int .i64 (e))).set hlt' 4 (.int .i64 (q))).set hlt' 5 (.slice A5 (e * q) c5)).set hlt' 6 (.slice A2 H c2)).call hb)
 have U6 : Hid (LV w.heap.size w2 A6 l6.length (natI l6)) := Lib.hid ⟨i6, fun b o h => by have := HM2.out.bel.size; have := f6 b o h; have := HMB.out; omega⟩
 have HM3 := Lib.hid (HM2.out.call hb)
 clear q0 q1 q2 lq lo
 clear HL V1 V2 V5 hb i6 f6 HMX HM2 o2 o3 o4 o5 o6 g2 g3 g4 g5 g6
 have HMX := HM3
 clear HM3
 have q0 : w2.cell? ⟨mb, 0, none⟩ = some (.int .i64 (W)) := HMX.out.mrow.cell (i := 0) (by omega)
 have q1 : w2.cell? ⟨mb, 1, none⟩ = some (.int .i64 (H)) := HMX.out.mrow.cell (i := 1) (by omega)
 have q2 : w2.cell? ⟨mb, 2, none⟩ = some (.slice a n c) := HMX.out.mrow.cell (i := 2) (by omega)
 have lq : LtW mb w2 := HMX.out.mrow.lt
 have lo : LtW ob w2 := HMX.out.row.lt
 have o7 : w2.cell? ⟨ob, 7, none⟩ = some (.bool false) := HMX.out.row.cell (i := 7) (by omega)
 have g7 := HMX.out.row.frozen 7
 have o8 : w2.cell? ⟨ob, 8, none⟩ = some (.slice none 0 0) := HMX.out.row.cell (i := 8) (by omega)
 have g8 := HMX.out.row.frozen 8
 go_wp2_with fail
 have HM4 : Hid (MD ob mb mb (mF k p (.slice A1 W c1) (.int .i64 (e)) (.int .i64 (q)) (.slice A5 (e * q) c5) (.slice A2 H c2) (.bool (((l6.length : Nat) : Int) == 0)) (.slice A6 l6.length c6) (.int .i64 (0)) (.int .i64 (0)) (.string ⟨#[]⟩)) W H a n c bs w ((w2.setCell ⟨ob, 8, none⟩ (.slice A6 l6.length c6)).setCell ⟨ob, 7, none⟩ (.bool (((l6.length : Nat) : Int) == 0)))) := Lib.hid (by
  refine ((HMX.out.set' 8 (.slice A6 l6.length c6)).set' 7 (.bool (((l6.length : Nat) : Int) == 0))).congr ?_
  exact (fun j hj => by
 have h12 : j = 0 ∨ j = 1 ∨ j = 2 ∨ j = 3 ∨ j = 4 ∨ j = 5 ∨ j = 6 ∨ j = 7 ∨ j = 8 ∨ j = 9 ∨ j = 10 ∨ j = 11 := by omega
 rcases h12 with rfl | rfl | rfl | rfl | rfl | rfl | rfl | rfl | rfl | rfl | rfl | rfl <;> rfl))
 refine (HO.out _ HM4.out.tr).mono ?_
 rintro r w3 ⟨rfl, hb⟩
 have V1 := Lib.hid (((U1.out.set hlt' 8 (.slice A6 l6.length c6)).set hlt' 7 (.bool (((l6.length : Nat) : Int) == 0))).call hb)
 have V2 := Lib.hid (((U2.out.set hlt' 8 (.slice A6 l6.length c6)).set hlt' 7 (.bool (((l6.length : Nat) : Int) == 0))).call hb)
 have V5 := Lib.hid (((U5.out.set hlt' 8 (.slice A6 l6.length c6)).set hlt' 7 (.bool (((l6.length : Nat) : Int) == 0))).call hb)
 have V6 := Lib.hid (((U6.out.set hlt' 8 (.slice A6 l6.length c6)).set hlt' 7 (.bool (((l6.length : Nat) : Int) == 0))).call hb)
 have HM5 := Lib.hid (HM4.out.call hb)
 clear q0 q1 q2 lq lo
 clear HO U1 U2 U5 U6 hb HMX HM4 o7 o8 g7 g8
 have HMX := HM5
 clear HM5
 have q0 : w3.cell? ⟨mb, 0, none⟩ = some (.int .i64 (W)) := HMX.out.mrow.cell (i := 0) (by omega)
 have q1 : w3.cell? ⟨mb, 1, none⟩ = some (.int .i64 (H)) := HMX.out.mrow.cell (i := 1) (by omega)
 have q2 : w3.cell? ⟨mb, 2, none⟩ = some (.slice a n c) := HMX.out.mrow.cell (i := 2) (by omega)
 have lq : LtW mb w3 := HMX.out.mrow.lt
 have lo : LtW ob w3 := HMX.out.row.lt
 have o9 : w3.cell? ⟨ob, 9, none⟩ = some (.int .i64 (0)) := HMX.out.row.cell (i := 9) (by omega)
 have g9 := HMX.out.row.frozen 9
 have o10 : w3.cell? ⟨ob, 10, none⟩ = some (.int .i64 (0)) := HMX.out.row.cell (i := 10) (by omega)
 have g10 := HMX.out.row.frozen 10
 go_wp2_with fail
 have HM6 : Hid (MD ob mb mb (mF k p (.slice A1 W c1) (.int .i64 (e)) (.int .i64 (q)) (.slice A5 (e * q) c5) (.slice A2 H c2) (.bool (((l6.length : Nat) : Int) == 0)) (.slice A6 l6.length c6) (.int .i64 (dn)) (.int .i64 (al)) (.string ⟨#[]⟩)) W H a n c bs w ((w3.setCell ⟨ob, 9, none⟩ (.int .i64 (dn))).setCell ⟨ob, 10, none⟩ (.int .i64 (al)))) := Lib.hid (by
  refine ((HMX.out.set' 9 (.int .i64 (dn))).set' 10 (.int .i64 (al))).congr ?_
  exact (fun j hj => by
 have h12 : j = 0 ∨ j = 1 ∨ j = 2 ∨ j = 3 ∨ j = 4 ∨ j = 5 ∨ j = 6 ∨ j = 7 ∨ j = 8 ∨ j = 9 ∨ j = 10 ∨ j = 11 := by omega
 rcases h12 with rfl | rfl | rfl | rfl | rfl | rfl | rfl | rfl | rfl | rfl | rfl | rfl <;> rfl))
 refine (HP.out _ HM6.out.tr).mono ?_
 rintro r w4 ⟨rfl, hb⟩
 have U1 := Lib.hid (((V1.out.set hlt' 9 (.int .i64 (dn))).set hlt' 10 (.int .i64 (al))).call hb)
 have U2 := Lib.hid (((V2.out.set hlt' 9 (.int .i64 (dn))).set hlt' 10 (.int .i64 (al))).call hb)
 have U5 := Lib.hid (((V5.out.set hlt' 9 (.int .i64 (dn))).set hlt' 10 (.int .i64 (al))).call hb)
 have U6 := Lib.hid (((V6.out.set hlt' 9 (.int .i64 (dn))).set hlt' 10 (.int .i64 (al))).call hb)
 have HM7 := Lib.hid (HM6.out.call hb)
 clear q0 q1 q2 lq lo
 clear HP V1 V2 V5 V6 hb HMX HM6 o9 o10 g9 g10
 have HMX := HM7
 clear HM7
 have q0 : w4.cell? ⟨mb, 0, none⟩ = some (.int .i64 (W)) := HMX.out.mrow.cell (i := 0) (by omega)
 have q1 : w4.cell? ⟨mb, 1, none⟩ = some (.int .i64 (H)) := HMX.out.mrow.cell (i := 1) (by omega)
 have q2 : w4.cell? ⟨mb, 2, none⟩ = some (.slice a n c) := HMX.out.mrow.cell (i := 2) (by omega)
 have lq : LtW mb w4 := HMX.out.mrow.lt
 have lo : LtW ob w4 := HMX.out.row.lt
 have o11 : w4.cell? ⟨ob, 11, none⟩ = some (.string ⟨#[]⟩) := HMX.out.row.cell (i := 11) (by omega)
 have g11 := HMX.out.row.frozen 11
 go_wp2
 go_ret
 refine ⟨rfl, A1, c1, A2, c2, A5, c5, A6, c6, ?_, U1.out.set hlt' 11 _, U2.out.set hlt' 11 _, U5.out.set hlt' 11 _, U6.out.set hlt' 11 _, by rw [← HMB.out]; exact (HMX.out.set' 11 (.string cd)).bel⟩
 exact ((HMX.out.set' 11 (.string cd)).congr (f' := mF k p (.slice A1 W c1) (.int .i64 (e)) (.int .i64 (q)) (.slice A5 (e * q) c5) (.slice A2 H c2) (.bool (((l6.length : Nat) : Int) == 0)) (.slice A6 l6.length c6) (.int .i64 (dn)) (.int .i64 (al)) (.string cd)) (fun j hj => by
 have h12 : j = 0 ∨ j = 1 ∨ j = 2 ∨ j = 3 ∨ j = 4 ∨ j = 5 ∨ j = 6 ∨ j = 7 ∨ j = 8 ∨ j = 9 ∨ j = 10 ∨ j = 11 := by omega
 rcases h12 with rfl | rfl | rfl | rfl | rfl | rfl | rfl | rfl | rfl | rfl | rfl | rfl <;> rfl)).row
end
section
open Go.RowKit
open Z (torN place pnt Mv To lin okT nrm keepB colP idm md redM firstB rankP act)
def ptK (p : Z.Pt) : List Value := [.int .i64 p.1, .int .i64 p.2]
def ptsK (L : List Z.Pt) : List Value := L.flatMap ptK
theorem ptsK_app (L : List Z.Pt) (p : Z.Pt) : ptsK (L ++ [p]) = ptsK L ++ ptK p := by unfold ptsK; rw [List.flatMap_append]; simp
def OwnP (w : World) (base : Nat) (A : Option Addr) (n C : Nat) (L : List Z.Pt) : Prop := L.length = n ∧ w.ownsRow base 52 2 (.slice A n C) n (ptsK L)
theorem okPt : ElemOk 71 52 2 16 (.agg #[.int .i64 0, .int .i64 0]) := ⟨Tryd.underlying71, by kernel_rfl, rfl, by omega⟩
def PtPost (L : List Z.Pt) (e : Int) (w : World) (r : Ending) (w' : World) : Prop := (∃ A C, r = .returned (.tuple #[.slice A L.length C, .int .i64 (e)]) ∧ OwnP w' w.heap.size A L.length C L) ∧ Below w.heap.size w w'
theorem row_notOwn {w : World} {b t n base e size k : Nat} {f : Nat → Value} {v : Value} {xs : List Value} (hr : w.rowIs b t n f) (h : w.ownsRow base e size v k xs) (hne : t ≠ e) : some b ≠ v.ownBlock := by
 rcases h.2 with ⟨rfl, _⟩ | ⟨g, cap, cur, rfl, _, hg, _⟩
 ·simp [Value.ownBlock]
 ·intro e'
  have e2 : b = g := by simpa [Value.ownBlock] using e'
  subst e2
  obtain ⟨cs, hb, _⟩ := hr
  rw [hb] at hg
  injection hg with hg
  injection hg with _ h5
  exact hne h5
theorem row_ne {w : World} {b b' t t' n n' : Nat} {f f' : Nat → Value} (h : w.rowIs b t n f) (h' : w.rowIs b' t' n' f') (hne : t ≠ t') : b ≠ b' := by
 rintro rfl
 obtain ⟨c, h1, _⟩ := h
 obtain ⟨c', h2, _⟩ := h'
 rw [h1] at h2
 injection h2 with h2
 injection h2 with _ h3
 exact hne h3
structure DS (sb xb : Nat) (W0 : World) (g n : Int) (A : Option Addr) (M C : Nat) (B : Option Addr) (D : Nat) (ML : List Mv) (f : Nat → Bool) (ov : Value) (OL : List Z.Pt) (w : World) : Prop where
 s : w.rowIs sb 4 M (fun j => .bool (f j))
 x : w.rowIs xb 93 3 (clF g n (.slice A M C))
 m : ∃ b, OwnM w b B ML.length D ML
 o : w.ownsRow W0.heap.size 52 2 ov OL.length (ptsK OL)
 lo : W0.heap.size ≤ sb
 bel : Below W0.heap.size W0 w
section
variable {sb xb M C D : Nat} {W0 w w' : World} {g n : Int} {A B : Option Addr} {ML : List Mv} {f f' : Nat → Bool} {ov : Value} {OL : List Z.Pt}
theorem DS.grow (h : DS sb xb W0 g n A M C B D ML f ov OL w) (hb : Below w.heap.size w w') : DS sb xb W0 g n A M C B D ML f ov OL w' :=
 ⟨rowBelow h.s hb h.s.lt, rowBelow h.x hb h.x.lt, h.m.imp fun _ k => k.below hb, ownBelow h.o hb, h.lo, h.bel.trans (hb.mono h.bel.size)⟩
theorem DS.alloc (h : DS sb xb W0 g n A M C B D ML f ov OL w) (o : Obj) : DS sb xb W0 g n A M C B D ML f ov OL (w.alloc o) := h.grow ((Below.refl _ _).alloc (Nat.le_refl _) _)
theorem DS.see (h : DS sb xb W0 g n A M C B D ML f ov OL w) (i : Nat) (hf : ∀ j, j < M → f' j = (f j || i == j)) : DS sb xb W0 g n A M C B D ML f' ov OL (w.setCell ⟨sb, i, none⟩ (.bool true)) :=
 ⟨(h.s.set i _).congr fun j hj => by
  show (if j = i then Value.bool true else .bool (f j)) = .bool (f' j)
  rw [hf j hj]
  by_cases e : j = i
  ·subst e; simp
  ·rw [if_neg e]; simp [Ne.symm e], h.x.setOther (a := ⟨sb, i, none⟩) (row_ne h.x h.s (by decide)) _, h.m.imp fun _ k => k.setRow h.s (by decide), own_setRow h.o h.s (by decide), h.lo, h.bel.setCell (p := ⟨sb, i, none⟩) h.lo _⟩
theorem DS.congr (h : DS sb xb W0 g n A M C B D ML f ov OL w) (hf : ∀ j, j < M → f' j = f j) : DS sb xb W0 g n A M C B D ML f' ov OL w :=
 ⟨h.s.congr fun j hj => by show Value.bool (f j) = .bool (f' j); rw [hf j hj], h.x, h.m, h.o, h.lo, h.bel⟩
theorem DS.app {p : Z.Pt} {A' : Option Addr} {c' : Nat} (h : DS sb xb W0 g n A M C B D ML f ov OL w) (hown : w'.ownsRow W0.heap.size 52 2 (.slice A' (OL.length + 1) c') (OL.length + 1) (ptsK OL ++ (#[Value.int .i64 p.1, .int .i64 p.2]).toList)) (hg : (w.alloc (.cells #[.int .i64 p.1, .int .i64 p.2] 52)).grownBy w' ov.ownBlock) (hb : Below W0.heap.size w w') : DS sb xb W0 g n A M C B D ML f (.slice A' (OL.length + 1) c') (OL ++ [p]) w' := by
 have h2 := h.alloc (.cells #[.int .i64 p.1, .int .i64 p.2] 52)
 refine ⟨h2.s.of_block (hg.block sb h2.s.lt (row_notOwn h2.s h2.o (by decide))), h2.x.of_block (hg.block xb h2.x.lt (row_notOwn h2.x h2.o (by decide))), h2.m.imp fun _ k => k.grownT h2.o (by decide) hg, ?_, h.lo, h.bel.trans hb⟩
 rw [ptsK_app, List.length_append]
 exact hown
end
def seenB (g : Int) (n : Nat) (L : List Mv) (p j : Nat) : Bool := (List.range p).any fun q => firstB g n L (pnt n q) && L.any fun m => rankP n (act g n m (pnt n q)) == j
def seenI (g : Int) (n : Nat) (L : List Mv) (p i j : Nat) : Bool := seenB g n L p j || (L.take i).any fun m => rankP n (act g n m (pnt n p)) == j
def firstsP (g : Int) (n : Nat) (L : List Mv) (p : Nat) : List Z.Pt := ((List.range p).filter fun k => firstB g n L (pnt n k)).map (pnt n)
theorem seenB_succ (g : Int) (n : Nat) (L : List Mv) (p j : Nat) : seenB g n L (p + 1) j = (seenB g n L p j || (firstB g n L (pnt n p) && L.any fun m => rankP n (act g n m (pnt n p)) == j)) := by
 unfold seenB; rw [List.range_succ, List.any_append]; simp
theorem seenI_all {g : Int} {n : Nat} {L : List Mv} {p : Nat} (h : firstB g n L (pnt n p) = true) (j : Nat) : seenB g n L (p + 1) j = seenI g n L p L.length j := by
 rw [seenB_succ, h, Bool.true_and]; unfold seenI; rw [List.take_length]
theorem seenI_succ {g : Int} {n : Nat} {L : List Mv} {p i : Nat} (hi : i < L.length) (j : Nat) : seenI g n L p (i + 1) j = (seenI g n L p i j || rankP n (act g n (L.getD i idm) (pnt n p)) == j) := by
 unfold seenI
 rw [List.take_add_one, List.getElem?_eq_getElem hi, List.any_append, List.getD_eq_getElem?_getD, List.getElem?_eq_getElem hi]
 simp [Bool.or_assoc]
theorem seenB_iff {g : Int} {n : Nat} {L : List Mv} {p : Nat} {col : Z.Pt → Int} (hg : Z.G g) (hn : 0 < n) (hp : Z.Per n col) (h : Z.Grp g n col L) (hk : p < n * n) : seenB g n L p p = !firstB g n L (pnt n p) := by
 have h1 := Z.seen_first hg hn hp h hk
 unfold seenB
 cases hf : firstB g n L (pnt n p) with
 | false =>
  obtain ⟨q, hq, h2, m, hm, h3⟩ := h1.2 hf
  simp only [Bool.not_false]
  rw [List.any_eq_true]
  exact ⟨q, List.mem_range.2 hq, by rw [h2, Bool.true_and, List.any_eq_true]; exact ⟨m, hm, by simpa using h3⟩⟩
 | true =>
  simp only [Bool.not_true]
  rw [List.any_eq_false]
  intro q hq e
  rw [Bool.and_eq_true, List.any_eq_true] at e
  obtain ⟨e1, m, hm, e2⟩ := e
  have := h1.1 ⟨q, List.mem_range.1 hq, e1, m, hm, by simpa using e2⟩
  rw [hf] at this; cases this
theorem firstsP_succ (g : Int) (n : Nat) (L : List Mv) (p : Nat) : firstsP g n L (p + 1) = if firstB g n L (pnt n p) then firstsP g n L p ++ [pnt n p] else firstsP g n L p := by
 unfold firstsP
 rw [List.range_succ, List.filter_append]
 simp only [List.filter_cons, List.filter_nil]
 split <;> simp
theorem firstsP_len (g : Int) (n : Nat) (L : List Mv) (p : Nat) : (firstsP g n L p).length ≤ p := by
 unfold firstsP
 rw [List.length_map]
 exact Nat.le_trans (List.length_filter_le _ _) (by simp)
set_option maxRecDepth 100000 in
set_option maxHeartbeats 8000000 in
theorem Domain_ok (G W H n N : Nat) (a : Option Addr) (c : Nat) (cs : List Int) (w : World) (hI : IsInts w a n cs) (h : ChOk G W H n cs) (hN : torN W H = N) (h24 : N ≤ 24) (hp : 0 < N) (hml : (Z.movesL W H cs G N).length ≤ 10000) :
  Calls Tryd.prog 21 #[.agg #[.int .i64 (G), .int .i64 (W), .int .i64 (H), .slice a n c]] w (PtPost (firstsP G N (Z.movesL W H cs G N) (N * N)) 0 w) := by
 obtain ⟨M, hM⟩ : ∃ M, N * N = M := ⟨_, rfl⟩
 have hM6 : M ≤ 576 := by rw [← hM]; exact Nat.mul_le_mul h24 h24
 have hd := Z.torN_dvd W H
 rw [hN] at hd
 have hg : (G : Int) = 4 ∨ (G : Int) = 6 := by have := h.g; omega
 have HL := Lib.hid (fun w hI => laid_ok G W H n N M a c cs w hI h hN h24 hM)
 have HA := Lib.hid (fun a c w hI => all_ok G W H N M a c cs w hI h.g hp h24 hM hd.1 hd.2)
 have grp := Z.movesL_grp (cs := cs) (g := (G : Int)) hp hd.1 hd.2
 have HSE := Lib.hid (fun p (hk : p < M) => seenB_iff hg hp (Z.colP_per cs hd.1 hd.2) grp (by rw [hM]; exact hk))
 generalize Z.movesL W H cs G N = L at *
 have HAP := Lib.hid (fun (i : Nat) (x y : Int) w (hi : i < L.length) (hx : 0 ≤ x ∧ x ≤ 24) (hy : 0 ≤ y ∧ y ≤ 24) => (by
  have hm : L.getD i idm ∈ L := by rw [List.getD_eq_getElem?_getD, List.getElem?_eq_getElem hi]; exact List.getElem_mem hi
  have hb := grp.bd hm
  have ho := grp.ok hm
  exact (⟨Apply_small G (L.getD i idm).t (L.getD i idm).f (L.getD i idm).o.1 (L.getD i idm).o.2 x y w hg ho hx hy (by omega) (by omega), To_small hg (L.getD i idm).t (L.getD i idm).f hx hy (ox := (L.getD i idm).o.1) (oy := (L.getD i idm).o.2) (by omega) (by omega)⟩ : _ ∧ _)))
 have HPL := Lib.hid (fun a c x y w h1 h2 => place_ok G N M a c x y w hp h24 h1 h2)
 have HPB : Hid (∀ z, place N z < M) := Lib.hid fun z => by rw [← hM]; exact Z.place_lt hp z
 have hmk := makeRow okBools rfl M (by omega) (by omega)
 have HI := Lib.hid hI
 have HM := Lib.hid hM
 have b1 : ((N : Int) == 0) = false := by rw [beq_eq_false_iff_ne]; omega
 have b2 : (N : Int) ≠ 0 := by omega
 have b3 : ¬ N = 0 := by omega
 unfold PtPost
 rw [hM]
 obtain ⟨RES, hRES⟩ : ∃ R, firstsP G N L M = R := ⟨_, rfl⟩
 rw [hRES]
 have HRES := Lib.hid hRES
 clear hI hN hM hRES h hd hg grp
 go_enter Tryd.func21, Tryd.ntmps21
 go_wp2_with fail
 refine (HL.out _ (HI.out.below blw)).mono ?_
 rintro r w2 ⟨⟨A, C, rfl, hA⟩, hb2⟩
 have HB2 : Hid (Below w.heap.size w w2 ∧ w.heap.size < w2.heap.size) := Lib.hid (by
  have h1 := hb2.size
  rw [World.size_alloc] at h1
  exact ⟨((Below.refl _ _).alloc (Nat.le_refl _) _).trans (hb2.mono (by simp)), by omega⟩)
 have HAI := Lib.hid hA.ints
 clear hA hb2
 go_wp2_with fail
 have hal : Below w2.heap.size w2 ((w2.alloc (.cells #[.int .i64 (G : Int), .int .i64 (N : Int), .slice A M C] 93)).alloc (.cells (madeCells #[.bool false] M) 4)) := ((Below.refl _ _).alloc (Nat.le_refl _) _).alloc (by simp) _
 refine (HA.out A C _ (HAI.out.below hal)).mono ?_
 rintro r w3 ⟨⟨B, D, rfl, hB⟩, hb3⟩
 have hD0 : DS (w2.heap.size + 1) w2.heap.size w G N A M C B D L (fun _ => false) (.slice none 0 0) [] w3 := by
  have h1 := World.rowIs_made (w2.alloc (.cells #[.int .i64 (G : Int), .int .i64 (N : Int), .slice A M C] 93)) (.bool false) M 4
  have h2 := (clF_alloc w2 G N A M C).alloc (.cells (madeCells #[.bool false] M) 4)
  rw [World.size_alloc] at h1
  exact ⟨rowBelow h1 hb3 h1.lt, rowBelow h2 hb3 h2.lt, ⟨_, hB⟩, World.ownsRow_nil _ _ _ _, by have := HB2.out.2; omega, HB2.out.1.trans ((hal.trans (hb3.mono hal.size)).mono (Nat.le_of_lt HB2.out.2))⟩
 obtain ⟨xb, hxb⟩ : ∃ xb, w2.heap.size = xb := ⟨_, rfl⟩
 obtain ⟨sb, hsb⟩ : ∃ sb, xb + 1 = sb := ⟨_, rfl⟩
 rw [hxb, hsb] at hD0 ⊢
 have HD0 := Lib.hid hD0
 clear hD0 hB hb3 hal HB2 HAI HL HA hmk hxb hsb
 go_wp2_with fail
 go_loopw [6, 31] (fun ov pv wr => ∃ (p : Nat), p ≤ M ∧ pv = .int .i64 p ∧ Hid (DS sb xb w G N A M C B D L (seenB G N L p) ov (firstsP G N L p) wr)) (fun _ pv _ => M - (intOf pv).toNat)
 case atStart => exact ⟨0, by omega, rfl, HD0⟩
 case round =>
  clear HD0
  obtain ⟨p, hpM, rfl, HD⟩ := hrel
  by_cases hpl : p < M
  ·have dp : decide ((p : Int) < (M : Int)) = true := by simpa using hpl
   have vp : IntKind.i64.wrap ((p : Int) + 1) = (p : Int) + 1 := IntWalk.i64_in _ (by omega)
   have cp : wr.cell? ⟨sb, p, none⟩ = some (.bool (seenB G N L p p)) := HD.out.s.cell (i := p) hpl
   rw [HSE.out p hpl] at cp
   have HFS := Lib.hid (firstsP_succ G N L p)
   have HSS := Lib.hid (seenB_succ G N L p)
   have HSA := Lib.hid (fun h j => seenI_all (g := (G : Int)) (n := N) (L := L) (p := p) h j)
   have hfl := firstsP_len G N L p
   cases hfb : firstB G N L (pnt N p) with
   | false =>
    rw [hfb] at cp HFS HSS
    have HD2 : Hid (DS sb xb w G N A M C B D L (seenB G N L (p + 1)) _ (firstsP G N L (p + 1)) wr) := Lib.hid (by
     rw [HFS.out, if_neg (by simp)]
     exact HD.out.congr fun j _ => by rw [HSS.out j]; simp)
    have x0 : (wr).cell? ⟨xb, 0, none⟩ = some (.int .i64 (G : Int)) := (HD.out).x.cell (i := 0) (by omega)
    have x1 : (wr).cell? ⟨xb, 1, none⟩ = some (.int .i64 (N : Int)) := (HD.out).x.cell (i := 1) (by omega)
    have x2 : (wr).cell? ⟨xb, 2, none⟩ = some (.slice A M C) := (HD.out).x.cell (i := 2) (by omega)
    have lx : LtW xb wr := (HD.out).x.lt
    have ls : LtW sb wr := (HD.out).s.lt
    simp only [Bool.not_false] at cp
    go_wp2
    clear x0 x1 x2 lx ls
    go_roundw
    case rel => exact ⟨p + 1, by omega, by go_num, HD2⟩
    case measure => simp [intOf]; omega
   | true =>
    rw [hfb] at cp HFS
    simp only [Bool.not_true] at cp
    have HSA2 := Lib.hid (HSA.out hfb)
    obtain ⟨u, hu⟩ : ∃ u, p % N = u := ⟨_, rfl⟩
    obtain ⟨v, hv⟩ : ∃ v, p / N = v := ⟨_, rfl⟩
    have hu1 : u < N := by rw [← hu]; exact Nat.mod_lt _ hp
    have hv1 : v < N := by rw [← hv]; exact Nat.div_lt_of_lt_mul (by rw [HM.out]; exact hpl)
    have hpn : pnt N p = ((u : Int), (v : Int)) := by unfold pnt; rw [hu, hv]
    have t1 : (p : Int).tmod (N : Int) = (u : Int) := by rw [← hu]; rfl
    have t2 : (p : Int).tdiv (N : Int) = (v : Int) := by rw [← hv]; rfl
    have v1 : IntKind.i64.wrap (u : Int) = (u : Int) := IntWalk.i64_in _ (by omega)
    have v2 : IntKind.i64.wrap (v : Int) = (v : Int) := IntWalk.i64_in _ (by omega)
    have HSI := Lib.hid (fun i (hi : i < L.length) j => seenI_succ (g := (G : Int)) (n := N) (p := p) hi j)
    rw [hpn] at HFS HSI
    have HFS2 : Hid (firstsP G N L (p + 1) = firstsP G N L p ++ [((u : Int), (v : Int))]) := Lib.hid (by rw [HFS.out, if_pos rfl])
    clear hu hv hpn hfb HFS HSS HSA
    have x0 : (wr).cell? ⟨xb, 0, none⟩ = some (.int .i64 (G : Int)) := (HD.out).x.cell (i := 0) (by omega)
    have x1 : (wr).cell? ⟨xb, 1, none⟩ = some (.int .i64 (N : Int)) := (HD.out).x.cell (i := 1) (by omega)
    have x2 : (wr).cell? ⟨xb, 2, none⟩ = some (.slice A M C) := (HD.out).x.cell (i := 2) (by omega)
    have lx : LtW xb wr := (HD.out).x.lt
    have ls : LtW sb wr := (HD.out).s.lt
    go_wp2_with fail
    (refine wp_region_ext_alloc 9 52 (some 10) _ (by kernel_rfl) (by kernel_rfl) rfl allocPt ?_; simp only [List.take_succ_cons, List.take_zero, List.drop_succ_cons, List.drop_zero]; (repeat (first | ((with_reducible refine wpV_step (fun K hK => ?_)); go_simp; first | (refine hK _ ?_; clear hK K) | (apply Exists.intro; refine ⟨fun _ _ => ?_, hK _ ?_⟩; fail; clear hK K)))); refine wpV_nil ?_; intro E d E' d'; go_simp)
    have hbL := built_below wr E d (.cells #[.int .i64 (u : Int), .int .i64 (v : Int)] 52) E' d'
    have hz := ptG_alloc (extW wr E d) u v
    have hz2 := rowBelow hz (bExtW (Below.refl _ _) (Nat.le_refl _) : Below _ _ (extW ((extW wr E d).alloc (.cells #[.int .i64 (u : Int), .int .i64 (v : Int)] 52)) E' d')) hz.lt
    rw [size_extW] at hz2
    have HD4 := Lib.hid (HD.out.grow hbL)
    have HOL := Lib.hid (fun k e => (HD.out.o.lt k e).2)
    have hzge : wr.heap.size ≤ wr.heap.size + E.size := by omega
    have HZ4 := Lib.hid hz2
    have hsw : w.heap.size ≤ (extW ((extW wr E d).alloc (.cells #[.int .i64 (u : Int), .int .i64 (v : Int)] 52)) E' d').heap.size := HD4.out.bel.size
    clear cp hbL hz HD hz2
    go_wp2_with (at_builtin; refine wpAppM (W := (extW ((extW wr E d).alloc (.cells #[.int .i64 (u : Int), .int .i64 (v : Int)] 52)) E' d')) okPt rfl (.tmp 47) (.tmp 49) rfl w.heap.size _ _ _ #[.int .i64 (u : Int), .int .i64 (v : Int)] rfl HD4.out.o (by simp [go_sem]) rfl ?_ (by omega) (by omega) hsw ?_)
    ·simp [Value.oneCell']
    intro v' w5 hown5 hg5 hb5
    obtain ⟨A', cp', rfl⟩ := own_form hown5
    have HD5 := Lib.hid (HD4.out.app (p := ((u : Int), (v : Int))) hown5 hg5 hb5)
    obtain ⟨zb, hzb⟩ : ∃ zb, wr.heap.size + E.size = zb := ⟨_, rfl⟩
    rw [hzb] at HZ4 hzge ⊢
    have HZ5 := Lib.hid ((HZ4.out.alloc (.cells #[.int .i64 (u : Int), .int .i64 (v : Int)] 52)).of_block (hg5.block zb (HZ4.out.alloc (.cells #[.int .i64 (u : Int), .int .i64 (v : Int)] 52)).lt (fun e => by have := HOL.out zb e.symm; omega)))
    have hm5 : IsMoves w5 B L.length L := HD5.out.m.elim fun _ k => k.moves
    clear hown5 hg5 hb5 HD4 HZ4 HOL hzge hm5 hsw hzb
    clear x0 x1 x2 lx ls
    rw [← HFS2.out] at HD5
    go_wp2_with fail
    obtain ⟨wo, rfl⟩ : ∃ wo : World, wo = wr := ⟨_, rfl⟩
    go_loopw [53] (fun iv wr => ∃ (i : Nat), i ≤ L.length ∧ iv = .int .i64 i ∧ Hid (DS sb xb w G N A M C B D L (seenI G N L p i) (.slice A' ((firstsP G N L p).length + 1) cp') (firstsP G N L (p + 1)) wr) ∧ Hid (wr.rowIs zb 52 2 (ptG u v))) (fun iv _ => L.length - (intOf iv).toNat)
    case atStart => exact ⟨0, by omega, rfl, Lib.hid (HD5.out.congr fun j _ => by unfold seenI; simp), HZ5⟩
    case round =>
     clear HD5 HZ5
     obtain ⟨i, hi, rfl, HD, HZ⟩ := hrel
     by_cases hil : i < L.length
     ·have di : decide ((i : Int) < (L.length : Int)) = true := by simpa using hil
      have vi : IntKind.i64.wrap ((i : Int) + 1) = (i : Int) + 1 := IntWalk.i64_in _ (by omega)
      have hmv : IsMoves wr B L.length L := HD.out.m.elim fun _ k => k.moves
      obtain ⟨mb, mo, hB, hb, hc⟩ := hmv.2 (by omega)
      obtain ⟨c0, c1, c2, c3⟩ := hc i hil
      have lmb : LtW mb wr := hb
      have HAP1 := Lib.hid (fun w => HAP.out i (u : Int) (v : Int) w hil (by omega) (by omega))
      have hbd := (HAP.out i (u : Int) (v : Int) wr hil (by omega) (by omega)).2
      have HSI1 := Lib.hid (HSI.out i hil)
      obtain ⟨m, hm⟩ : ∃ m, L.getD i idm = m := ⟨_, rfl⟩
      rw [hm] at c0 c1 c2 c3 HAP1 hbd HSI1
      obtain ⟨t', f', x', y'⟩ := m
      simp only at c0 c1 c2 c3 HAP1 hbd
      have hpa : place N (To G ⟨t', f', (x', y')⟩ ((u : Int), (v : Int))) = rankP N (act G N ⟨t', f', (x', y')⟩ ((u : Int), (v : Int))) := rfl
      rw [← hpa] at HSI1
      have hqM := HPB.out (To G ⟨t', f', (x', y')⟩ ((u : Int), (v : Int)))
      clear hpa hm hc hb hmv
      generalize To G ⟨t', f', (x', y')⟩ ((u : Int), (v : Int)) = pp at *
      obtain ⟨px, py⟩ := pp
      have HP1 := Lib.hid (fun w => HPL.out A C px py w (by simp only at hbd; omega) (by simp only at hbd; omega))
      generalize place N (px, py) = q at *
      have hBB := Lib.hid hB
      subst hB
      have z0 : wr.cell? ⟨zb, 0, none⟩ = some (.int .i64 (u : Int)) := HZ.out.cell (i := 0) (by omega)
      have z1 : wr.cell? ⟨zb, 1, none⟩ = some (.int .i64 (v : Int)) := HZ.out.cell (i := 1) (by omega)
      have lz : LtW zb wr := HZ.out.lt
      have x0 : (wr).cell? ⟨xb, 0, none⟩ = some (.int .i64 (G : Int)) := (HD.out).x.cell (i := 0) (by omega)
      have x1 : (wr).cell? ⟨xb, 1, none⟩ = some (.int .i64 (N : Int)) := (HD.out).x.cell (i := 1) (by omega)
      have x2 : (wr).cell? ⟨xb, 2, none⟩ = some (.slice A M C) := (HD.out).x.cell (i := 2) (by omega)
      have lx : LtW xb wr := (HD.out).x.lt
      have ls : LtW sb wr := (HD.out).s.lt
      clear HAP HPL HPB HSE hbd
      go_wp2_with fail
      refine (HAP1.out _).1.mono ?_
      rintro r w6 ⟨rfl, hb6⟩
      have hb6' : Below wr.heap.size wr w6 := ((Below.refl _ _).alloc (Nat.le_refl _) _).trans (hb6.mono (by simp))
      have HD6 := Lib.hid (HD.out.grow hb6')
      have HZ6 := Lib.hid (rowBelow HZ.out hb6' HZ.out.lt)
      clear HD HZ hb6 hb6' c0 c1 c2 c3 lmb z0 z1 lz HAP1
      clear x0 x1 x2 lx ls
      have x0 : (w6).cell? ⟨xb, 0, none⟩ = some (.int .i64 (G : Int)) := (HD6.out).x.cell (i := 0) (by omega)
      have x1 : (w6).cell? ⟨xb, 1, none⟩ = some (.int .i64 (N : Int)) := (HD6.out).x.cell (i := 1) (by omega)
      have x2 : (w6).cell? ⟨xb, 2, none⟩ = some (.slice A M C) := (HD6.out).x.cell (i := 2) (by omega)
      have lx : LtW xb w6 := (HD6.out).x.lt
      have ls : LtW sb w6 := (HD6.out).s.lt
      go_wp2_with fail
      refine (HP1.out _).mono ?_
      rintro r w7 ⟨rfl, hb7⟩
      have hb7' : Below w6.heap.size w6 w7 := ((Below.refl _ _).alloc (Nat.le_refl _) _).trans (hb7.mono (by simp))
      have HD7 := Lib.hid (HD6.out.grow hb7')
      have HZ7 := Lib.hid (rowBelow HZ6.out hb7' HZ6.out.lt)
      clear HD6 HZ6 hb7 hb7' HP1
      clear x0 x1 x2 lx ls
      have cq : w7.cell? ⟨sb, q, none⟩ = some (.bool (seenI G N L p i q)) := HD7.out.s.cell (i := q) hqM
      have fq := HD7.out.s.frozen q
      have lq : LtW sb w7 := HD7.out.s.lt
      go_wp2
      have HD8 := Lib.hid (HD7.out.see (f' := seenI G N L p (i + 1)) q (fun j _ => HSI1.out j))
      have HZ8 := Lib.hid (HZ7.out.setOther (a := ⟨sb, q, none⟩) (row_ne HZ7.out HD7.out.s (by decide)) (.bool true))
      clear HD7 HZ7 cq fq lq
      go_roundw
      case rel => exact ⟨i + 1, by omega, by go_num, HD8, HZ8⟩
      case measure => simp [intOf]; omega
     ·obtain rfl : i = L.length := by omega
      have di : decide ((L.length : Int) < (L.length : Int)) = false := by simp
      have HD9 : Hid (DS sb xb w G N A M C B D L (seenB G N L (p + 1)) (.slice A' ((firstsP G N L p).length + 1) cp') (firstsP G N L (p + 1)) wr) := Lib.hid (HD.out.congr fun j _ => HSA2.out j)
      clear HD HZ
      go_wp2
      go_roundw
      case rel => exact ⟨p + 1, by omega, by go_num, HD9⟩
      case measure => simp [intOf]; omega
  ·obtain rfl : p = M := by omega
   have dp : decide ((p : Int) < (p : Int)) = false := by simp
   rw [HRES.out] at HD
   obtain ⟨A', C', rfl⟩ := own_form HD.out.o
   have HO : Hid (OwnP wr w.heap.size A' RES.length C' RES) := Lib.hid ⟨rfl, HD.out.o⟩
   have HBL := Lib.hid HD.out.bel
   clear HD HSE HAP HPL HPB
   go_wp2
   go_ret2
   exact ⟨⟨A', C', rfl, HO.out⟩, HBL.out⟩
end
end Go.Proofs.YtajdoobkfbdgoaaDoor
