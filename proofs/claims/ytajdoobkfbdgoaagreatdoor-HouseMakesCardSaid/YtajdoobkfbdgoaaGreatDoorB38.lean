/- Lemmas on which the law of this seat rests; each states its own conditions. -/
import Derived.Test.YtajdoobkfbdgoaaGreatDoorB33
import Derived.Test.YtajdoobkfbdgoaaGreatDoorB34
import Derived.Test.YtajdoobkfbdgoaaGreatDoorB36
import Derived.Test.YtajdoobkfbdgoaaGreatDoorB37
import Derived.Test.YtajdoobkfbdgoaaGreatDoorB27
import Derived.Test.YtajdoobkfbdgoaaGreatDoorB05
import Derived.Test.YtajdoobkfbdgoaaGreatDoorB06
import Derived.Deep.RegionWith
import Derived.Deep.DeepCutAuto
import Derived.Test.YtajdoobkfbdgoaaGreatDoorB03
import Derived.ProofKit
import Derived.OpenShut
import Derived.ShutString
import Derived.ChangeOld
import Derived.Below
import Derived.Lib.SmallJoins
import Derived.Deep.Strs
set_option linter.unusedVariables false
set_option linter.unusedSimpArgs false
namespace Go.Proofs.YtajdoobkfbdgoaaGreatDoor
section
open Go.RowKit
open Cl Lo
open By (readS)
set_option maxRecDepth 100000 in
set_option maxHeartbeats 8000000 in
theorem rMake_ok (s : ByteArray) (G : Nat) (rows : List (List Nat)) (w : World) (hs : s.size ≤ 9223372036854775807) (hr : readS (By.bytesOf s) = (G, .ok rows)) (Wd Hh n N : Nat) (cs : List Int) (hWd : (rows.headD []).length = Wd) (hHh : rows.length = Hh) (hn : rows.reverse.flatten.length = n) (hcs : natI rows.reverse.flatten = cs) (hm : Z.torN Wd Hh = N) (h24 : N ≤ 24)
  (k : Int) (kn : ByteArray) (dl : Nat) (l1 l2 l6 : List Int) (l5 : List Bool) (e q n6 : Nat) (dn al : Int) (cd : ByteArray)
  (HK : Hid (∀ a c w, IsInts w a n cs → Calls Tryz.prog 14 #[.agg #[.int .i64 (G), .int .i64 (Wd), .int .i64 (Hh), .slice a n c]] w fun r w' => r = .returned (.tuple #[.int .i64 (k), .int .i64 (0)]) ∧ Below w.heap.size w w'))
  (HN : Hid (∀ w, Calls Tryz.prog 16 #[.int .i64 (k)] w fun r w' => r = .returned (.tuple #[.string kn, .int .i64 (0)]) ∧ Below w.heap.size w w'))
  (hdl : (firstsP G N (Z.movesL Wd Hh cs G N) (N * N)).length = dl)
  (h1 : (ends Wd Hh (rsB cs)).length = e) (h2 : (picks Wd Hh (rsB cs)).length = q) (h3 : natI (thL Wd Hh (rsB cs)) = l1) (h4 : natI (trL Wd Hh (rsB cs)) = l2) (h5 : tieL Wd Hh (rsB cs) = l5) (h6 : natI (lift (Wd+Hh) (abM Wd Hh (rsB cs))) = l6) (h6n : (lift (Wd+Hh) (abM Wd Hh (rsB cs))).length = n6)
  (h7 : longV true Hh Wd (turnL Wd Hh (rsB cs)) = dn) (h8 : longV false Wd Hh (rsB cs) = al) (h9 : strOf (deckL Wd Hh (rsB cs)) = cd) :
  Calls Tryz.prog 5 #[.string s] w (MkU kn dl Wd Hh (e * q) n6 e q l1 l2 l5 l6 (((n6 : Nat) : Int) == 0) dn al cd 0 0 w) := by
 have hC := read_okH (By.bytesOf_lt s) hr
 have HR := Lib.hid (fun w => r2Read_any s w hs)
 rw [hr] at HR
 unfold RdPost at HR
 simp only at HR
 rw [hWd, hHh, hn, hcs] at HR hC
 have hW1 := hC.w1; have hW2 := hC.w2; have hH1 := hC.h1; have hH2 := hC.h2
 have hnn := hC.hn
 have hn4 := hC.n4
 have hn0 : 0 < n := by rw [hnn]; exact Nat.mul_pos hW1 hH1
 have h0 := hC.tpos
 rw [hm] at h0
 have hmf := moves_facts (cs := cs) hC hm h24 h0
 have HD := Lib.hid (fun a c w hI => rDomain_ok G Wd Hh n N a c cs w hI hC hm h24 h0 hmf.2.2.2)
 have HTO := Lib.hid (fun a c => (torOk (a := a) (c := c) hC hm h24).2)
 have hlr : (rsB cs).length = n := by unfold rsB; rw [List.length_map, ← hcs, ← hn]; unfold natI; rw [List.length_map]
 have HRA := Lib.hid (fun a c w (hI : IsInts w a n cs) => rRaised_ok G Wd Hh a n c cs w hI hn4 (fun j hj => by
  have hjl : j < cs.length := by rw [hI.1]; exact hj
  rw [List.getD_eq_getElem?_getD, List.getElem?_eq_getElem hjl]
  exact (hC.cr _ (List.getElem_mem hjl)).1))
 unfold RsPost at HRA
 rw [hlr] at HRA
 clear hlr
 have hwc : wrC Wd Hh n = 0 := by unfold wrC; rw [hnn, wrT_ok hW2 hH2]; simp; omega
 have HF := Lib.hid (fun a c w h => rFew_ok Wd Hh n a c (rsB cs) w h hW2 hH2 hnn hn0)
 have HL := Lib.hid (fun a c w (h : OkT w a n c (rsB cs)) => rLift_ok Wd Hh a n c (rsB cs) w h.bits hW2 hH2 hnn hwc)
 have HO := Lib.hid (fun a c w h => rFloats_ok Wd Hh n hnn a c (rsB cs) w h hW2 hH2 hW1 hH1)
 have HP := Lib.hid (fun a c w h => rPack_ok Wd Hh n a c (rsB cs) w h hW2 hH2 hnn)
 unfold RFewPost LiftPost StrPost at *
 rw [hdl] at HD
 rw [h1, h2, h3, h4, h5] at HF
 rw [h6, h6n] at HL
 rw [h7, h8] at HO
 rw [h9] at HP
 clear hwc
 generalize rsB cs = bs at *
 clear hs hr hC hm hmf hdl h1 h2 h3 h4 h5 h6 h6n h7 h8 h9 hnn hWd hHh hn hcs
 go_enter Tryz.func5, Tryz.ntmps5
 go_wp2_with fail
 refine (HR.out _).mono ?_
 rintro r w1 ⟨⟨A, C, rfl, hI⟩, hb⟩
 have hlen := hI.1
 have HB1 : Hid (Below w.heap.size w w1) := Lib.hid (Below.trans blw (hb.mono bnd))
 have res : w1.rowIs w.heap.size 29 12 mZ := rowBelow (rowBelow (mZ_alloc w) ((Below.refl _ _).alloc (Nat.le_refl _) _) (by simp)) hb (by simp; omega)
 have flt : w1.rowIs (w.heap.size + 1) 32 2 fZ := by
  have := fZ_alloc (w.alloc (.cells #[.string ⟨#[]⟩, .int .i64 0, .slice none 0 0, .int .i64 0, .int .i64 0, .slice none 0 0, .slice none 0 0, .bool false, .slice none 0 0, .int .i64 0, .int .i64 0, .string ⟨#[]⟩] 29))
  rw [World.size_alloc] at this
  exact rowBelow this hb (by simp)
 have hsz := hb.size
 simp only [World.size_alloc] at hsz
 have HI1 := Lib.hid hI
 have RES := Lib.hid res
 have FLT := Lib.hid flt
 clear hI hb res flt HR
 obtain ⟨rb, hrb⟩ : ∃ rb, rb = w.heap.size := ⟨_, rfl⟩
 obtain ⟨fb, hfb⟩ : ∃ fb, fb = w.heap.size + 1 := ⟨_, rfl⟩
 rw [← hrb] at RES FLT hfb ⊢
 rw [← hfb] at FLT ⊢
 have HRB := Lib.hid hrb
 have HFB := Lib.hid hfb
 clear hrb hfb
 go_wp2_with fail
 refine (HK.out _ _ _ (HI1.out.below blw)).mono ?_
 rintro r w2 ⟨rfl, hb⟩
 have hb2 : Below w1.heap.size w1 w2 := Below.trans ((Below.alloc (Below.alloc (Below.refl _ _) (Nat.le_refl _) _) (by simp) _)) (hb.mono (by simp; omega))
 have cht : w2.rowIs w1.heap.size 38 4 (chM G Wd Hh (.slice A n C)) := rowBelow (rowBelow (chM_alloc w1 G Wd Hh A n C) ((Below.refl _ _).alloc (Nat.le_refl _) _) (by simp)) hb (by simp; omega)
 have CHT := Lib.hid cht
 have HB2 := Lib.hid hb2
 have hsz2 := hb.size
 simp only [World.size_alloc] at hsz2
 clear hb cht hb2
 obtain ⟨cb, hcb⟩ : ∃ cb, cb = w1.heap.size := ⟨_, rfl⟩
 rw [← hcb] at CHT ⊢
 have HCB := Lib.hid hcb
 clear hcb
 have t0 : w2.cell? ⟨cb, 0, none⟩ = some (.int .i64 (G)) := CHT.out.cell (i := 0) (by omega)
 have t1 : w2.cell? ⟨cb, 1, none⟩ = some (.int .i64 (Wd)) := CHT.out.cell (i := 1) (by omega)
 have t2 : w2.cell? ⟨cb, 2, none⟩ = some (.int .i64 (Hh)) := CHT.out.cell (i := 2) (by omega)
 have t3 : w2.cell? ⟨cb, 3, none⟩ = some (.slice A n C) := CHT.out.cell (i := 3) (by omega)
 have lt : LtW cb w2 := CHT.out.lt
 go_wp2_with fail
 refine (HTO.out _ _ _ (HI1.out.below HB2.out)).mono ?_
 rintro r w2' ⟨rfl, hbt⟩
 have HB2' : Hid (Below w1.heap.size w1 w2') := Lib.hid (HB2.out.trans (hbt.mono HB2.out.size))
 have CHT' := Lib.hid (rowBelow CHT.out hbt CHT.out.lt)
 clear t0 t1 t2 t3 lt hbt HB2 CHT HTO hsz2
 have HB2 := HB2'; have CHT := CHT'
 clear HB2' CHT'
 generalize w2' = w2 at *
 go_wp2_with fail
 refine (HN.out _).mono ?_
 rintro r w3 ⟨rfl, hb⟩
 have HX : Hid (HMk w2.heap.size rb fb cb mZ G Wd Hh A n C cs w w3) := Lib.hid (by
  have a2 : Below w2.heap.size w2 (w2.alloc (.cells #[.string ⟨#[]⟩, .int .i64 0, .slice none 0 0, .int .i64 0, .int .i64 0, .slice none 0 0, .slice none 0 0, .bool false, .slice none 0 0, .int .i64 0, .int .i64 0, .string ⟨#[]⟩] 29)) := (Below.refl _ _).alloc (Nat.le_refl _) _
  have b2 := HB2.out
  have z := HB2.out.size
  have hrb := HRB.out; have hfb := HFB.out; have hcb := HCB.out
  have l1 := RES.out.lt
  have l2 := FLT.out.lt
  have l3 := CHT.out.lt
  have hbb : Below w2.heap.size w2 w3 := a2.trans (hb.mono (by simp))
  refine ⟨rowBelow (mZ_alloc w2) hb (by simp), rowBelow (rowBelow RES.out b2 l1) hbb (by omega), rowBelow (rowBelow FLT.out b2 l2) hbb (by omega), rowBelow CHT.out hbb l3, (HI1.out.below b2).below hbb, by omega, by omega, by omega, fun b o eb => ?_, ?_, ?_⟩
  ·obtain ⟨b', o', e1, e2, _⟩ := HI1.out.2 hn0
   rw [e1] at eb
   injection eb with eb
   injection eb with eb
   omega
  ·exact (HB1.out.trans (b2.mono HB1.out.size)).trans (hbb.mono (Nat.le_trans HB1.out.size z))
  ·have := HB1.out.size; omega)
 obtain ⟨ob, hob⟩ : ∃ ob, ob = w2.heap.size := ⟨_, rfl⟩
 rw [← hob] at HX ⊢
 have hrbo : rb < ob := by have := RES.out.lt; have := HB2.out.size; omega
 have hfbo : fb < ob := by have := FLT.out.lt; have := HB2.out.size; omega
 have hrf : rb ≠ fb := by have := HFB.out; omega
 have HWB : Hid (w.heap.size ≤ rb ∧ w.heap.size ≤ fb) := Lib.hid (by have := HRB.out; have := HFB.out; omega)
 clear hb HB2 HB1 HI1 RES FLT CHT hsz HK HN hob HCB HRB HFB
 have t0 : w3.cell? ⟨cb, 0, none⟩ = some (.int .i64 (G)) := HX.out.cht.cell (i := 0) (by omega)
 have t1 : w3.cell? ⟨cb, 1, none⟩ = some (.int .i64 (Wd)) := HX.out.cht.cell (i := 1) (by omega)
 have t2 : w3.cell? ⟨cb, 2, none⟩ = some (.int .i64 (Hh)) := HX.out.cht.cell (i := 2) (by omega)
 have t3 : w3.cell? ⟨cb, 3, none⟩ = some (.slice A n C) := HX.out.cht.cell (i := 3) (by omega)
 have lt : LtW cb w3 := HX.out.cht.lt
 have lo : LtW ob w3 := HX.out.row.lt
 have o0 : w3.cell? ⟨ob, 0, none⟩ = some (.string ⟨#[]⟩) := HX.out.row.cell (i := 0) (by omega)
 have g0 := HX.out.row.frozen 0
 have ne1 : ¬ (ob = cb) := fun e => HX.out.n3 e.symm
 have ne2 : ¬ (cb = ob) := HX.out.n3
 go_wp2_with fail
 have HX2 := Lib.hid (HX.out.set 0 (.string kn))
 refine (HD.out _ _ _ HX2.out.ints).mono ?_
 rintro r w4 ⟨⟨A4, C4, rfl, _⟩, hb⟩
 have HX3 := Lib.hid (HX2.out.call hb)
 clear t0 t1 t2 t3 lt lo o0 g0 HX HX2 hb HD
 have HX := HX3
 clear HX3
 have t0 : w4.cell? ⟨cb, 0, none⟩ = some (.int .i64 (G)) := HX.out.cht.cell (i := 0) (by omega)
 have t1 : w4.cell? ⟨cb, 1, none⟩ = some (.int .i64 (Wd)) := HX.out.cht.cell (i := 1) (by omega)
 have t2 : w4.cell? ⟨cb, 2, none⟩ = some (.int .i64 (Hh)) := HX.out.cht.cell (i := 2) (by omega)
 have t3 : w4.cell? ⟨cb, 3, none⟩ = some (.slice A n C) := HX.out.cht.cell (i := 3) (by omega)
 have lt : LtW cb w4 := HX.out.cht.lt
 have lo : LtW ob w4 := HX.out.row.lt
 have o1 : w4.cell? ⟨ob, 1, none⟩ = some (.int .i64 (0)) := HX.out.row.cell (i := 1) (by omega)
 have g1 := HX.out.row.frozen 1
 go_wp2_with fail
 have HX2 := Lib.hid (HX.out.set 1 (.int .i64 (dl)))
 refine (HRA.out _ _ _ HX2.out.ints).mono ?_
 rintro r w5 ⟨A5, C5, rfl, hT5, hb, hf5⟩
 have HX3 := Lib.hid ((HX2.out.call hb).congr (f' := mF (.string kn) (.int .i64 (dl)) (.slice none 0 0) (.int .i64 (0)) (.int .i64 (0)) (.slice none 0 0) (.slice none 0 0) (.bool false) (.slice none 0 0) (.int .i64 (0)) (.int .i64 (0)) (.string ⟨#[]⟩)) (fun j hj => by
 have h12 : j = 0 ∨ j = 1 ∨ j = 2 ∨ j = 3 ∨ j = 4 ∨ j = 5 ∨ j = 6 ∨ j = 7 ∨ j = 8 ∨ j = 9 ∨ j = 10 ∨ j = 11 := by omega
 rcases h12 with rfl | rfl | rfl | rfl | rfl | rfl | rfl | rfl | rfl | rfl | rfl | rfl <;> rfl))
 have hlt5 := HX2.out.row.lt
 have hoff : ∀ b o, A5 = some ⟨b, o, none⟩ → b ≠ ob := fun b o eb => by have := hf5 b o eb; omega
 have hlo5 := HX3.out.row.lt
 have HX5 := Lib.hid (HX3.out.call ((Below.refl _ _).alloc (Nat.le_refl _) (.cells #[.int .i64 Wd, .int .i64 Hh, .slice A5 n C5] 25)))
 have HM0 : Hid (MD ob w5.heap.size (w5.heap.size + 1) (mF (.string kn) (.int .i64 (dl)) (.slice none 0 0) (.int .i64 (0)) (.int .i64 (0)) (.slice none 0 0) (.slice none 0 0) (.bool false) (.slice none 0 0) (.int .i64 (0)) (.int .i64 (0)) (.string ⟨#[]⟩)) Wd Hh A5 n C5 bs (w5.alloc (.cells #[.int .i64 Wd, .int .i64 Hh, .slice A5 n C5] 25)) (w5.alloc (.cells #[.int .i64 Wd, .int .i64 Hh, .slice A5 n C5] 25))) := Lib.hid
  ⟨HX5.out.row, tF_alloc w5 Wd Hh (.slice A5 n C5) rfl, hT5.below ((Below.refl _ _).alloc (Nat.le_refl _) _), BelowX.refl (by simp), Nat.ne_of_gt hlo5, hoff⟩
 have res5 := HX5.out.res
 have flt5 := HX5.out.flt
 have bel5 := HX5.out.bel
 have RES5 := Lib.hid res5; have FLT5 := Lib.hid flt5; have BEL5 := Lib.hid bel5
 have HLE := Lib.hid HX5.out.le
 clear res5 flt5 bel5 HX5
 clear t0 t1 t2 t3 lt lo o1 g1 HX HX2 HX3 hb hT5 hf5 hoff HRA
 go_wp2_with fail
 obtain ⟨mb, hmb⟩ : ∃ mb, mb = w5.heap.size := ⟨_, rfl⟩
 have hbb1 : w5.heap.size + 1 = (w5.alloc (.cells #[.int .i64 Wd, .int .i64 Hh, .slice A5 n C5] 25)).heap.size := by simp
 obtain ⟨BB, hBB⟩ : ∃ BB, BB = w5.heap.size + 1 := ⟨_, rfl⟩
 rw [← hBB] at HM0 hbb1
 rw [← hmb] at HM0 ⊢
 obtain ⟨WM, hWM⟩ : ∃ WM, w5.alloc (.cells #[.int .i64 Wd, .int .i64 Hh, .slice A5 n C5] 25) = WM := ⟨_, rfl⟩
 rw [hWM] at HM0 RES5 FLT5 BEL5 hbb1 ⊢
 have hlt' : ob < BB := by omega
 have hrB : rb < BB := by omega
 have hfB : fb < BB := by omega
 have HBB := Lib.hid hbb1
 clear hmb hBB hWM hbb1 hlt5 hlo5
 have hbb2 : BB = WM.heap.size := HBB.out
 rw [hbb2] at HM0 hlt' hrB hfB
 clear HBB hbb2
 obtain ⟨BB, hBB⟩ : ∃ BB, WM.heap.size = BB := ⟨_, rfl⟩
 rw [hBB] at HM0 hlt' hrB hfB
 have HBQ := Lib.hid hBB
 clear hBB
 refine (HF.out _ _ _ HM0.out.tr).mono ?_
 rintro r w1 ⟨A1, c1, A2, c2, A8, c8, rfl, i1, t5, i2, hb, f1, f2, f5⟩
 have HMX := Lib.hid (HM0.out.call hb)
 have V1 : Hid (LV BB w1 A1 Wd l1) := Lib.hid ⟨i1, fun b o h => by have := f1 b o h; have := HBQ.out; omega⟩
 have V2 : Hid (LV BB w1 A2 Hh l2) := Lib.hid ⟨i2, fun b o h => by have := f2 b o h; have := HBQ.out; omega⟩
 have V5 : Hid (OV BB w1 A8 (e * q) c8 l5) := Lib.hid ⟨t5, fun b o h => by have := f5 b o h; have := HBQ.out; omega⟩
 clear HF HM0 hb i1 i2 t5 f1 f2 f5
 have n1 : ¬ (ob = mb) := fun e => HMX.out.ne e.symm
 have n2 : ¬ (mb = ob) := HMX.out.ne
 have q0 : w1.cell? ⟨mb, 0, none⟩ = some (.int .i64 (Wd)) := HMX.out.mrow.cell (i := 0) (by omega)
 have q1 : w1.cell? ⟨mb, 1, none⟩ = some (.int .i64 (Hh)) := HMX.out.mrow.cell (i := 1) (by omega)
 have q2 : w1.cell? ⟨mb, 2, none⟩ = some (.slice A5 n C5) := HMX.out.mrow.cell (i := 2) (by omega)
 have lq : LtW mb w1 := HMX.out.mrow.lt
 have lo : LtW ob w1 := HMX.out.row.lt
 have o2 : w1.cell? ⟨ob, 2, none⟩ = some (.slice none 0 0) := HMX.out.row.cell (i := 2) (by omega)
 have g2 := HMX.out.row.frozen 2
 have o3 : w1.cell? ⟨ob, 3, none⟩ = some (.int .i64 (0)) := HMX.out.row.cell (i := 3) (by omega)
 have g3 := HMX.out.row.frozen 3
 have o4 : w1.cell? ⟨ob, 4, none⟩ = some (.int .i64 (0)) := HMX.out.row.cell (i := 4) (by omega)
 have g4 := HMX.out.row.frozen 4
 have o5 : w1.cell? ⟨ob, 5, none⟩ = some (.slice none 0 0) := HMX.out.row.cell (i := 5) (by omega)
 have g5 := HMX.out.row.frozen 5
 have o6 : w1.cell? ⟨ob, 6, none⟩ = some (.slice none 0 0) := HMX.out.row.cell (i := 6) (by omega)
 have g6 := HMX.out.row.frozen 6
 go_wp2_with fail
 have HM2 : Hid (MD ob mb BB (mF (.string kn) (.int .i64 (dl)) (.slice A1 Wd c1) (.int .i64 (e)) (.int .i64 (q)) (.slice A8 (e * q) c8) (.slice A2 Hh c2) (.bool false) (.slice none 0 0) (.int .i64 (0)) (.int .i64 (0)) (.string ⟨#[]⟩)) Wd Hh A5 n C5 bs WM (((((w1.setCell ⟨ob, 2, none⟩ (.slice A1 Wd c1)).setCell ⟨ob, 3, none⟩ (.int .i64 (e))).setCell ⟨ob, 4, none⟩ (.int .i64 (q))).setCell ⟨ob, 5, none⟩ (.slice A8 (e * q) c8)).setCell ⟨ob, 6, none⟩ (.slice A2 Hh c2))) := Lib.hid (by
  refine (((((HMX.out.set' 2 (.slice A1 Wd c1)).set' 3 (.int .i64 (e))).set' 4 (.int .i64 (q))).set' 5 (.slice A8 (e * q) c8)).set' 6 (.slice A2 Hh c2)).congr ?_
  exact (fun j hj => by
 have h12 : j = 0 ∨ j = 1 ∨ j = 2 ∨ j = 3 ∨ j = 4 ∨ j = 5 ∨ j = 6 ∨ j = 7 ∨ j = 8 ∨ j = 9 ∨ j = 10 ∨ j = 11 := by omega
 rcases h12 with rfl | rfl | rfl | rfl | rfl | rfl | rfl | rfl | rfl | rfl | rfl | rfl <;> rfl))
 refine (HL.out _ _ _ HM2.out.tr).mono ?_
 rintro r w2 ⟨A6, c6, rfl, i6, hb, f6⟩
 have U1 := Lib.hid ((((((V1.out.set hlt' 2 (.slice A1 Wd c1)).set hlt' 3 (.int .i64 (e))).set hlt' 4 (.int .i64 (q))).set hlt' 5 (.slice A8 (e * q) c8)).set hlt' 6 (.slice A2 Hh c2)).call hb)
 have U2 := Lib.hid ((((((V2.out.set hlt' 2 (.slice A1 Wd c1)).set hlt' 3 (.int .i64 (e))).set hlt' 4 (.int .i64 (q))).set hlt' 5 (.slice A8 (e * q) c8)).set hlt' 6 (.slice A2 Hh c2)).call hb)
 have U5 := Lib.hid ((((((V5.out.set hlt' 2 (.slice A1 Wd c1)).set hlt' 3 (.int .i64 (e))).set hlt' 4 (.int .i64 (q))).set hlt' 5 (.slice A8 (e * q) c8)).set hlt' 6 (.slice A2 Hh c2)).call hb)
 have U6 : Hid (LV BB w2 A6 n6 l6) := Lib.hid ⟨i6, fun b o h => Nat.le_trans HM2.out.bel.size (f6 b o h)⟩
 have HM3 := Lib.hid (HM2.out.call hb)
 clear q0 q1 q2 lq lo
 clear HL V1 V2 V5 hb i6 f6 HMX HM2 o2 o3 o4 o5 o6 g2 g3 g4 g5 g6
 have HMX := HM3
 clear HM3
 have q0 : w2.cell? ⟨mb, 0, none⟩ = some (.int .i64 (Wd)) := HMX.out.mrow.cell (i := 0) (by omega)
 have q1 : w2.cell? ⟨mb, 1, none⟩ = some (.int .i64 (Hh)) := HMX.out.mrow.cell (i := 1) (by omega)
 have q2 : w2.cell? ⟨mb, 2, none⟩ = some (.slice A5 n C5) := HMX.out.mrow.cell (i := 2) (by omega)
 have lq : LtW mb w2 := HMX.out.mrow.lt
 have lo : LtW ob w2 := HMX.out.row.lt
 have o7 : w2.cell? ⟨ob, 7, none⟩ = some (.bool false) := HMX.out.row.cell (i := 7) (by omega)
 have g7 := HMX.out.row.frozen 7
 have o8 : w2.cell? ⟨ob, 8, none⟩ = some (.slice none 0 0) := HMX.out.row.cell (i := 8) (by omega)
 have g8 := HMX.out.row.frozen 8
 go_wp2_with fail
 have HM4 : Hid (MD ob mb BB (mF (.string kn) (.int .i64 (dl)) (.slice A1 Wd c1) (.int .i64 (e)) (.int .i64 (q)) (.slice A8 (e * q) c8) (.slice A2 Hh c2) (.bool (((n6 : Nat) : Int) == 0)) (.slice A6 n6 c6) (.int .i64 (0)) (.int .i64 (0)) (.string ⟨#[]⟩)) Wd Hh A5 n C5 bs WM ((w2.setCell ⟨ob, 8, none⟩ (.slice A6 n6 c6)).setCell ⟨ob, 7, none⟩ (.bool (((n6 : Nat) : Int) == 0)))) := Lib.hid (by
  refine ((HMX.out.set' 8 (.slice A6 n6 c6)).set' 7 (.bool (((n6 : Nat) : Int) == 0))).congr ?_
  exact (fun j hj => by
 have h12 : j = 0 ∨ j = 1 ∨ j = 2 ∨ j = 3 ∨ j = 4 ∨ j = 5 ∨ j = 6 ∨ j = 7 ∨ j = 8 ∨ j = 9 ∨ j = 10 ∨ j = 11 := by omega
 rcases h12 with rfl | rfl | rfl | rfl | rfl | rfl | rfl | rfl | rfl | rfl | rfl | rfl <;> rfl))
 refine (HO.out _ _ _ HM4.out.tr).mono ?_
 rintro r w3 ⟨rfl, hb⟩
 have V1 := Lib.hid (((U1.out.set hlt' 8 (.slice A6 n6 c6)).set hlt' 7 (.bool (((n6 : Nat) : Int) == 0))).call hb)
 have V2 := Lib.hid (((U2.out.set hlt' 8 (.slice A6 n6 c6)).set hlt' 7 (.bool (((n6 : Nat) : Int) == 0))).call hb)
 have V5 := Lib.hid (((U5.out.set hlt' 8 (.slice A6 n6 c6)).set hlt' 7 (.bool (((n6 : Nat) : Int) == 0))).call hb)
 have V6 := Lib.hid (((U6.out.set hlt' 8 (.slice A6 n6 c6)).set hlt' 7 (.bool (((n6 : Nat) : Int) == 0))).call hb)
 have HM5 := Lib.hid (HM4.out.call hb)
 clear q0 q1 q2 lq lo
 clear HO U1 U2 U5 U6 hb HMX HM4 o7 o8 g7 g8
 have HMX := HM5
 clear HM5
 have q0 : w3.cell? ⟨mb, 0, none⟩ = some (.int .i64 (Wd)) := HMX.out.mrow.cell (i := 0) (by omega)
 have q1 : w3.cell? ⟨mb, 1, none⟩ = some (.int .i64 (Hh)) := HMX.out.mrow.cell (i := 1) (by omega)
 have q2 : w3.cell? ⟨mb, 2, none⟩ = some (.slice A5 n C5) := HMX.out.mrow.cell (i := 2) (by omega)
 have lq : LtW mb w3 := HMX.out.mrow.lt
 have lo : LtW ob w3 := HMX.out.row.lt
 have o9 : w3.cell? ⟨ob, 9, none⟩ = some (.int .i64 (0)) := HMX.out.row.cell (i := 9) (by omega)
 have g9 := HMX.out.row.frozen 9
 have o10 : w3.cell? ⟨ob, 10, none⟩ = some (.int .i64 (0)) := HMX.out.row.cell (i := 10) (by omega)
 have g10 := HMX.out.row.frozen 10
 go_wp2_with fail
 have HM6 : Hid (MD ob mb BB (mF (.string kn) (.int .i64 (dl)) (.slice A1 Wd c1) (.int .i64 (e)) (.int .i64 (q)) (.slice A8 (e * q) c8) (.slice A2 Hh c2) (.bool (((n6 : Nat) : Int) == 0)) (.slice A6 n6 c6) (.int .i64 (dn)) (.int .i64 (al)) (.string ⟨#[]⟩)) Wd Hh A5 n C5 bs WM ((w3.setCell ⟨ob, 9, none⟩ (.int .i64 (dn))).setCell ⟨ob, 10, none⟩ (.int .i64 (al)))) := Lib.hid (by
  refine ((HMX.out.set' 9 (.int .i64 (dn))).set' 10 (.int .i64 (al))).congr ?_
  exact (fun j hj => by
 have h12 : j = 0 ∨ j = 1 ∨ j = 2 ∨ j = 3 ∨ j = 4 ∨ j = 5 ∨ j = 6 ∨ j = 7 ∨ j = 8 ∨ j = 9 ∨ j = 10 ∨ j = 11 := by omega
 rcases h12 with rfl | rfl | rfl | rfl | rfl | rfl | rfl | rfl | rfl | rfl | rfl | rfl <;> rfl))
 refine (HP.out _ _ _ HM6.out.tr).mono ?_
 rintro r w4 ⟨rfl, hb⟩
 have U1 := Lib.hid (((V1.out.set hlt' 9 (.int .i64 (dn))).set hlt' 10 (.int .i64 (al))).call hb)
 have U2 := Lib.hid (((V2.out.set hlt' 9 (.int .i64 (dn))).set hlt' 10 (.int .i64 (al))).call hb)
 have U5 := Lib.hid (((V5.out.set hlt' 9 (.int .i64 (dn))).set hlt' 10 (.int .i64 (al))).call hb)
 have U6 := Lib.hid (((V6.out.set hlt' 9 (.int .i64 (dn))).set hlt' 10 (.int .i64 (al))).call hb)
 have HM7 := Lib.hid (HM6.out.call hb)
 clear q0 q1 q2 lq lo
 clear HP V1 V2 V5 V6 hb HMX HM6 o9 o10 g9 g10
 have HMX := HM7
 clear HM7
 have q0 : w4.cell? ⟨mb, 0, none⟩ = some (.int .i64 (Wd)) := HMX.out.mrow.cell (i := 0) (by omega)
 have q1 : w4.cell? ⟨mb, 1, none⟩ = some (.int .i64 (Hh)) := HMX.out.mrow.cell (i := 1) (by omega)
 have q2 : w4.cell? ⟨mb, 2, none⟩ = some (.slice A5 n C5) := HMX.out.mrow.cell (i := 2) (by omega)
 have lq : LtW mb w4 := HMX.out.mrow.lt
 have lo : LtW ob w4 := HMX.out.row.lt
 have o11 : w4.cell? ⟨ob, 11, none⟩ = some (.string ⟨#[]⟩) := HMX.out.row.cell (i := 11) (by omega)
 have g11 := HMX.out.row.frozen 11
 have res := HMX.out.bel.rowIs RES5.out hrB (by omega)
 have flt := HMX.out.bel.rowIs FLT5.out hfB (by omega)
 have hbw : Below w.heap.size w w4 := BEL5.out.trans (HMX.out.bel.below HBQ.out HLE.out hlt')
 have HBW6 := Lib.hid hbw
 have m0 : w4.cell? ⟨ob, 0, none⟩ = some (Value.string kn) := HMX.out.row.cell (i := 0) (by omega)
 have m1 : w4.cell? ⟨ob, 1, none⟩ = some (Value.int .i64 (dl : Int)) := HMX.out.row.cell (i := 1) (by omega)
 have m2 : w4.cell? ⟨ob, 2, none⟩ = some (.slice A1 Wd c1) := HMX.out.row.cell (i := 2) (by omega)
 have m3 : w4.cell? ⟨ob, 3, none⟩ = some (Value.int .i64 (e : Int)) := HMX.out.row.cell (i := 3) (by omega)
 have m4 : w4.cell? ⟨ob, 4, none⟩ = some (Value.int .i64 (q : Int)) := HMX.out.row.cell (i := 4) (by omega)
 have m5 : w4.cell? ⟨ob, 5, none⟩ = some (.slice A8 (e * q) c8) := HMX.out.row.cell (i := 5) (by omega)
 have m6 : w4.cell? ⟨ob, 6, none⟩ = some (.slice A2 Hh c2) := HMX.out.row.cell (i := 6) (by omega)
 have m7 : w4.cell? ⟨ob, 7, none⟩ = some (.bool (((n6 : Nat) : Int) == 0)) := HMX.out.row.cell (i := 7) (by omega)
 have m8 : w4.cell? ⟨ob, 8, none⟩ = some (.slice A6 n6 c6) := HMX.out.row.cell (i := 8) (by omega)
 have m9 : w4.cell? ⟨ob, 9, none⟩ = some (Value.int .i64 dn) := HMX.out.row.cell (i := 9) (by omega)
 have m10 : w4.cell? ⟨ob, 10, none⟩ = some (Value.int .i64 al) := HMX.out.row.cell (i := 10) (by omega)
 have r0 : w4.cell? ⟨rb, 0, none⟩ = some (Value.string ⟨#[]⟩) := res.cell (i := 0) (by omega)
 have v0 := res.frozen 0
 have r1 : w4.cell? ⟨rb, 1, none⟩ = some (Value.int .i64 0) := res.cell (i := 1) (by omega)
 have v1 := res.frozen 1
 have r2 : w4.cell? ⟨rb, 2, none⟩ = some (.slice none 0 0) := res.cell (i := 2) (by omega)
 have v2 := res.frozen 2
 have r3 : w4.cell? ⟨rb, 3, none⟩ = some (Value.int .i64 0) := res.cell (i := 3) (by omega)
 have v3 := res.frozen 3
 have r4 : w4.cell? ⟨rb, 4, none⟩ = some (Value.int .i64 0) := res.cell (i := 4) (by omega)
 have v4 := res.frozen 4
 have r5 : w4.cell? ⟨rb, 5, none⟩ = some (.slice none 0 0) := res.cell (i := 5) (by omega)
 have v5 := res.frozen 5
 have r6 : w4.cell? ⟨rb, 6, none⟩ = some (.slice none 0 0) := res.cell (i := 6) (by omega)
 have v6 := res.frozen 6
 have r7 : w4.cell? ⟨rb, 7, none⟩ = some (.bool false) := res.cell (i := 7) (by omega)
 have v7 := res.frozen 7
 have r8 : w4.cell? ⟨rb, 8, none⟩ = some (.slice none 0 0) := res.cell (i := 8) (by omega)
 have v8 := res.frozen 8
 have r9 : w4.cell? ⟨rb, 9, none⟩ = some (Value.int .i64 0) := res.cell (i := 9) (by omega)
 have v9 := res.frozen 9
 have r10 : w4.cell? ⟨rb, 10, none⟩ = some (Value.int .i64 0) := res.cell (i := 10) (by omega)
 have v10 := res.frozen 10
 have r11 : w4.cell? ⟨rb, 11, none⟩ = some (.string ⟨#[]⟩) := res.cell (i := 11) (by omega)
 have v11 := res.frozen 11
 have s0 : w4.cell? ⟨fb, 0, none⟩ = some (.int .i64 0) := flt.cell (i := 0) (by omega)
 have s1 : w4.cell? ⟨fb, 1, none⟩ = some (.int .i64 0) := flt.cell (i := 1) (by omega)
 have x0 := flt.frozen 0; have x1 := flt.frozen 1
 have lrr : LtW rb w4 := res.lt
 have lrf : LtW fb w4 := flt.lt
 have k1 : ¬ (rb = ob) := by omega
 have k2 : ¬ (ob = rb) := by omega
 have k3 : ¬ (fb = ob) := by omega
 have k4 : ¬ (ob = fb) := by omega
 have k5 : ¬ (rb = fb) := hrf
 have k6 : ¬ (fb = rb) := fun e => hrf e.symm
 have HRB5 : Hid (rb < BB ∧ fb < BB ∧ ob < BB) := Lib.hid ⟨hrB, hfB, hlt'⟩
 have HWO : Hid (w.heap.size ≤ ob) := HLE
 clear res flt hbw HMX ne1 ne2 hrbo hfbo hrf hlen hrB hfB hlt' q0 q1 q2 lq
 go_wp2
 refine bodyPost_ret (v := .tuple #[.agg #[.string kn, .int .i64 dl, .slice A1 Wd c1, .int .i64 e, .int .i64 q, .slice A8 (e * q) c8, .slice A2 Hh c2, .bool (((n6 : Nat) : Int) == 0), .slice A6 n6 c6, .int .i64 dn, .int .i64 al, .string cd], .agg #[.int .i64 0, .int .i64 0]]) (by simp [results, Tryz.results5, go_sem, r0, r1, r2, r3, r4, r5, r6, r7, r8, r9, r10, r11, s0, s1, lrr, lrf, k5, k6, k1, k2, k3, k4]) rfl ?_
 refine ⟨A1, c1, A2, c2, A8, c8, A6, c6, rfl, U1.out.hi ?_, U2.out.hi ?_, U5.out.hi ?_, U6.out.hi ?_, ?_⟩
 ·repeat (first | with_reducible exact Hi.refl _ _ | with_reducible refine Hi.set ?_ HRB5.out.1 _ _ | with_reducible refine Hi.set ?_ HRB5.out.2.1 _ _ | with_reducible refine Hi.set ?_ HRB5.out.2.2 _ _)
 ·repeat (first | with_reducible exact Hi.refl _ _ | with_reducible refine Hi.set ?_ HRB5.out.1 _ _ | with_reducible refine Hi.set ?_ HRB5.out.2.1 _ _ | with_reducible refine Hi.set ?_ HRB5.out.2.2 _ _)
 ·repeat (first | with_reducible exact Hi.refl _ _ | with_reducible refine Hi.set ?_ HRB5.out.1 _ _ | with_reducible refine Hi.set ?_ HRB5.out.2.1 _ _ | with_reducible refine Hi.set ?_ HRB5.out.2.2 _ _)
 ·repeat (first | with_reducible exact Hi.refl _ _ | with_reducible refine Hi.set ?_ HRB5.out.1 _ _ | with_reducible refine Hi.set ?_ HRB5.out.2.1 _ _ | with_reducible refine Hi.set ?_ HRB5.out.2.2 _ _)
 ·repeat (first | with_reducible refine Below.setCell ?_ HWB.out.1 _ | with_reducible refine Below.setCell ?_ HWB.out.2 _ | with_reducible refine Below.setCell ?_ HWO.out _)
  exact HBW6.out
end
section
open Go.RowKit
open Lo
end
section
open Go.RowKit
open Lo
end
section
open Go.RowKit
open Lo
end
section
open Go.RowKit
open Lo
end
section
open Go.RowKit
open Lo
end
section
open Go.RowKit
open Lo
theorem same_selfI (W H : Int) (n : Nat) (bs : List Bool) (a1 a2 : Option Addr) (c1 c2 : Nat) (w : World) (h1 : OkT w a1 n c1 bs) (h2 : OkT w a2 n c2 bs) :
  Calls Tryz.prog 62 #[.agg #[.int .i64 (W), .int .i64 (H), .slice a1 n c1], .agg #[.int .i64 (W), .int .i64 (H), .slice a2 n c2]] w fun e w' => e = .returned (.bool true) ∧ Below w.heap.size w w' := by
 have := Same_any W H a1 n c1 bs W H a2 n c2 bs w h1.bits h2.bits (Nat.le_trans h1.cap h1.lim) (Nat.le_trans h1.cap h1.lim)
 rwa [decide_eq_true (p := (W = W ∧ H = H ∧ bs = bs)) ⟨rfl, rfl, rfl⟩] at this
theorem numbers_self (a1 a2 : Option Addr) (n c1 c2 : Nat) (l : List Int) (w : World) (h1 : IsInts w a1 n l) (h2 : IsInts w a2 n l) (hn : n ≤ 9223372036854775807) :
  Calls Tryz.prog 24 #[.slice a1 n c1, .slice a2 n c2] w fun e w' => e = .returned (.bool true) ∧ Below w.heap.size w w' := by
 have := SameNumbers_any a1 n c1 l a2 n c2 l w h1 h2 hn hn
 rwa [decide_eq_true (p := (l = l)) rfl] at this
set_option maxRecDepth 100000 in
set_option maxHeartbeats 8000000 in
theorem dSame_self (n1 n2 n5 : Nat) (X Y : Int) (l1 l2 : List Int) (l5 : List Bool) (A1 A2 A5 : Option Addr) (c1 c2 c5 : Nat) (B1 B2 B5 : Option Addr) (d1 d2 d5 : Nat) (w : World) (h1 : IsInts w A1 n1 l1) (h2 : IsInts w A2 n2 l2) (h5 : OkT w A5 n5 c5 l5) (g1 : IsInts w B1 n1 l1) (g2 : IsInts w B2 n2 l2) (g5 : OkT w B5 n5 d5 l5) (m1 : n1 ≤ 9223372036854775807) (m2 : n2 ≤ 9223372036854775807) :
  Calls Tryz.prog 23 #[.agg #[.slice A1 n1 c1, .int .i64 (X), .int .i64 (Y), .slice A5 n5 c5, .slice A2 n2 c2], .agg #[.slice B1 n1 d1, .int .i64 (X), .int .i64 (Y), .slice B5 n5 d5, .slice B2 n2 d2]] w fun e w' => e = .returned (.bool true) ∧ Below w.heap.size w w' := by
 have K1 := Lib.hid (fun w x y => numbers_self A1 B1 n1 c1 d1 l1 w x y m1)
 have K2 := Lib.hid (fun w x y => numbers_self A2 B2 n2 c2 d2 l2 w x y m2)
 have K5 := Lib.hid (fun w x y => same_selfI X Y n5 l5 A5 B5 c5 d5 w x y)
 have H1 := Lib.hid h1; have H2 := Lib.hid h2; have H5 := Lib.hid h5; have G1 := Lib.hid g1; have G2 := Lib.hid g2; have G5 := Lib.hid g5
 clear h1 h2 h5 g1 g2 g5 m1 m2
 go_enter Tryz.func23, Tryz.ntmps23
 (go_wp2_with fail; refine (K1.out _ (H1.out.below blw) (G1.out.below blw)).mono ?_; rintro r w1 ⟨rfl, hb⟩; obtain ⟨E, d, rfl⟩ := bExt hb; clear hb)
 (go_wp2_with fail; refine (K2.out _ (H2.out.below blw) (G2.out.below blw)).mono ?_; rintro r w1 ⟨rfl, hb⟩; obtain ⟨E, d, rfl⟩ := bExt hb; clear hb)
 (go_wp2_with fail; refine (K5.out _ (H5.out.below blw) (G5.out.below blw)).mono ?_; rintro r w1 ⟨rfl, hb⟩; obtain ⟨E, d, rfl⟩ := bExt hb; clear hb)
 go_wp2
 go_ret
 exact ⟨rfl, blw⟩
end
section
open Go.RowKit
open Cl Lo
open By (readS)
theorem make_both (s : ByteArray) (hs : s.size ≤ 9223372036854775807) : ∃ (k : ByteArray) (p : Int) (n1 n2 n5 n6 : Nat) (X Y : Int) (l1 l2 : List Int) (l5 : List Bool) (l6 : List Int) (hg : Bool) (dn al : Int) (cd : ByteArray) (fe fp : Int),
  n1 ≤ 9223372036854775807 ∧ n2 ≤ 9223372036854775807 ∧ n6 ≤ 9223372036854775807 ∧
  (∀ w, Tabs w → Calls Tryz.prog 4 #[.string s] w (MkU k p n1 n2 n5 n6 X Y l1 l2 l5 l6 hg dn al cd fe fp w)) ∧
  (∀ w, Calls Tryz.prog 5 #[.string s] w (MkU k p n1 n2 n5 n6 X Y l1 l2 l5 l6 hg dn al cd fe fp w)) := by
 obtain ⟨res, hres⟩ : ∃ res, readS (By.bytesOf s) = res := ⟨_, rfl⟩
 obtain ⟨G, R⟩ := res
 cases R with
 | bad e p => exact ⟨_, _, _, _, _, _, _, _, _, _, _, _, _, _, _, _, _, _, by omega, by omega, by omega, fun w hT => hMake_rbad s G e p w hT hs hres, fun w => rMake_rbad s G e p w hs hres⟩
 | ok rows =>
  by_cases hm : 24 < Z.torN (rows.headD []).length rows.length
  ·exact ⟨_, _, _, _, _, _, _, _, _, _, _, _, _, _, _, _, _, _, by omega, by omega, by omega, fun w hT => hMake_much s G rows w hT hs hres hm, fun w => rMake_much s G rows w hs hres hm⟩
  ·have hC := read_okH (By.bytesOf_lt s) hres
   obtain ⟨k, k1, k17, HK1, HK2⟩ := kind_bothH G _ _ _ _ hC (by omega)
   obtain ⟨kn, HN1, HN2⟩ := name_bothH k k1 k17
   have hw2 := hC.w2; have hh2 := hC.h2
   have hl : (lift ((rows.headD []).length + rows.length) (abM (rows.headD []).length rows.length (rsB (natI rows.reverse.flatten)))).length ≤ 128 := by
    rcases lift_cases ((rows.headD []).length + rows.length) (abM (rows.headD []).length rows.length (rsB (natI rows.reverse.flatten))) with ⟨h, _⟩ | ⟨s, _, _, h⟩
    ·rw [h]; simp
    ·rw [h]; have := cnt_le ((rows.headD []).length + rows.length) (fun a => wp (abM (rows.headD []).length rows.length (rsB (natI rows.reverse.flatten))) ((rows.headD []).length + rows.length) a s); unfold Cl.cnt at this; omega
   exact ⟨_, _, _, _, _, _, _, _, _, _, _, _, _, _, _, _, _, _, by omega, by omega, by omega,
    fun w hT => hMake_ok s G rows w hT hs hres _ _ _ _ _ rfl rfl rfl rfl rfl (by omega) k kn _ _ _ _ _ _ _ _ _ _ _ (Lib.hid HK1) (Lib.hid HN1) rfl rfl rfl rfl rfl rfl rfl rfl rfl rfl rfl,
    fun w => rMake_ok s G rows w hs hres _ _ _ _ _ rfl rfl rfl rfl rfl (by omega) k kn _ _ _ _ _ _ _ _ _ _ _ (Lib.hid HK2) (Lib.hid HN2) rfl rfl rfl rfl rfl rfl rfl rfl rfl rfl rfl⟩
set_option maxRecDepth 100000 in
set_option maxHeartbeats 8000000 in
theorem mSame_self (k : ByteArray) (p : Int) (n1 n2 n5 n6 : Nat) (X Y : Int) (l1 l2 : List Int) (l5 : List Bool) (l6 : List Int) (hg : Bool) (dn al : Int) (cd : ByteArray) (A1 A2 A5 A6 B1 B2 B5 B6 : Option Addr) (c1 c2 c5 c6 d1 d2 d5 d6 : Nat) (w : World)
  (i1 : IsInts w A1 n1 l1) (i2 : IsInts w A2 n2 l2) (i5 : OkT w A5 n5 c5 l5) (i6 : IsInts w A6 n6 l6) (j1 : IsInts w B1 n1 l1) (j2 : IsInts w B2 n2 l2) (j5 : OkT w B5 n5 d5 l5) (j6 : IsInts w B6 n6 l6) (m1 : n1 ≤ 9223372036854775807) (m2 : n2 ≤ 9223372036854775807) (m6 : n6 ≤ 9223372036854775807) :
  Calls Tryz.prog 6 #[.agg #[.string k, .int .i64 p, .slice A1 n1 c1, .int .i64 X, .int .i64 Y, .slice A5 n5 c5, .slice A2 n2 c2, .bool hg, .slice A6 n6 c6, .int .i64 dn, .int .i64 al, .string cd], .agg #[.string k, .int .i64 p, .slice B1 n1 d1, .int .i64 X, .int .i64 Y, .slice B5 n5 d5, .slice B2 n2 d2, .bool hg, .slice B6 n6 d6, .int .i64 dn, .int .i64 al, .string cd]] w fun r w' => r = .returned (.bool true) ∧ Below w.heap.size w w' := by
 have I1 := Lib.hid i1; have I2 := Lib.hid i2; have I5 := Lib.hid i5; have I6 := Lib.hid i6
 have J1 := Lib.hid j1; have J2 := Lib.hid j2; have J5 := Lib.hid j5; have J6 := Lib.hid j6
 have e1 : (p == p) = true := by simp
 have e2 : (dn == dn) = true := by simp
 have e3 : (al == al) = true := by simp
 have e4 : (hg == hg) = true := by simp
 clear i1 i2 i5 i6 j1 j2 j5 j6
 go_enter Tryz.func6, Tryz.ntmps6
 (go_wp2_with fail; refine (dSame_self n1 n2 n5 X Y l1 l2 l5 A1 A2 A5 c1 c2 c5 B1 B2 B5 d1 d2 d5 _ (I1.out.below blw) (I2.out.below blw) (I5.out.below blw) (J1.out.below blw) (J2.out.below blw) (J5.out.below blw) m1 m2).mono ?_; rintro r w1 ⟨rfl, hb⟩; obtain ⟨E, d, rfl⟩ := bExt hb; clear hb)
 go_wp2_with fail
 refine (SameNumbers_any A6 n6 c6 l6 B6 n6 d6 l6 _ (I6.out.below blw) (J6.out.below blw) m6 m6).mono ?_
 rw [decide_eq_true (p := l6 = l6) rfl]
 rintro r w1 ⟨rfl, hb⟩
 obtain ⟨E2, d2', rfl⟩ := bExt hb
 clear hb
 go_wp2
 go_ret
 exact ⟨rfl, blw⟩
set_option maxRecDepth 100000 in
set_option maxHeartbeats 8000000 in
theorem makes_walk (s : ByteArray) (w : World) (hs : s.size ≤ 9223372036854775807) (hT : Tabs w) :
  Calls Tryz.prog 3 #[.string s] w fun r w' => r = .returned (.bool true) ∧ Below w.heap.size w w' := by
 obtain ⟨k, p, n1, n2, n5, n6, X, Y, l1, l2, l5, l6, hg, dn, al, cd, fe, fp, m1, m2, m6, K1, K2⟩ := make_both s hs
 unfold MkU at K1 K2
 have K1 := Lib.hid K1; have K2 := Lib.hid K2
 have HT := Lib.hid hT
 have e1 : (fe == fe) = true := by simp
 have e2 : (fp == fp) = true := by simp
 clear hT hs
 go_enter Tryz.func3, Tryz.ntmps3
 go_wp2_with fail
 refine (K1.out _ (HT.out.below blw)).mono ?_
 rintro r w1 ⟨A1, c1, A2, c2, A5, c5, A6, c6, rfl, i1, i2, i5, i6, hb⟩
 have HB1 : Hid (Below w.heap.size w w1) := Lib.hid (Below.trans blw (hb.mono bnd))
 have I1 := Lib.hid i1; have I2 := Lib.hid i2; have I5 := Lib.hid i5; have I6 := Lib.hid i6
 clear i1 i2 i5 i6 hb HT K1
 go_wp2_with fail
 refine (K2.out _).mono ?_
 rintro r w2 ⟨B1, d1, B2, d2, B5, d5, B6, d6, rfl, j1, j2, j5, j6, hb⟩
 obtain ⟨E, d, rfl⟩ := bExt hb
 have J1 := Lib.hid j1; have J2 := Lib.hid j2; have J5 := Lib.hid j5; have J6 := Lib.hid j6
 clear j1 j2 j5 j6 hb K2
 go_wp2_with fail
 refine (mSame_self k p n1 n2 n5 n6 X Y l1 l2 l5 l6 hg dn al cd A1 A2 A5 A6 B1 B2 B5 B6 c1 c2 c5 c6 d1 d2 d5 d6 _ (I1.out.below blw) (I2.out.below blw) (I5.out.below blw) (I6.out.below blw) (J1.out.below blw) (J2.out.below blw) (J5.out.below blw) (J6.out.below blw) m1 m2 m6).mono ?_
 rintro r w3 ⟨rfl, hb⟩
 obtain ⟨E2, d2', rfl⟩ := bExt hb
 clear hb
 go_wp2
 go_ret
 have hb9 := HB1.out
 have hz := hb9.size
 refine ⟨rfl, ?_⟩
 repeat (first | exact hb9 | with_reducible refine bExtW ?_ (by first | exact hz | (simp only [size_extW, World.size_alloc]; omega)) | with_reducible refine Below.alloc ?_ (by first | exact hz | (simp only [size_extW, World.size_alloc]; omega)) _)
end
section
open Go.ChangeShapes Go.WideShapes Go.ChangeAt Go.RowKit Go.Joins
open Go.ChangeMaps (open_string shut_string)
set_option maxRecDepth 100000
section
variable {H : Type} {enc : TypeId × Value → H} {W : World} {base b0 : Nat} {spare : Addr → Bool} {held : Bool} {v : Value} {d : DataW H} {p : List MemPlace}
end
end
end Go.Proofs.YtajdoobkfbdgoaaGreatDoor
