/- Lemmas on which the law of this seat rests; each states its own conditions. -/
import Derived.Test.YtajdoobkfbdgoaaGreatDoorB32
import Derived.Test.YtajdoobkfbdgoaaGreatDoorB07
import Derived.Test.YtajdoobkfbdgoaaGreatDoorB27
set_option linter.unusedVariables false
set_option linter.unusedSimpArgs false
namespace Go.Proofs.YtajdoobkfbdgoaaGreatDoor
section
open Go.RowKit
open Cl Lo
open By (readS)
set_option maxRecDepth 100000 in
set_option maxHeartbeats 8000000 in
theorem hMake_ok (s : ByteArray) (G : Nat) (rows : List (List Nat)) (w : World) (hT : Tabs w) (hs : s.size ≤ 9223372036854775807) (hr : readS (By.bytesOf s) = (G, .ok rows)) (Wd Hh n N : Nat) (cs : List Int) (hWd : (rows.headD []).length = Wd) (hHh : rows.length = Hh) (hn : rows.reverse.flatten.length = n) (hcs : natI rows.reverse.flatten = cs) (hm : Z.torN Wd Hh = N) (h24 : N ≤ 24)
  (k : Int) (kn : ByteArray) (dl : Nat) (l1 l2 l6 : List Int) (l5 : List Bool) (e q n6 : Nat) (dn al : Int) (cd : ByteArray)
  (HK : Hid (∀ a c w, IsInts w a n cs → Calls Tryz.prog 8 #[.agg #[.int .i64 (G), .int .i64 (Wd), .int .i64 (Hh), .slice a n c]] w fun r w' => r = .returned (.tuple #[.int .i64 (k), .int .i64 (0)]) ∧ Below w.heap.size w w'))
  (HN : Hid (∀ w, Calls Tryz.prog 9 #[.int .i64 (k)] w fun r w' => r = .returned (.tuple #[.string kn, .int .i64 (0)]) ∧ Below w.heap.size w w'))
  (hdl : (firstsP G N (Z.movesL Wd Hh cs G N) (N * N)).length = dl)
  (h1 : (ends Wd Hh (rsB cs)).length = e) (h2 : (picks Wd Hh (rsB cs)).length = q) (h3 : natI (thL Wd Hh (rsB cs)) = l1) (h4 : natI (trL Wd Hh (rsB cs)) = l2) (h5 : tieL Wd Hh (rsB cs) = l5) (h6 : natI (lift (Wd+Hh) (abM Wd Hh (rsB cs))) = l6) (h6n : (lift (Wd+Hh) (abM Wd Hh (rsB cs))).length = n6)
  (h7 : longV true Hh Wd (turnL Wd Hh (rsB cs)) = dn) (h8 : longV false Wd Hh (rsB cs) = al) (h9 : strOf (deckL Wd Hh (rsB cs)) = cd) :
  Calls Tryz.prog 4 #[.string s] w (MkU kn dl Wd Hh (e * q) n6 e q l1 l2 l5 l6 (((n6 : Nat) : Int) == 0) dn al cd 0 0 w) := by
 have hC := read_okH (By.bytesOf_lt s) hr
 have HR := Lib.hid (fun w h => chRead_any s w hs h)
 rw [hr] at HR
 have HT := Lib.hid hT
 unfold RdPost at HR
 simp only at HR
 rw [hWd, hHh, hn, hcs] at HR hC
 have hW1 := hC.w1; have hW2 := hC.w2; have hH1 := hC.h1; have hH2 := hC.h2
 have hnn := hC.hn
 have hn4 := hC.n4
 have hn0 : 0 < n := by rw [hnn]; exact Nat.mul_pos hW1 hH1
 have h0 := hC.tpos
 rw [hm] at h0
 have hmf := moves_facts (cs := cs) hC hm h24 h0
 have HD := Lib.hid (fun a c w hI => Domain_ok G Wd Hh n N a c cs w hI hC hm h24 h0 hmf.2.2.2)
 unfold PtPost at HD
 have hlr : (rsB cs).length = n := by unfold rsB; rw [List.length_map, ← hcs, ← hn]; unfold natI; rw [List.length_map]
 have HRA := Lib.hid (fun a c w (hI : IsInts w a n cs) => raised_ok G Wd Hh a n c cs w hI hn4 (fun j hj => by
  have hjl : j < cs.length := by rw [hI.1]; exact hj
  rw [List.getD_eq_getElem?_getD, List.getElem?_eq_getElem hjl]
  exact (hC.cr _ (List.getElem_mem hjl)).1))
 unfold RsPost at HRA
 rw [hlr] at HRA
 clear hlr
 have HWV := Lib.hid (fun a c ob k p w hT hR hoff => weave_ok Wd Hh n a c (rsB cs) ob k p w hT hW2 hH2 hW1 hH1 hnn hR hoff)
 unfold WvPost at HWV
 rw [hdl] at HD
 rw [h1, h2, h3, h4, h5, h6, h7, h8, h9, h6n] at HWV
 generalize rsB cs = bs at *
 clear hT hs hr hC hm hmf hdl h1 h2 h3 h4 h5 h6 h6n h7 h8 h9 hnn hWd hHh hn hcs
 go_enter Tryz.func4, Tryz.ntmps4
 go_wp2_with fail
 refine (HR.out _ (HT.out.below blw)).mono ?_
 rintro r w1 ⟨⟨A, C, rfl, hI⟩, hb⟩
 have hlen := hI.1
 have HB1 : Hid (Below w.heap.size w w1) := Lib.hid (Below.trans blw (hb.mono bnd))
 have res : w1.rowIs w.heap.size 29 12 mZ := rowBelow (rowBelow (mZ_alloc w) ((Below.refl _ _).alloc (Nat.le_refl _) _) (by simp)) hb (by simp; omega)
 have flt : w1.rowIs (w.heap.size + 1) 32 2 fZ := by
  have := fZ_alloc (w.alloc (.cells #[.string ⟨#[]⟩, .int .i64 0, .slice none 0 0, .int .i64 0, .int .i64 0, .slice none 0 0, .slice none 0 0, .bool false, .slice none 0 0, .int .i64 0, .int .i64 0, .string ⟨#[]⟩] 29))
  rw [World.size_alloc] at this
  exact rowBelow this hb (by simp)
 have hsz := hb.size
 simp only [World.size_alloc] at hsz
 have HI1 := Lib.hid hI
 have RES := Lib.hid res
 have FLT := Lib.hid flt
 clear hI hb res flt HT HR
 obtain ⟨rb, hrb⟩ : ∃ rb, rb = w.heap.size := ⟨_, rfl⟩
 obtain ⟨fb, hfb⟩ : ∃ fb, fb = w.heap.size + 1 := ⟨_, rfl⟩
 rw [← hrb] at RES FLT hfb ⊢
 rw [← hfb] at FLT ⊢
 have HRB := Lib.hid hrb
 have HFB := Lib.hid hfb
 clear hrb hfb
 go_wp2_with fail
 refine (HK.out _ _ _ (HI1.out.below blw)).mono ?_
 rintro r w2 ⟨rfl, hb⟩
 have hb2 : Below w1.heap.size w1 w2 := Below.trans ((Below.alloc (Below.alloc (Below.refl _ _) (Nat.le_refl _) _) (by simp) _)) (hb.mono (by simp; omega))
 have cht : w2.rowIs w1.heap.size 38 4 (chM G Wd Hh (.slice A n C)) := rowBelow (rowBelow (chM_alloc w1 G Wd Hh A n C) ((Below.refl _ _).alloc (Nat.le_refl _) _) (by simp)) hb (by simp; omega)
 have CHT := Lib.hid cht
 have HB2 := Lib.hid hb2
 have hsz2 := hb.size
 simp only [World.size_alloc] at hsz2
 clear hb cht hb2
 obtain ⟨cb, hcb⟩ : ∃ cb, cb = w1.heap.size := ⟨_, rfl⟩
 rw [← hcb] at CHT ⊢
 have HCB := Lib.hid hcb
 clear hcb
 go_wp2_with fail
 refine (HN.out _).mono ?_
 rintro r w3 ⟨rfl, hb⟩
 have HX : Hid (HMk w2.heap.size rb fb cb mZ G Wd Hh A n C cs w w3) := Lib.hid (by
  have a2 : Below w2.heap.size w2 (w2.alloc (.cells #[.string ⟨#[]⟩, .int .i64 0, .slice none 0 0, .int .i64 0, .int .i64 0, .slice none 0 0, .slice none 0 0, .bool false, .slice none 0 0, .int .i64 0, .int .i64 0, .string ⟨#[]⟩] 29)) := (Below.refl _ _).alloc (Nat.le_refl _) _
  have b2 := HB2.out
  have z := HB2.out.size
  have hrb := HRB.out; have hfb := HFB.out; have hcb := HCB.out
  have l1 := RES.out.lt
  have l2 := FLT.out.lt
  have l3 := CHT.out.lt
  have hbb : Below w2.heap.size w2 w3 := a2.trans (hb.mono (by simp))
  refine ⟨rowBelow (mZ_alloc w2) hb (by simp), rowBelow (rowBelow RES.out b2 l1) hbb (by omega), rowBelow (rowBelow FLT.out b2 l2) hbb (by omega), rowBelow CHT.out hbb l3, (HI1.out.below b2).below hbb, by omega, by omega, by omega, fun b o eb => ?_, ?_, ?_⟩
  ·obtain ⟨b', o', e1, e2, _⟩ := HI1.out.2 hn0
   rw [e1] at eb
   injection eb with eb
   injection eb with eb
   omega
  ·exact (HB1.out.trans (b2.mono HB1.out.size)).trans (hbb.mono (Nat.le_trans HB1.out.size z))
  ·have := HB1.out.size; omega)
 obtain ⟨ob, hob⟩ : ∃ ob, ob = w2.heap.size := ⟨_, rfl⟩
 rw [← hob] at HX ⊢
 have hrbo : rb < ob := by have := RES.out.lt; have := HB2.out.size; omega
 have hfbo : fb < ob := by have := FLT.out.lt; have := HB2.out.size; omega
 have hrf : rb ≠ fb := by have := HFB.out; omega
 have HWB : Hid (w.heap.size ≤ rb ∧ w.heap.size ≤ fb) := Lib.hid (by have := HRB.out; have := HFB.out; omega)
 clear hb HB2 HB1 HI1 RES FLT CHT hsz hsz2 HK HN hob HCB HRB HFB
 have t0 : w3.cell? ⟨cb, 0, none⟩ = some (.int .i64 (G)) := HX.out.cht.cell (i := 0) (by omega)
 have t1 : w3.cell? ⟨cb, 1, none⟩ = some (.int .i64 (Wd)) := HX.out.cht.cell (i := 1) (by omega)
 have t2 : w3.cell? ⟨cb, 2, none⟩ = some (.int .i64 (Hh)) := HX.out.cht.cell (i := 2) (by omega)
 have t3 : w3.cell? ⟨cb, 3, none⟩ = some (.slice A n C) := HX.out.cht.cell (i := 3) (by omega)
 have lt : LtW cb w3 := HX.out.cht.lt
 have lo : LtW ob w3 := HX.out.row.lt
 have o0 : w3.cell? ⟨ob, 0, none⟩ = some (.string ⟨#[]⟩) := HX.out.row.cell (i := 0) (by omega)
 have g0 := HX.out.row.frozen 0
 have ne1 : ¬ (ob = cb) := fun e => HX.out.n3 e.symm
 have ne2 : ¬ (cb = ob) := HX.out.n3
 go_wp2_with fail
 have HX2 := Lib.hid (HX.out.set 0 (.string kn))
 refine (HD.out _ _ _ HX2.out.ints).mono ?_
 rintro r w4 ⟨⟨A4, C4, rfl, _⟩, hb⟩
 have HX3 := Lib.hid (HX2.out.call hb)
 clear t0 t1 t2 t3 lt lo o0 g0 HX HX2 hb HD
 have HX := HX3
 clear HX3
 have t0 : w4.cell? ⟨cb, 0, none⟩ = some (.int .i64 (G)) := HX.out.cht.cell (i := 0) (by omega)
 have t1 : w4.cell? ⟨cb, 1, none⟩ = some (.int .i64 (Wd)) := HX.out.cht.cell (i := 1) (by omega)
 have t2 : w4.cell? ⟨cb, 2, none⟩ = some (.int .i64 (Hh)) := HX.out.cht.cell (i := 2) (by omega)
 have t3 : w4.cell? ⟨cb, 3, none⟩ = some (.slice A n C) := HX.out.cht.cell (i := 3) (by omega)
 have lt : LtW cb w4 := HX.out.cht.lt
 have lo : LtW ob w4 := HX.out.row.lt
 have o1 : w4.cell? ⟨ob, 1, none⟩ = some (.int .i64 (0)) := HX.out.row.cell (i := 1) (by omega)
 have g1 := HX.out.row.frozen 1
 go_wp2_with fail
 have HX2 := Lib.hid (HX.out.set 1 (.int .i64 (dl)))
 refine (HRA.out _ _ _ HX2.out.ints).mono ?_
 rintro r w5 ⟨A5, C5, rfl, hT5, hb, hf5⟩
 have HX3 := Lib.hid ((HX2.out.call hb).congr (f' := mF (.string kn) (.int .i64 (dl)) (.slice none 0 0) (.int .i64 (0)) (.int .i64 (0)) (.slice none 0 0) (.slice none 0 0) (.bool false) (.slice none 0 0) (.int .i64 (0)) (.int .i64 (0)) (.string ⟨#[]⟩)) (fun j hj => by
 have h12 : j = 0 ∨ j = 1 ∨ j = 2 ∨ j = 3 ∨ j = 4 ∨ j = 5 ∨ j = 6 ∨ j = 7 ∨ j = 8 ∨ j = 9 ∨ j = 10 ∨ j = 11 := by omega
 rcases h12 with rfl | rfl | rfl | rfl | rfl | rfl | rfl | rfl | rfl | rfl | rfl | rfl <;> rfl))
 have hlt5 := HX2.out.row.lt
 have hoff : ∀ b o, A5 = some ⟨b, o, none⟩ → b ≠ ob := fun b o eb => by have := hf5 b o eb; omega
 have HT5 := Lib.hid hT5
 have HOF := Lib.hid hoff
 clear t0 t1 t2 t3 lt lo o1 g1 HX HX2 hb hT5 hf5 hoff hlt5 HRA
 have HX := HX3
 clear HX3
 go_wp2_with fail
 refine (HWV.out A5 C5 ob _ _ w5 HT5.out HX.out.row HOF.out).mono ?_
 rintro r w6 ⟨rfl, A1, c1, A2, c2, A6, c6, A7, c7, hrow, V1, V2, V5, V6, hx⟩
 have hlo := HX.out.row.lt
 have res := hx.rowIs HX.out.res (by omega) (by omega)
 have flt := hx.rowIs HX.out.flt (by omega) (by omega)
 have hbw : Below w.heap.size w w6 := HX.out.bel.trans (hx.below rfl HX.out.le hlo)
 have HBW6 := Lib.hid hbw
 have V1 := Lib.hid V1; have V2 := Lib.hid V2; have V5 := Lib.hid V5; have V6 := Lib.hid V6
 have HRB5 : Hid (rb < w5.heap.size ∧ fb < w5.heap.size) := Lib.hid (by omega)
 have m0 : w6.cell? ⟨ob, 0, none⟩ = some (Value.string kn) := hrow.cell (i := 0) (by omega)
 have m1 : w6.cell? ⟨ob, 1, none⟩ = some (Value.int .i64 (dl : Int)) := hrow.cell (i := 1) (by omega)
 have m2 : w6.cell? ⟨ob, 2, none⟩ = some (.slice A1 Wd c1) := hrow.cell (i := 2) (by omega)
 have m3 : w6.cell? ⟨ob, 3, none⟩ = some (Value.int .i64 (e : Int)) := hrow.cell (i := 3) (by omega)
 have m4 : w6.cell? ⟨ob, 4, none⟩ = some (Value.int .i64 (q : Int)) := hrow.cell (i := 4) (by omega)
 have m5 : w6.cell? ⟨ob, 5, none⟩ = some (.slice A6 (e * q) c6) := hrow.cell (i := 5) (by omega)
 have m6 : w6.cell? ⟨ob, 6, none⟩ = some (.slice A2 Hh c2) := hrow.cell (i := 6) (by omega)
 have m7 : w6.cell? ⟨ob, 7, none⟩ = some (.bool (((n6 : Nat) : Int) == 0)) := hrow.cell (i := 7) (by omega)
 have m8 : w6.cell? ⟨ob, 8, none⟩ = some (.slice A7 n6 c7) := hrow.cell (i := 8) (by omega)
 have m9 : w6.cell? ⟨ob, 9, none⟩ = some (Value.int .i64 dn) := hrow.cell (i := 9) (by omega)
 have m10 : w6.cell? ⟨ob, 10, none⟩ = some (Value.int .i64 al) := hrow.cell (i := 10) (by omega)
 have m11 : w6.cell? ⟨ob, 11, none⟩ = some (.string cd) := hrow.cell (i := 11) (by omega)
 have q0 : w6.cell? ⟨rb, 0, none⟩ = some (Value.string ⟨#[]⟩) := res.cell (i := 0) (by omega)
 have v0 := res.frozen 0
 have q1 : w6.cell? ⟨rb, 1, none⟩ = some (Value.int .i64 0) := res.cell (i := 1) (by omega)
 have v1 := res.frozen 1
 have q2 : w6.cell? ⟨rb, 2, none⟩ = some (.slice none 0 0) := res.cell (i := 2) (by omega)
 have v2 := res.frozen 2
 have q3 : w6.cell? ⟨rb, 3, none⟩ = some (Value.int .i64 0) := res.cell (i := 3) (by omega)
 have v3 := res.frozen 3
 have q4 : w6.cell? ⟨rb, 4, none⟩ = some (Value.int .i64 0) := res.cell (i := 4) (by omega)
 have v4 := res.frozen 4
 have q5 : w6.cell? ⟨rb, 5, none⟩ = some (.slice none 0 0) := res.cell (i := 5) (by omega)
 have v5 := res.frozen 5
 have q6 : w6.cell? ⟨rb, 6, none⟩ = some (.slice none 0 0) := res.cell (i := 6) (by omega)
 have v6 := res.frozen 6
 have q7 : w6.cell? ⟨rb, 7, none⟩ = some (.bool false) := res.cell (i := 7) (by omega)
 have v7 := res.frozen 7
 have q8 : w6.cell? ⟨rb, 8, none⟩ = some (.slice none 0 0) := res.cell (i := 8) (by omega)
 have v8 := res.frozen 8
 have q9 : w6.cell? ⟨rb, 9, none⟩ = some (Value.int .i64 0) := res.cell (i := 9) (by omega)
 have v9 := res.frozen 9
 have q10 : w6.cell? ⟨rb, 10, none⟩ = some (Value.int .i64 0) := res.cell (i := 10) (by omega)
 have v10 := res.frozen 10
 have q11 : w6.cell? ⟨rb, 11, none⟩ = some (.string ⟨#[]⟩) := res.cell (i := 11) (by omega)
 have v11 := res.frozen 11
 have u0 : w6.cell? ⟨fb, 0, none⟩ = some (.int .i64 0) := flt.cell (i := 0) (by omega)
 have u1 : w6.cell? ⟨fb, 1, none⟩ = some (.int .i64 0) := flt.cell (i := 1) (by omega)
 have x0 := flt.frozen 0; have x1 := flt.frozen 1
 have lro : LtW ob w6 := hrow.lt
 have lrr : LtW rb w6 := res.lt
 have lrf : LtW fb w6 := flt.lt
 have k1 : ¬ (rb = ob) := by omega
 have k2 : ¬ (ob = rb) := by omega
 have k3 : ¬ (fb = ob) := by omega
 have k4 : ¬ (ob = fb) := by omega
 have k5 : ¬ (rb = fb) := hrf
 have k6 : ¬ (fb = rb) := fun e => hrf e.symm
 clear hrow res flt hx hbw HX HWV HT5 HOF hlo ne1 ne2 hrbo hfbo hrf hlen
 go_wp2
 refine bodyPost_ret (v := .tuple #[.agg #[.string kn, .int .i64 dl, .slice A1 Wd c1, .int .i64 e, .int .i64 q, .slice A6 (e * q) c6, .slice A2 Hh c2, .bool (((n6 : Nat) : Int) == 0), .slice A7 n6 c7, .int .i64 dn, .int .i64 al, .string cd], .agg #[.int .i64 0, .int .i64 0]]) (by simp [results, Tryz.results4, go_sem, q0, q1, q2, q3, q4, q5, q6, q7, q8, q9, q10, q11, u0, u1, lrr, lrf, k5, k6]) rfl ?_
 refine ⟨A1, c1, A2, c2, A6, c6, A7, c7, rfl, V1.out.hi ?_, V2.out.hi ?_, V5.out.hi ?_, V6.out.hi ?_, ?_⟩
 ·repeat (first | with_reducible exact Hi.refl _ _ | with_reducible refine Hi.set ?_ HRB5.out.1 _ _ | with_reducible refine Hi.set ?_ HRB5.out.2 _ _)
 ·repeat (first | with_reducible exact Hi.refl _ _ | with_reducible refine Hi.set ?_ HRB5.out.1 _ _ | with_reducible refine Hi.set ?_ HRB5.out.2 _ _)
 ·repeat (first | with_reducible exact Hi.refl _ _ | with_reducible refine Hi.set ?_ HRB5.out.1 _ _ | with_reducible refine Hi.set ?_ HRB5.out.2 _ _)
 ·repeat (first | with_reducible exact Hi.refl _ _ | with_reducible refine Hi.set ?_ HRB5.out.1 _ _ | with_reducible refine Hi.set ?_ HRB5.out.2 _ _)
 ·repeat (first | with_reducible refine Below.setCell ?_ HWB.out.1 _ | with_reducible refine Below.setCell ?_ HWB.out.2 _)
  exact HBW6.out
end
section
open Go.RowKit
open Cl Lo
open By (readS)
set_option maxRecDepth 100000 in
set_option maxHeartbeats 8000000 in
theorem rMake_rbad (s : ByteArray) (G e p : Nat) (w : World) (hs : s.size ≤ 9223372036854775807) (hr : readS (By.bytesOf s) = (G, .bad e p)) :
  Calls Tryz.prog 5 #[.string s] w (MkU ⟨#[]⟩ 0 0 0 0 0 0 0 [] [] [] [] false 0 0 ⟨#[]⟩ e p w) := by
 have he := readS_bad (By.bytesOf_lt s) hr
 have hb : ((e : Int) != 0) = true := by simp; omega
 have HR := Lib.hid (fun w => r2Read_any s w hs)
 rw [hr] at HR
 unfold RdPost at HR
 simp only at HR
 clear hs hr he
 go_enter Tryz.func5, Tryz.ntmps5
 (go_wp2_with fail; refine (HR.out _).mono ?_; rintro r w1 ⟨rfl, hb⟩; obtain ⟨E, d, rfl⟩ := bExt hb; clear hb)
 go_wp2_with fail
 go_region
 all_goals
  go_wp2
  refine bodyPost_ret (v := .tuple #[.agg #[.string ⟨#[]⟩, .int .i64 0, .slice none 0 0, .int .i64 0, .int .i64 0, .slice none 0 0, .slice none 0 0, .bool false, .slice none 0 0, .int .i64 0, .int .i64 0, .string ⟨#[]⟩], .agg #[.int .i64 e, .int .i64 p]]) (by simp [results, Tryz.results5, go_sem]) rfl (MkU.bad rfl blw)
set_option maxRecDepth 100000 in
set_option maxHeartbeats 8000000 in
theorem rMake_much (s : ByteArray) (G : Nat) (rows : List (List Nat)) (w : World) (hs : s.size ≤ 9223372036854775807) (hr : readS (By.bytesOf s) = (G, .ok rows)) (hm : 24 < Z.torN (rows.headD []).length rows.length) :
  Calls Tryz.prog 5 #[.string s] w (MkU ⟨#[]⟩ 0 0 0 0 0 0 0 [] [] [] [] false 0 0 ⟨#[]⟩ 4 0 w) := by
 have hC := read_okH (By.bytesOf_lt s) hr
 have HR := Lib.hid (fun w => r2Read_any s w hs)
 rw [hr] at HR
 unfold RdPost at HR
 simp only at HR
 generalize (rows.headD []).length = Wd at *
 generalize rows.length = Hh at *
 generalize rows.reverse.flatten.length = n at *
 generalize natI rows.reverse.flatten = cs at *
 have HK := Lib.hid (fun a c w hI => rKind_bad G Wd Hh a n c cs w hI 4 (torBad_muchH (a := a) (c := c) hC hm))
 clear hs hr hC hm
 go_enter Tryz.func5, Tryz.ntmps5
 go_wp2_with fail
 refine (HR.out _).mono ?_
 rintro r w1 ⟨⟨A, C, rfl, hI⟩, hb⟩
 have HB1 : Hid (Below w.heap.size w w1) := Lib.hid (Below.trans blw (hb.mono bnd))
 have HI := Lib.hid hI
 have res : w1.rowIs w.heap.size 29 12 mZ := rowBelow (rowBelow (mZ_alloc w) ((Below.refl _ _).alloc (Nat.le_refl _) _) (by simp)) hb (by simp; omega)
 have flt : w1.rowIs (w.heap.size + 1) 32 2 fZ := by
  have := fZ_alloc (w.alloc (.cells #[.string ⟨#[]⟩, .int .i64 0, .slice none 0 0, .int .i64 0, .int .i64 0, .slice none 0 0, .slice none 0 0, .bool false, .slice none 0 0, .int .i64 0, .int .i64 0, .string ⟨#[]⟩] 29))
  rw [World.size_alloc] at this
  exact rowBelow this hb (by simp)
 have q0 : w1.cell? ⟨w.heap.size, 0, none⟩ = some (.string ⟨#[]⟩) := res.cell (i := 0) (by omega)
 have q1 : w1.cell? ⟨w.heap.size, 1, none⟩ = some (.int .i64 (0)) := res.cell (i := 1) (by omega)
 have q2 : w1.cell? ⟨w.heap.size, 2, none⟩ = some (.slice none 0 0) := res.cell (i := 2) (by omega)
 have q3 : w1.cell? ⟨w.heap.size, 3, none⟩ = some (.int .i64 (0)) := res.cell (i := 3) (by omega)
 have q4 : w1.cell? ⟨w.heap.size, 4, none⟩ = some (.int .i64 (0)) := res.cell (i := 4) (by omega)
 have q5 : w1.cell? ⟨w.heap.size, 5, none⟩ = some (.slice none 0 0) := res.cell (i := 5) (by omega)
 have q6 : w1.cell? ⟨w.heap.size, 6, none⟩ = some (.slice none 0 0) := res.cell (i := 6) (by omega)
 have q7 : w1.cell? ⟨w.heap.size, 7, none⟩ = some (.bool false) := res.cell (i := 7) (by omega)
 have q8 : w1.cell? ⟨w.heap.size, 8, none⟩ = some (.slice none 0 0) := res.cell (i := 8) (by omega)
 have q9 : w1.cell? ⟨w.heap.size, 9, none⟩ = some (.int .i64 (0)) := res.cell (i := 9) (by omega)
 have q10 : w1.cell? ⟨w.heap.size, 10, none⟩ = some (.int .i64 (0)) := res.cell (i := 10) (by omega)
 have q11 : w1.cell? ⟨w.heap.size, 11, none⟩ = some (.string ⟨#[]⟩) := res.cell (i := 11) (by omega)
 have u0 : w1.cell? ⟨w.heap.size + 1, 0, none⟩ = some (.int .i64 (0)) := flt.cell (i := 0) (by omega)
 have u1 : w1.cell? ⟨w.heap.size + 1, 1, none⟩ = some (.int .i64 (0)) := flt.cell (i := 1) (by omega)
 have v0 := res.frozen 0; have v1 := res.frozen 1; have v2 := res.frozen 2; have v3 := res.frozen 3; have v4 := res.frozen 4; have v5 := res.frozen 5; have v6 := res.frozen 6; have v7 := res.frozen 7; have v8 := res.frozen 8; have v9 := res.frozen 9; have v10 := res.frozen 10; have v11 := res.frozen 11
 have x0 := flt.frozen 0; have x1 := flt.frozen 1
 have lr : LtW w.heap.size w1 := res.lt
 have lf : LtW (w.heap.size + 1) w1 := flt.lt
 have hsz := hb.size
 simp at hsz
 clear hI hb res flt
 go_wp2_with fail
 refine (HK.out _ _ _ (HI.out.below blw)).mono ?_
 rintro r w2 ⟨rfl, hb⟩
 obtain ⟨E, d, rfl⟩ := bExt hb
 clear hb
 go_wp2
 refine bodyPost_ret (v := .tuple #[.agg #[.string ⟨#[]⟩, .int .i64 0, .slice none 0 0, .int .i64 0, .int .i64 0, .slice none 0 0, .slice none 0 0, .bool false, .slice none 0 0, .int .i64 0, .int .i64 0, .string ⟨#[]⟩], .agg #[.int .i64 4, .int .i64 0]]) (by simp [results, Tryz.results5, go_sem, lr, lf, q0, q1, q2, q3, q4, q5, q6, q7, q8, q9, q10, q11, u0, u1]) rfl (MkU.bad rfl ?_)
 refine bExtW (Below.alloc (Below.alloc ?_ (by simp; omega) _) (by simp; omega) _) (by simp; omega)
 repeat (with_reducible refine Below.setCell ?_ (by simp only [Nat.le_refl, Nat.le_add_right]) _)
 exact HB1.out
end
section
open Go.RowKit
open Lo
set_option maxRecDepth 100000 in
set_option maxHeartbeats 8000000 in
theorem rRows_ok (W H n : Nat) (hn : n = W * H) (a : Option Addr) (c : Nat) (bs : List Bool) (y z : Nat) (w : World) (hI : IsBools w a n bs) (hW : W ≤ 64) (hH : H ≤ 64) (hy : y < H) (hz : z < H) :
  Calls Tryz.prog 59 #[.agg #[.int .i64 (W), .int .i64 (H), .slice a n c], .int .i64 (y), .int .i64 (z)] w fun e w' => e = .returned (.bool (decide (rowL bs W y = rowL bs W z))) ∧ Below w.heap.size w w' := by
 have hn4 : n ≤ 4096 := by rw [hn]; exact mul64n hW hH
 have HBIT := Lib.hid (fun w y x p h1 h2 h3 (h4 : x ≤ 64) (h5 : y ≤ 64) => rBit_ok W H n a c bs w h1 y x p h2 h3 hn4 (by omega) (by omega) (by omega))
 have HN := Lib.hid hn
 have HI := Lib.hid hI
 clear hI hn
 go_enter Tryz.func59, Tryz.ntmps59
 go_wp2_with fail
 go_loopw [7] (fun i wr => ∃ (x : Nat) (E : Array Obj) (d : Nat), x ≤ W ∧ i = .int .i64 x ∧ (∀ j, j < x → bs.getD (y * W + j) false = bs.getD (z * W + j) false) ∧ wr = extW (w.alloc (.cells #[.int .i64 (W), .int .i64 (H), .slice a n c] 25)) E d) (fun i _ => W - (intOf i).toNat)
 case atStart => exact ⟨0, #[], (w.alloc (.cells #[.int .i64 (W), .int .i64 (H), .slice a n c] 25)).drawn, by omega, rfl, fun j h => absurd h (by omega), extW_zero _⟩
 case round =>
  obtain ⟨x, E, d, hx, rfl, hrun, rfl⟩ := hrel
  have HRUN := Lib.hid hrun
  clear hrun
  by_cases hxW : x < W
  ·obtain ⟨p1, hp1⟩ : ∃ p, y * W + x = p := ⟨_, rfl⟩
   have hlt1 : p1 < n := by rw [HN.out, ← hp1]; exact place_lt' hxW hy
   obtain ⟨p2, hp2⟩ : ∃ p, z * W + x = p := ⟨_, rfl⟩
   have hlt2 : p2 < n := by rw [HN.out, ← hp2]; exact place_lt' hxW hz
   have HB1 := Lib.hid (fun wq h => HBIT.out wq y x p1 h hp1 hlt1 (by omega) (by omega))
   have HB2 := Lib.hid (fun wq h => HBIT.out wq z x p2 h hp2 hlt2 (by omega) (by omega))
   have HP1 := Lib.hid hp1
   have HP2 := Lib.hid hp2
   clear hp1 hp2
   obtain ⟨b1, hb1⟩ : ∃ b, bs.getD p1 false = b := ⟨_, rfl⟩
   obtain ⟨b2, hb2⟩ : ∃ b, bs.getD p2 false = b := ⟨_, rfl⟩
   rw [hb1] at HB1
   rw [hb2] at HB2
   have HE1 := Lib.hid hb1
   have HE2 := Lib.hid hb2
   clear hb1 hb2
   by_cases hbb : b1 = b2
   ·have hbt : (b1 == b2) = true := by simpa using hbb
    have HBB := Lib.hid hbb
    clear hbb
    go_wp2_with fail
    (refine wp_region_ext (by kernel_rfl) (by kernel_rfl) ?_; (repeat (first | ((with_reducible refine ext_step (fun K hK => ?_)); go_simp; first | (refine hK _ ?_; clear hK K) | (apply Exists.intro; refine ⟨fun _ _ => ?_, hK _ ?_⟩; fail; clear hK K)))); ((with_reducible refine ext_step (fun K hK => ?_)); go_simp; (apply Exists.intro; refine ⟨fun _ _ => ?_, hK _ ?_⟩; (go_at_call 55; exact extOf (HB1.out _ (HI.out.below blw))); clear hK K)); (repeat (first | ((with_reducible refine ext_step (fun K hK => ?_)); go_simp; first | (refine hK _ ?_; clear hK K) | (apply Exists.intro; refine ⟨fun _ _ => ?_, hK _ ?_⟩; fail; clear hK K)))); ((with_reducible refine ext_step (fun K hK => ?_)); go_simp; (apply Exists.intro; refine ⟨fun _ _ => ?_, hK _ ?_⟩; (go_at_call 55; exact extOf (HB2.out _ (HI.out.below blw))); clear hK K)); (repeat (first | ((with_reducible refine ext_step (fun K hK => ?_)); go_simp; first | (refine hK _ ?_; clear hK K) | (apply Exists.intro; refine ⟨fun _ _ => ?_, hK _ ?_⟩; fail; clear hK K)))); refine wpQuiet_nil ?_; intro E d)
    go_wp2
    go_roundw
    case rel => exact ⟨x + 1, _, _, by omega, by go_num, fun j hj => by
     rcases Nat.lt_or_ge j x with h | h
     ·exact HRUN.out j h
     ·obtain rfl : j = x := by omega
      rw [HP1.out, HP2.out, HE1.out, HE2.out, HBB.out], by simp only [extW_extW]; rfl⟩
    case measure => simp [intOf]; omega
   ·have hbt : (b1 == b2) = false := by simpa using hbb
    have hne : ¬ rowL bs W y = rowL bs W z := fun h => hbb (by
     have := rowL_eq.1 h x hxW
     rwa [HP1.out, HP2.out, HE1.out, HE2.out] at this)
    have HNE := Lib.hid hne
    clear hbb hne
    go_wp2_with fail
    (refine wp_region_ext (by kernel_rfl) (by kernel_rfl) ?_; (repeat (first | ((with_reducible refine ext_step (fun K hK => ?_)); go_simp; first | (refine hK _ ?_; clear hK K) | (apply Exists.intro; refine ⟨fun _ _ => ?_, hK _ ?_⟩; fail; clear hK K)))); ((with_reducible refine ext_step (fun K hK => ?_)); go_simp; (apply Exists.intro; refine ⟨fun _ _ => ?_, hK _ ?_⟩; (go_at_call 55; exact extOf (HB1.out _ (HI.out.below blw))); clear hK K)); (repeat (first | ((with_reducible refine ext_step (fun K hK => ?_)); go_simp; first | (refine hK _ ?_; clear hK K) | (apply Exists.intro; refine ⟨fun _ _ => ?_, hK _ ?_⟩; fail; clear hK K)))); ((with_reducible refine ext_step (fun K hK => ?_)); go_simp; (apply Exists.intro; refine ⟨fun _ _ => ?_, hK _ ?_⟩; (go_at_call 55; exact extOf (HB2.out _ (HI.out.below blw))); clear hK K)); (repeat (first | ((with_reducible refine ext_step (fun K hK => ?_)); go_simp; first | (refine hK _ ?_; clear hK K) | (apply Exists.intro; refine ⟨fun _ _ => ?_, hK _ ?_⟩; fail; clear hK K)))); refine wpQuiet_nil ?_; intro E d)
    go_wp2
    go_ret
    exact ⟨by rw [decide_eq_false HNE.out]; rfl, blw⟩
  ·obtain rfl : W = x := by omega
   go_wp2
   go_ret
   exact ⟨by rw [decide_eq_true (rowL_eq.2 HRUN.out)]; rfl, blw⟩
set_option maxRecDepth 100000 in
set_option maxHeartbeats 8000000 in
theorem rAlike_okG (W H n : Nat) (hn : n = W * H) (a : Option Addr) (c : Nat) (bs : List Bool) (w : World) (hT : OkT w a n c bs) (hW : W ≤ 64) (hH : H ≤ 64) :
  Calls Tryz.prog 54 #[.agg #[.int .i64 (W), .int .i64 (H), .slice a n c]] w (IntsPostG (alikeL W H bs) w) := by
 have hn4 : n ≤ 4096 := by rw [hn]; exact mul64n hW hH
 have hz : wrT W H n = 0 := by rw [hn]; exact wrT_ok hW hH
 have HWR := Lib.hid (fun w => r5Wrong_any W H a n c w (wfN W hW) (wfN H hH) (by omega))
 rw [hz] at HWR
 have HROW := Lib.hid (fun w y z h h4 h5 => rRows_ok W H n hn a c bs y z w h hW hH h4 h5)
 have HI := Lib.hid hT.bits
 rw [alike_gS]
 have HLEN := Lib.hid (gS_len (rowL bs W) H)
 clear hT hn hz
 generalize rowL bs W = R at *
 go_enter Tryz.func54, Tryz.ntmps54
 go_wp2_with fail
 refine (HWR.out _).mono ?_
 rintro r w1 ⟨rfl, hb⟩
 obtain ⟨E1, d1, rfl⟩ := bExt hb
 clear hb
 go_wp2_with fail
 have hq := rowBelow (tF_alloc w W H (.slice a n c) rfl) (show Below (w.heap.size + 1) (w.alloc (.cells #[.int .i64 (W), .int .i64 (H), .slice a n c] 25)) (extW (w.alloc (.cells #[.int .i64 (W), .int .i64 (H), .slice a n c] 25)) E1 d1) from blw) (by omega)
 have hbw : Below w.heap.size w (extW (w.alloc (.cells #[.int .i64 (W), .int .i64 (H), .slice a n c] 25)) E1 d1) := blw
 obtain ⟨q, hqe⟩ : ∃ q, q = w.heap.size := ⟨_, rfl⟩
 rw [← hqe] at hq hbw ⊢
 generalize extW (w.alloc (.cells #[.int .i64 (W), .int .i64 (H), .slice a n c] 25)) E1 d1 = W1 at *
 have HQ := Lib.hid hq
 have HBW := Lib.hid hbw
 have HQE := Lib.hid hqe
 clear hq hbw hqe
 go_loopw [5, 6, 7] (fun o nx i wr => ∃ (y : Nat) (v : Value), y ≤ H ∧ o = v ∧ nx = .int .i64 ((gS R y).1.length) ∧ i = .int .i64 y ∧ wr.ownsRow W1.heap.size 3 1 v y (natV (gS R y).2) ∧ Below W1.heap.size W1 wr) (fun _ _ i _ => H - (intOf i).toNat)
 case atStart => exact ⟨0, _, Nat.zero_le _, rfl, rfl, rfl, World.ownsRow_nil _ _ _ _, Below.refl _ _⟩
 case round =>
  obtain ⟨y, v, hy, rfl, rfl, rfl, hown, hbel⟩ := hrel
  have hq := rowBelow HQ.out hbel HQ.out.lt
  have q0 : wr.cell? ⟨q, 0, none⟩ = some (.int .i64 (W)) := hq.cell (i := 0) (by omega)
  have q1 : wr.cell? ⟨q, 1, none⟩ = some (.int .i64 (H)) := hq.cell (i := 1) (by omega)
  have q2 : wr.cell? ⟨q, 2, none⟩ = some (.slice a n c) := hq.cell (i := 2) (by omega)
  have lq : LtW q wr := hq.lt
  obtain ⟨A, cp, rfl⟩ := own_form hown
  have HO := Lib.hid hown
  have HBE := Lib.hid hbel
  clear hown hbel hq
  by_cases hyH : y < H
  ·have HI2 := Lib.hid (HI.out.below (by have h1 := HBW.out; rw [HQE.out] at h1; exact h1.trans (HBE.out.mono h1.size)))
   obtain ⟨L, hL⟩ : ∃ L, (gS R y).2 = L := ⟨_, rfl⟩
   have hLl : L.length = y := by rw [← hL, gS_len]
   have hints : IsInts wr A y (natI L) := by
    have h1 := HO.out
    rw [hL] at h1
    obtain ⟨A', c', e, h2⟩ := IsInts.of_nats (L := L) (by rw [hLl]; exact h1)
    injection e with e1 e2 e3
    subst e1
    rw [hLl] at h2
    exact h2
   obtain ⟨nx, hnx⟩ : ∃ k, (gS R y).1.length = k := ⟨_, rfl⟩
   have hnxy : nx ≤ y := by rw [← hnx]; exact gS_le R y
   have HK0 : Hid (kS R y 0 = nx) := Lib.hid hnx
   have HIN := Lib.hid hints
   have HL := Lib.hid hL
   have HNX := Lib.hid hnx
   have HLL := Lib.hid hLl
   rw [hnx]
   clear hints hL hnx hLl
   go_wp2_with fail
   go_loopw [8, 9] (fun k i wr' => ∃ z : Nat, z ≤ y ∧ k = .int .i64 (kS R y z) ∧ i = .int .i64 z ∧ Below wr.heap.size wr wr') (fun _ i _ => y - (intOf i).toNat)
   case atStart => exact ⟨0, Nat.zero_le _, by rw [HK0.out], rfl, Below.refl _ _⟩
   case round =>
    obtain ⟨z, hz, rfl, rfl, hb2⟩ := hrel
    have hkz := kS_le R y z hz
    obtain ⟨E2, d2, rfl⟩ := bExt hb2
    clear hb2
    by_cases hzy : z < y
    ·have HRC := Lib.hid (fun wq h => HROW.out wq y z h hyH (by omega))
     have HKS : Hid (kS R y (z+1) = if R y = R z then L.getD z 0 else kS R y z) := Lib.hid (by rw [← HL.out]; rfl)
     go_wp2_with fail
     refine (HRC.out _ (HI2.out.below blw)).mono ?_
     rintro r wx ⟨rfl, hb⟩
     obtain ⟨E3, d3, rfl⟩ := bExt hb
     clear hb
     by_cases he : R y = R z
     ·have hd : decide (R y = R z) = true := by simpa using he
      obtain ⟨b, o, rfl, hlb, hc⟩ := HIN.out.2 (by omega)
      have cz := hc z hzy
      rw [natI_getD] at cz
      rw [hd]
      have HE := Lib.hid he
      have lb : LtW b wr := hlb
      clear he hc hd hlb
      generalize kS R y z = kz at *
      go_wp2
      go_roundw
      case rel => exact ⟨z + 1, by omega, by rw [HKS.out, if_pos HE.out, List.getD_eq_getElem?_getD], by go_num, blw⟩
      case measure => simp [intOf]; omega
     ·have hd : decide (R y = R z) = false := by simpa using he
      rw [hd]
      have HE := Lib.hid he
      clear he hd
      obtain ⟨kz, hkz2⟩ : ∃ k, kS R y z = k := ⟨_, rfl⟩
      rw [hkz2] at hkz ⊢
      have HKZ := Lib.hid hkz2
      clear hkz2
      go_wp2
      go_roundw
      case rel => exact ⟨z + 1, by omega, by rw [HKS.out, if_neg HE.out, HKZ.out], by go_num, blw⟩
      case measure => simp [intOf]; omega
    ·obtain rfl : y = z := by omega
     rw [kS_all] at hkz ⊢
     have HS1 : Hid ((gS R (y+1)).2 = L ++ [fIdx (gS R y).1 (R y)]) := Lib.hid (by rw [gS_succ, HL.out])
     have HS2 : Hid ((gS R (y+1)).1.length = if fIdx (gS R y).1 (R y) < nx then nx else nx + 1) := Lib.hid (by
      rw [gS_succ, ← HNX.out]
      simp only
      split <;> simp)
     have hfl : fIdx (gS R y).1 (R y) ≤ nx := by rw [← HNX.out]; exact fIdx_le _ _
     generalize fIdx (gS R y).1 (R y) = k at *
     have HOX := Lib.hid (ownBelow HO.out (show Below wr.heap.size wr (extW wr E2 d2) from blw))
     rw [HL.out] at HOX
     have HBX := Lib.hid (HBE.out.trans ((show Below wr.heap.size wr (extW wr E2 d2) from blw).mono HBE.out.size))
     have hsx : W1.heap.size ≤ (extW wr E2 d2).heap.size := HBX.out.size
     clear q0 q1 q2 lq HIN HI2
     generalize extW wr E2 d2 = W2 at *
     by_cases hkn : k < nx
     ·have hd1 : ((k : Int) == (nx : Int)) = false := by simp; omega
      rw [if_pos hkn] at HS2
      go_wp2_with (at_builtin; refine wpApp okInts' rfl (.tmp 40) (.tmp 42) rfl W1.heap.size _ _ _ #[.int .i64 k] rfl HOX.out rfl rfl ?_ (by omega) (by omega) hsx ?_)
      ·simp [Value.oneCell']
      intro v' w2 hown2 hb2
      have HB2 := Lib.hid (HBX.out.trans hb2)
      have HO2 := Lib.hid hown2
      clear hown2 hb2
      go_wp2
      go_roundw
      case rel => exact ⟨y + 1, _, by omega, rfl, by rw [HS2.out], by go_num, by rw [HS1.out, natV_snoc]; exact HO2.out, HB2.out⟩
      case measure => simp [intOf]; omega
     ·obtain rfl : k = nx := by omega
      rw [if_neg (Nat.lt_irrefl _)] at HS2
      go_wp2_with (at_builtin; refine wpApp okInts' rfl (.tmp 40) (.tmp 42) rfl W1.heap.size _ _ _ #[.int .i64 k] rfl HOX.out rfl rfl ?_ (by omega) (by omega) hsx ?_)
      ·simp [Value.oneCell']
      intro v' w2 hown2 hb2
      have HB2 := Lib.hid (HBX.out.trans hb2)
      have HO2 := Lib.hid hown2
      clear hown2 hb2
      go_wp2
      go_roundw
      case rel => exact ⟨y + 1, _, by omega, rfl, by rw [HS2.out]; go_num, by go_num, by rw [HS1.out, natV_snoc]; exact HO2.out, HB2.out⟩
      case measure => simp [intOf]; omega
  ·obtain rfl : H = y := by omega
   have hlen : (gS R H).2.length = H := HLEN.out
   obtain ⟨L, hL⟩ : ∃ L, (gS R H).2 = L := ⟨_, rfl⟩
   rw [hL] at hlen
   have h1 := HO.out
   rw [hL] at h1
   obtain ⟨A', c', e, hI2, hIb⟩ := IsInts.of_natsB (L := L) (by rw [hlen]; exact h1)
   injection e with e1 e2 e3
   subst e1
   have HII := Lib.hid hI2
   have HIB := Lib.hid hIb
   have HL := Lib.hid hL
   have HLL := Lib.hid hlen
   clear hI2 hIb h1 hL hlen e2 e3
   generalize (gS R H).1.length = nx at *
   go_wp2
   refine bodyPost_ret (v := .tuple #[.slice A H cp, .int .i64 (0)]) (by simp [results, Tryz.results54, go_sem]) rfl ?_
   rw [HL.out]
   refine ⟨A, cp, by rw [HLL.out], HII.out, ?_, ?_⟩
   ·have h1 := HBW.out
    rw [HQE.out] at h1
    exact h1.trans (HBE.out.mono h1.size)
   ·intro b o e
    have h2 := HIB.out b o e
    have h3 := HBW.out.size
    have h4 := HQE.out
    omega
end
end Go.Proofs.YtajdoobkfbdgoaaGreatDoor
