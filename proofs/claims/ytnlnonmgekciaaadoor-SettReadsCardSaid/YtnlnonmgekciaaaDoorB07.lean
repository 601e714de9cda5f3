/- Lemmas on which the law of this seat rests; each states its own conditions. -/
import Derived.Test.YtnlnonmgekciaaaDoorB06
import Derived.Deep.CutBlock
set_option linter.unusedVariables false
set_option linter.unusedSimpArgs false
namespace Go.Proofs.YtnlnonmgekciaaaDoor
section
open Go.RowKit
open Se
open By (bytesOf hasAt sgL colAt)
set_option maxRecDepth 100000 in
theorem lfSe90 {P : Prop} (h : P := by
 go_wp2_with fail
 refine (rsBad_any ab 2 (a : Int) _ HBX.out.1 HBX.out.2).mono ?_
 rintro r w8 ⟨rfl, hb8⟩
 have hu8 := HRI.out.grow hb8
 have oq := hu8.o1
 have q0 : (w8).cell? ⟨q, 0, none⟩ = some (.bool false) := (hu8).res.cell (i := 0) (by omega)
 have q2 : (w8).cell? ⟨q, 1, none⟩ = some (.slice none 0 0) := (hu8).res.cell (i := 1) (by omega)
 have s0 : (w8).cell? ⟨q1, 0, none⟩ = some (.int .i64 (0)) := (hu8).flt.cell (i := 0) (by omega)
 have s1 : (w8).cell? ⟨q1, 1, none⟩ = some (.int .i64 (0)) := (hu8).flt.cell (i := 1) (by omega)
 have d0 := (hu8).res.frozen 0; have d1 := (hu8).res.frozen 1; have e0 := (hu8).flt.frozen 0; have e1 := (hu8).flt.frozen 1
 have lq : LtW q w8 := (hu8).res.lt
 have lq1 : LtW q1 w8 := (hu8).flt.lt
 have HBF := Lib.hid hu8.bel
 clear hb8 hu8 HRI HBX
 clear c0 c1 g1 lc b0 gb lb
 go_wp2
 refine bodyPost_ret (v := .tuple #[.agg #[.bool false, .slice none 0 0], .agg #[.int .i64 (2), .int .i64 ((a : Int))]]) (by simp [results, Tryd.results18, go_sem, q0, q2, s0, s1]) rfl ?_
 rw [HR.out, HF.out]
 refine ⟨rfl, ?_⟩
 rw [HQE.out]
 exact (((HBF.out.setCell bnq _).setCell bnq _).setCell bnq _).setCell bnq _) : P := h
theorem lfSe91 {P : Prop} (h : P := by
 have HBX : Hid ((w6).cell? ⟨ab, 0, none⟩ = some (.int .i64 ((a : Int))) ∧ ab < (w6).heap.size) := Lib.hid ⟨b0, lb⟩
 exact lfSe90) : P := h
set_option maxRecDepth 100000 in
set_option maxHeartbeats 8000000 in
theorem rSeRead_any (s : ByteArray) (w : World) (hs : s.size ≤ 9223372036854775807) : Calls Tryd.prog 18 #[.string s] w (SePost (readSe (bytesOf s)) w) := by
 have hBL := By.bytesOf_len s
 have hB := By.bytesOf_lt s
 obtain ⟨N, hN⟩ : ∃ N, s.size = N := ⟨_, rfl⟩
 have HIX : Hid (∀ k, k < N → ∀ w, (Instr.index 9 (.string s) (.int .i64 (k))).run Tryd.prog w = .ok (.int .u8 ((bytesOf s).getD k 0 : Nat)) w) := Lib.hid fun k h w => index_atS s (by omega) w
 have HCO : Hid (∀ i, i ≤ N → ∀ w, Calls Tryd.prog 40 #[.string (s.extract i N)] w fun r w' => r = .returned (.tuple #[.int .i64 (colB ((bytesOf s).drop i)).1, .int .i64 (colB ((bytesOf s).drop i)).2]) ∧ Below w.heap.size w w') := Lib.hid fun i hi w => by
  have hsz : (s.extract i N).size ≤ 9223372036854775807 := by rw [ByteArray.size_extract]; omega
  have h := r2Colour_ok (s.extract i N) w hsz
  rw [← hN, bytesOf_tail] at h
  rwa [hN] at h
 have HSF : Hid (∀ i, i ≤ N → ∀ w, (Instr.slice 9 (.string s) (some (.int .i64 ((i : Int)))) none none).run Tryd.prog w = .ok (.string (s.extract i N)) w) := Lib.hid fun i hi w => by
  have h := by_from s i (by omega) w
  rwa [hN] at h
 have HSL : Hid (∀ a b, a ≤ b → b ≤ N → ∀ w, (Instr.slice 9 (.string s) (some (.int .i64 ((a : Int)))) (some (.int .i64 ((b : Int)))) none).run Tryd.prog w = .ok (.string (s.extract a b)) w) := Lib.hid fun a b h1 h2 w => by_slice s a b h1 (by omega) w
 rw [hN] at hBL hs
 have HN := Lib.hid hN
 have HBL := Lib.hid hBL
 have hsz : s.size = N := hN
 clear hN hBL
 by_cases hm : 65536 < N
 ·have d1 : decide ((N : Int) > 65536) = true := by simp; omega
  have d2 : decide (65536 < N) = true := by simpa using hm
  have d3 : decide ((65536 : Int) < N) = true := by simp; omega
  have HR : Hid (readSe (bytesOf s) = .bad 4 0) := Lib.hid (by unfold readSe; rw [if_pos (by rw [HBL.out]; exact hm)])
  clear hm hB HIX HCO HSF HSL
  go_enter Tryd.func18, Tryd.ntmps18
  go_wp2_with fail
  refine (rsBad_any _ 4 0 _ (by simp [go_sem]) (by simp)).mono ?_
  rintro r w1 ⟨rfl, hb⟩
  obtain ⟨E, d, rfl⟩ := bExt hb
  clear hb
  go_wp2
  refine bodyPost_ret (v := .tuple #[.agg #[.bool false, .slice none 0 0], .agg #[.int .i64 (4), .int .i64 (0)]]) (by simp [results, Tryd.results18, go_sem]) rfl ?_
  rw [HR.out]
  exact ⟨rfl, blw⟩
 ·have d1 : decide ((N : Int) > 65536) = false := by simp; omega
  have d2 : decide (65536 < N) = false := by simpa using hm
  have d3 : decide ((65536 : Int) < N) = false := by simp; omega
  obtain ⟨pv, hpv⟩ : ∃ pv, pvB (bytesOf s) = pv := ⟨_, rfl⟩
  obtain ⟨RES, hRES⟩ : ∃ RES, seF (bytesOf s) pv (N + 1) pv.toNat [] = RES := ⟨_, rfl⟩
  have HR : Hid (readSe (bytesOf s) = finS pv RES) := Lib.hid (by rw [readSe_eq, if_neg (by rw [HBL.out]; exact hm), hpv, HBL.out, hRES])
  have hN6 : N ≤ 65536 := by omega
  have HPV : Hid ((pv = true → 0 < N ∧ (bytesOf s).getD 0 0 = 47) ∧ (pv = false → 0 < N → (bytesOf s).getD 0 0 ≠ 47)) := Lib.hid (by
   unfold pvB at hpv
   rw [HBL.out] at hpv
   constructor
   ·intro h; rw [h, decide_eq_true_eq] at hpv; exact hpv
   ·intro h h0 h47; rw [h, decide_eq_false_iff_not] at hpv; exact hpv ⟨h0, h47⟩)
  have HB := Lib.hid hB
  have HRES := Lib.hid hRES
  clear hm hB hRES hpv
  go_enter Tryd.func18, Tryd.ntmps18
  go_upto_region 6 with fail
  clear d1 d2 d3
  have hrj : SJ w.heap.size (w.heap.size + 1) (w.heap.size + 1 + 1) (w.heap.size + 1 + 1 + 1) (w.heap.size + 1 + 1 + 1 + 1) w 0 false [] (.slice none 0 0) ((((w.alloc (.cells #[.bool false, .slice none 0 0] 24)).alloc (.cells #[.int .i64 0, .int .i64 0] 38)).alloc (.cells #[.int .i64 0] 3)).alloc (.cells #[.bool false, .slice none 0 0] 24)) := by
   have a1 := (((stS_alloc w false none 0 0).alloc (.cells #[.int .i64 0, .int .i64 0] 38)).alloc (.cells #[.int .i64 0] 3)).alloc (.cells #[.bool false, .slice none 0 0] 24)
   have a2 := ((ftS_alloc (w.alloc (.cells #[.bool false, .slice none 0 0] 24)) 0 0).alloc (.cells #[.int .i64 0] 3)).alloc (.cells #[.bool false, .slice none 0 0] 24)
   have a3 := (atF_alloc ((w.alloc (.cells #[.bool false, .slice none 0 0] 24)).alloc (.cells #[.int .i64 0, .int .i64 0] 38)) 0).alloc (.cells #[.bool false, .slice none 0 0] 24)
   have a4 := stS_alloc (((w.alloc (.cells #[.bool false, .slice none 0 0] 24)).alloc (.cells #[.int .i64 0, .int .i64 0] 38)).alloc (.cells #[.int .i64 0] 3)) false none 0 0
   rw [World.size_alloc] at a2
   rw [World.size_alloc, World.size_alloc] at a3
   rw [World.size_alloc, World.size_alloc, World.size_alloc] at a4
   exact ⟨a1, a2, a3, a4, OwnSt.nil _ _ 0, blw, by simp, by omega, by omega, by omega, by omega⟩
  obtain ⟨q, hq⟩ : ∃ q, q = w.heap.size := ⟨_, rfl⟩
  obtain ⟨q1, hq1⟩ : ∃ q1, q1 = w.heap.size + 1 := ⟨_, rfl⟩
  obtain ⟨ab, hab⟩ : ∃ ab, ab = w.heap.size + 1 + 1 := ⟨_, rfl⟩
  obtain ⟨sb, hsb⟩ : ∃ sb, sb = w.heap.size + 1 + 1 + 1 := ⟨_, rfl⟩
  obtain ⟨base, hbase⟩ : ∃ base, base = w.heap.size + 1 + 1 + 1 + 1 := ⟨_, rfl⟩
  rw [← hbase, ← hsb, ← hab, ← hq1, ← hq] at hrj
  rw [← hsb, ← hab, ← hq1, ← hq]
  have HQE : Hid (w.heap.size = q) := Lib.hid hq.symm
  clear hq hq1 hab hsb hbase
  generalize ((((w.alloc (.cells #[.bool false, .slice none 0 0] 24)).alloc (.cells #[.int .i64 0, .int .i64 0] 38)).alloc (.cells #[.int .i64 0] 3)).alloc (.cells #[.bool false, .slice none 0 0] 24)) = w2 at *
  have HRI := Lib.hid hrj
  clear hrj
  go_cut [31] (fun b wx => b = .bool pv ∧ wx = w2)
  case first =>
   by_cases h0 : 0 < N
   ·have ix := HIX.out 0 h0
    obtain ⟨z, hz⟩ : ∃ z, (bytesOf s).getD 0 0 = z := ⟨_, rfl⟩
    rw [hz] at ix
    have t1 : decide ((N : Int) > 0) = true := by simp; omega
    have t2 : decide ((0 : Int) < (N : Int)) = true := by simp; omega
    have t3 : decide (0 < N) = true := by simpa using h0
    have hg : ∀ h : 0 < s.size, ((s[0]'h).toNat) = z := fun h => by rw [← bytesOf_getS s h]; exact hz
    have hpz := HPV.out
    rw [hz] at hpz
    clear hz
    cases pv with
    | true =>
     have t4 : ((z : Int) == 47) = true := by have := (hpz.1 rfl).2; simp; omega
     clear hpz HPV
     go_wp2
     go_meet
     exact ⟨rfl, rfl⟩
    | false =>
     have t4 : ((z : Int) == 47) = false := by have := hpz.2 rfl h0; simp; omega
     clear hpz HPV
     go_wp2
     go_meet
     exact ⟨rfl, rfl⟩
   ·have t1 : decide ((N : Int) > 0) = false := by simp; omega
    have t2 : decide ((0 : Int) < (N : Int)) = false := by simp; omega
    have t3 : decide (0 < N) = false := by simpa using h0
    have hpz : pv = false := by
     cases pv with
     | false => rfl
     | true => exact absurd (HPV.out.1 rfl).1 h0
    subst hpz
    go_wp2
    go_meet
    exact ⟨rfl, rfl⟩
  obtain ⟨rfl, rfl⟩ := hcut
  have hpn : pv.toNat ≤ N := by
   cases pv with
   | false => simp
   | true => have := (HPV.out.1 rfl).1; simp; omega
  clear HPV
  go_upto_if 31 with fail
  go_cut [] (fun wx => Hid (SJ q q1 ab sb base w pv.toNat pv [] (.slice none 0 0) wx))
  case first =>
   have oe := HRI.out.o3
   have hne : ¬ (ab = sb) := by omega
   have hne2 : ¬ (sb = ab) := by omega
   cases pv with
   | true =>
    have HN1 := Lib.hid ((HRI.out.setPv true).setAt 1)
    have c0 : (wc).cell? ⟨sb, 0, none⟩ = some (.bool false) := (HRI.out).row.cell (i := 0) (by omega)
    have c1 : (wc).cell? ⟨sb, 1, none⟩ = some (.slice none 0 0) := (HRI.out).row.cell (i := 1) (by omega)
    have g1 := (HRI.out).row.frozen 1
    have lc : LtW sb wc := (HRI.out).row.lt
    have b0 : (wc).cell? ⟨ab, 0, none⟩ = some (.int .i64 (0)) := (HRI.out).box.cell (i := 0) (by omega)
    have gb := (HRI.out).box.frozen 0
    have lb : LtW ab wc := (HRI.out).box.lt
    have g0 := HRI.out.row.frozen 0
    go_wp2
    go_meet
    exact HN1
   | false =>
    go_wp2
    go_meet
    exact HRI
  have HRI0 := Lib.hid hcut.out
  clear hcut HRI
  go_wp2_with fail
  go_loopw [7] (fun ov wr => (∃ (i f : Nat) (acc : List St) (v : Value), ov = .bool true ∧ i ≤ N ∧ N + 1 ≤ i + f ∧ acc.length ≤ 256 ∧ Hid (seF (bytesOf s) pv f i acc = RES) ∧ Hid (SJ q q1 ab sb base w i pv acc v wr)) ∨ (∃ (ACC : List St) (ln : Nat) (A' : Option Addr) (C' i : Nat), ov = .bool false ∧ ln < 256 ∧ Hid (SeR.ok ACC = RES) ∧ Hid (SJ q q1 ab sb base w i pv ACC (.slice A' (ln + 1) C') wr))) (fun ov wr => match ov with
   | .bool true => N + 2 - (cellInt wr ab 0).toNat
   | _ => 0)
  case atStart => exact .inl ⟨pv.toNat, N + 1, [], _, rfl, hpn, by omega, by simp, HRES, HRI0⟩
  case round =>
   clear HRI0 HRES hpn
   rcases hrel with ⟨i, f, acc, v, rfl, hiN, hf, hacc, HSE, HRI⟩ | ⟨ACC, ln, A', C', i, rfl, hln6, HU, HRI⟩
   ·obtain ⟨f, rfl⟩ : ∃ f', f = f' + 1 := ⟨f - 1, by omega⟩
    obtain ⟨A, C, rfl⟩ := HRI.out.own.val
    have hcc := HCO.out i hiN wr
    rw [colB_drop] at hcc
    have hun := HSE.out
    unfold seF at hun
    obtain ⟨ln, hln⟩ : ∃ ln, acc.length = ln := ⟨_, rfl⟩
    have HLN := Lib.hid hln
    rw [hln] at hacc hun
    have hr9 := HRI.out
    rw [hln] at hr9
    clear hln HRI
    have c0 : (wr).cell? ⟨sb, 0, none⟩ = some (.bool pv) := (hr9).row.cell (i := 0) (by omega)
    have c1 : (wr).cell? ⟨sb, 1, none⟩ = some (.slice A ln C) := (hr9).row.cell (i := 1) (by omega)
    have g1 := (hr9).row.frozen 1
    have lc : LtW sb wr := (hr9).row.lt
    have b0 : (wr).cell? ⟨ab, 0, none⟩ = some (.int .i64 ((i : Int))) := (hr9).box.cell (i := 0) (by omega)
    have gb := (hr9).box.frozen 0
    have lb : LtW ab wr := (hr9).box.lt
    have HMS := Lib.hid b0
    have HRI := Lib.hid hr9
    clear hr9
    have hsf := HSF.out i hiN
    cases hcol : colAt (bytesOf s) i with
    | none =>
     rw [hcol] at hun hcc
     simp only at hun hcc
     have HU := Lib.hid hun
     clear hun hcol HSE
     go_wp2_with fail
     refine hcc.mono ?_
     rintro r w3 ⟨rfl, hb3⟩
     have HRI2 := Lib.hid (HRI.out.grow hb3)
     clear c0 c1 g1 lc b0 gb lb
     clear hb3 hcc HRI
     have HRI := HRI2
     clear HRI2
     have c0 : (w3).cell? ⟨sb, 0, none⟩ = some (.bool pv) := (HRI.out).row.cell (i := 0) (by omega)
     have c1 : (w3).cell? ⟨sb, 1, none⟩ = some (.slice A ln C) := (HRI.out).row.cell (i := 1) (by omega)
     have g1 := (HRI.out).row.frozen 1
     have lc : LtW sb w3 := (HRI.out).row.lt
     have b0 : (w3).cell? ⟨ab, 0, none⟩ = some (.int .i64 ((i : Int))) := (HRI.out).box.cell (i := 0) (by omega)
     have gb := (HRI.out).box.frozen 0
     have lb : LtW ab w3 := (HRI.out).box.lt
     have HF : Hid (finS pv RES = .bad 2 (i : Int)) := Lib.hid (by rw [← HU.out]; rfl)
     have HBX : Hid ((w3).cell? ⟨ab, 0, none⟩ = some (.int .i64 ((i : Int))) ∧ ab < (w3).heap.size) := Lib.hid ⟨b0, lb⟩
     go_wp2_with fail
     refine (rsBad_any ab 2 (i : Int) _ HBX.out.1 HBX.out.2).mono ?_
     rintro r w8 ⟨rfl, hb8⟩
     have hu8 := HRI.out.grow hb8
     have oq := hu8.o1
     have q0 : (w8).cell? ⟨q, 0, none⟩ = some (.bool false) := (hu8).res.cell (i := 0) (by omega)
     have q2 : (w8).cell? ⟨q, 1, none⟩ = some (.slice none 0 0) := (hu8).res.cell (i := 1) (by omega)
     have s0 : (w8).cell? ⟨q1, 0, none⟩ = some (.int .i64 (0)) := (hu8).flt.cell (i := 0) (by omega)
     have s1 : (w8).cell? ⟨q1, 1, none⟩ = some (.int .i64 (0)) := (hu8).flt.cell (i := 1) (by omega)
     have d0 := (hu8).res.frozen 0; have d1 := (hu8).res.frozen 1; have e0 := (hu8).flt.frozen 0; have e1 := (hu8).flt.frozen 1
     have lq : LtW q w8 := (hu8).res.lt
     have lq1 : LtW q1 w8 := (hu8).flt.lt
     have HBF := Lib.hid hu8.bel
     clear hb8 hu8 HRI HBX
     clear c0 c1 g1 lc b0 gb lb
     go_wp2
     refine bodyPost_ret (v := .tuple #[.agg #[.bool false, .slice none 0 0], .agg #[.int .i64 (2), .int .i64 ((i : Int))]]) (by simp [results, Tryd.results18, go_sem, q0, q2, s0, s1]) rfl ?_
     rw [HR.out, HF.out]
     refine ⟨rfl, ?_⟩
     rw [HQE.out]
     exact (((HBF.out.setCell bnq _).setCell bnq _).setCell bnq _).setCell bnq _
    | some k =>
     obtain ⟨k62, hat⟩ := (By.colAt_some HB.out).1 hcol
     have hbd := By.hasAt_bd hat (by have := (By.sgL_len k).1; intro e; rw [e] at this; simp at this)
     rw [HBL.out] at hbd
     rw [hcol] at hun hcc
     simp only at hun hcc
     have hm1 := (By.sgL_len k).1
     have hm3 := (By.sgL_len k).2
     generalize (sgL k).length = m at *
     obtain ⟨p, hp⟩ : ∃ p, i + m = p := ⟨_, rfl⟩
     rw [hp] at hun hbd
     have HUN := Lib.hid hun
     clear hun hcol HSE hat
     have b1 : ((m : Int) == 0) = false := by simp; omega
     have hv : IntKind.i64.wrap ((i : Int) + (m : Int)) = (p : Int) := by
      rw [show (i : Int) + (m : Int) = (p : Int) by omega]
      exact IntWalk.i64_in _ (by omega)
     have hip : i < p := by omega
     go_wp2_with fail
     refine hcc.mono ?_
     rintro r w3 ⟨rfl, hb3⟩
     have HRI2 := Lib.hid (HRI.out.grow hb3)
     clear c0 c1 g1 lc b0 gb lb
     clear hb3 hcc HRI hsf
     have HRI := HRI2
     clear HRI2
     have c0 : (w3).cell? ⟨sb, 0, none⟩ = some (.bool pv) := (HRI.out).row.cell (i := 0) (by omega)
     have c1 : (w3).cell? ⟨sb, 1, none⟩ = some (.slice A ln C) := (HRI.out).row.cell (i := 1) (by omega)
     have g1 := (HRI.out).row.frozen 1
     have lc : LtW sb w3 := (HRI.out).row.lt
     have b0 : (w3).cell? ⟨ab, 0, none⟩ = some (.int .i64 ((i : Int))) := (HRI.out).box.cell (i := 0) (by omega)
     have gb := (HRI.out).box.frozen 0
     have lb : LtW ab w3 := (HRI.out).box.lt
     go_upto_region 16 with fail
     have hrn := HRI.out.setAt p
     clear c0 c1 g1 lc b0 gb lb
     clear b1 hv hp hm1 hm3 HRI
     generalize w3.setCell ⟨ab, 0, none⟩ (.int .i64 ((p : Int))) = w4 at *
     have HRI := Lib.hid hrn
     clear hrn
     have c0 : (w4).cell? ⟨sb, 0, none⟩ = some (.bool pv) := (HRI.out).row.cell (i := 0) (by omega)
     have c1 : (w4).cell? ⟨sb, 1, none⟩ = some (.slice A ln C) := (HRI.out).row.cell (i := 1) (by omega)
     have g1 := (HRI.out).row.frozen 1
     have lc : LtW sb w4 := (HRI.out).row.lt
     have b0 : (w4).cell? ⟨ab, 0, none⟩ = some (.int .i64 ((p : Int))) := (HRI.out).box.cell (i := 0) (by omega)
     have gb := (HRI.out).box.frozen 0
     have lb : LtW ab w4 := (HRI.out).box.lt
     go_upto_block 2 with fail
     go_cut [11] (fun av wx => ∃ a : Nat, av = .int .i64 (a : Int) ∧ p ≤ a ∧ a ≤ N ∧ Hid (∀ x, p ≤ x → x < a → x < N ∧ isDig ((bytesOf s).getD x 0) = true) ∧ Hid (a = N ∨ isDig ((bytesOf s).getD a 0) = false) ∧ wx = w4)
     case first =>
      go_wp2_with fail
      go_loopw [11] (fun av wx => ∃ a : Nat, av = .int .i64 (a : Int) ∧ p ≤ a ∧ a ≤ N ∧ Hid (∀ x, p ≤ x → x < a → x < N ∧ isDig ((bytesOf s).getD x 0) = true) ∧ wx = w4) (fun av _ => N + 1 - (intOf av).toNat)
      case atStart => exact ⟨p, rfl, Nat.le_refl _, hbd, Lib.hid (by omega), rfl⟩
      case round =>
       obtain ⟨a, rfl, hpa, hj, HJ, rfl⟩ := hrel
       by_cases hjN : a < N
       ·have ix := HIX.out a hjN
        obtain ⟨z, hz⟩ : ∃ z, (bytesOf s).getD a 0 = z := ⟨_, rfl⟩
        rw [hz] at ix
        have HZ := Lib.hid hz
        have HP := Lib.hid hjN
        clear hz
        have t1 : decide ((a : Int) < (N : Int)) = true := by simp; omega
        have t2 : decide (a < N) = true := by simpa using hjN
        rcases (show z < 48 ∨ (48 ≤ z ∧ z ≤ 57) ∨ (48 ≤ z ∧ 57 < z) by omega) with h | ⟨h, h2⟩ | ⟨h, h2⟩
        all_goals
         try have f1A : decide ((z : Int) ≥ 48) = true := by simp; omega
         try have f1B : decide ((z : Int) ≥ 48) = false := by simp; omega
         try have f2A : decide ((48 : Int) ≤ (z : Int)) = true := by simp; omega
         try have f2B : decide ((48 : Int) ≤ (z : Int)) = false := by simp; omega
         try have f3A : decide (48 ≤ z) = true := by simp; omega
         try have f3B : decide (48 ≤ z) = false := by simp; omega
         try have f4A : decide ((z : Int) ≤ 57) = true := by simp; omega
         try have f4B : decide ((z : Int) ≤ 57) = false := by simp; omega
         try have f5A : decide (z ≤ 57) = true := by simp; omega
         try have f5B : decide (z ≤ 57) = false := by simp; omega
        ·have HD : Hid (isDig ((bytesOf s).getD a 0) = false) := Lib.hid (by rw [HZ.out]; unfold isDig; rw [decide_eq_false_iff_not]; omega)
         clear h
         go_wp2
         go_meet
         exact ⟨a, rfl, hpa, hj, HJ, Lib.hid (.inr HD.out), rfl⟩
        ·have HD : Hid (isDig ((bytesOf s).getD a 0) = true) := Lib.hid (by rw [HZ.out]; unfold isDig; rw [decide_eq_true_eq]; omega)
         clear h h2
         go_wp2
         go_roundw
         case rel => exact ⟨a + 1, by go_num, by omega, by omega, Lib.hid (fun x hx1 hx => by
          by_cases e : x = a
          ·subst e; exact ⟨HP.out, HD.out⟩
          ·exact HJ.out x hx1 (by omega)), by first | rfl | trivial⟩
         case measure => simp [intOf]; omega
        ·have HD : Hid (isDig ((bytesOf s).getD a 0) = false) := Lib.hid (by rw [HZ.out]; unfold isDig; rw [decide_eq_false_iff_not]; omega)
         clear h h2
         go_wp2
         go_meet
         exact ⟨a, rfl, hpa, hj, HJ, Lib.hid (.inr HD.out), rfl⟩
       ·have t1 : decide ((a : Int) < (N : Int)) = false := by simp; omega
        have t2 : decide (a < N) = false := by simpa using hjN
        have HE : Hid (a = N) := Lib.hid (by omega)
        go_wp2
        go_meet
        exact ⟨a, rfl, hpa, hj, HJ, Lib.hid (.inl HE.out), rfl⟩
     obtain ⟨a, rfl, hpa, haN, HJ, HJE, rfl⟩ := hcut
     have hdg := dgs_at (B := bytesOf s) (p := p) (j := a - p) (fun x hx => by
      have := HJ.out (p + x) (by omega) (by omega)
      rwa [HBL.out]) (by
      rcases HJE.out with h | h
      ·left; rw [HBL.out]; omega
      ·right; rw [show p + (a - p) = a by omega]; exact h) (by rw [HBL.out]; omega)
     obtain ⟨hD, hDl⟩ := hdg
     have hun := HUN.out
     have hDs : bytesOf (s.extract p a) = dgs (bytesOf s) p := by
      rw [hD]
      have := By.bytesOf_extract s p (a - p) (by omega)
      rwa [show p + (a - p) = a by omega] at this
     have hdig := dgs_dig (B := bytesOf s) (p := p)
     have hh0 : a ≠ p → (dgs (bytesOf s) p).headD 0 = (bytesOf s).getD p 0 := fun hap => by
      have e1 : (dgs (bytesOf s) p).headD 0 = (dgs (bytesOf s) p).getD 0 0 := by cases dgs (bytesOf s) p <;> rfl
      rw [e1, hD, List.getD_eq_getElem?_getD, List.getElem?_take, if_pos (by omega), List.getElem?_drop, List.getD_eq_getElem?_getD]
      rfl
     clear hD HJ HJE HUN
     generalize dgs (bytesOf s) p = D at *
     rw [hDl, show p + (a - p) = a by omega, HBL.out] at hun
     have hez : (s.extract p a).size = a - p := by rw [← By.bytesOf_len, hDs, hDl]
     have HUN := Lib.hid hun
     have HDS := Lib.hid hDs; have HDL := Lib.hid hDl; have HDG := Lib.hid hdig
     have hsl := HSL.out p a hpa haN
     clear hun hDs hDl hdig
     by_cases hap : a = p
     ·have t1 : ((a : Int) == (p : Int)) = true := by simp; omega
      have HU : Hid (SeR.bad 2 p = RES) := Lib.hid (by
       have h0 : D = [] := List.length_eq_zero_iff.1 (by rw [HDL.out]; omega)
       have := HUN.out
       rwa [if_pos (.inl h0)] at this)
      clear HUN HDS HDL HDG hez hsl hh0
      subst hap
      have HF : Hid (finS pv RES = .bad 2 (a : Int)) := Lib.hid (by rw [← HU.out]; rfl)
      have HBX : Hid ((wc).cell? ⟨ab, 0, none⟩ = some (.int .i64 ((a : Int))) ∧ ab < (wc).heap.size) := Lib.hid ⟨b0, lb⟩
      exact lfSe90
     ·have t1 : ((a : Int) == (p : Int)) = false := by simp; omega
      have hpN : p < N := by omega
      have ix := HIX.out p hpN
      obtain ⟨z, hz⟩ : ∃ z, (bytesOf s).getD p 0 = z := ⟨_, rfl⟩
      rw [hz] at ix
      have HZ : Hid (D.headD 0 = z) := Lib.hid ((hh0 hap).trans hz)
      have HNE : Hid (D ≠ []) := Lib.hid (by intro e; have := HDL.out; rw [e] at this; simp at this; omega)
      clear hz hh0
      by_cases hz48 : z = 48
      ·have b2 : ((z : Int) == 48) = true := by simp; omega
       have HU : Hid (SeR.bad 2 p = RES) := Lib.hid (by
        have := HUN.out
        rwa [if_pos (.inr (by rw [HZ.out]; exact hz48))] at this)
       clear HUN hz48 hez hsl
       have HF : Hid (finS pv RES = .bad 2 (p : Int)) := Lib.hid (by rw [← HU.out]; rfl)
       have HBX : Hid ((wc).cell? ⟨ab, 0, none⟩ = some (.int .i64 ((p : Int))) ∧ ab < (wc).heap.size) := Lib.hid ⟨b0, lb⟩
       go_wp2_with fail
       refine (rsBad_any ab 2 (p : Int) _ HBX.out.1 HBX.out.2).mono ?_
       rintro r w8 ⟨rfl, hb8⟩
       have hu8 := HRI.out.grow hb8
       have oq := hu8.o1
       have q0 : (w8).cell? ⟨q, 0, none⟩ = some (.bool false) := (hu8).res.cell (i := 0) (by omega)
       have q2 : (w8).cell? ⟨q, 1, none⟩ = some (.slice none 0 0) := (hu8).res.cell (i := 1) (by omega)
       have s0 : (w8).cell? ⟨q1, 0, none⟩ = some (.int .i64 (0)) := (hu8).flt.cell (i := 0) (by omega)
       have s1 : (w8).cell? ⟨q1, 1, none⟩ = some (.int .i64 (0)) := (hu8).flt.cell (i := 1) (by omega)
       have d0 := (hu8).res.frozen 0; have d1 := (hu8).res.frozen 1; have e0 := (hu8).flt.frozen 0; have e1 := (hu8).flt.frozen 1
       have lq : LtW q w8 := (hu8).res.lt
       have lq1 : LtW q1 w8 := (hu8).flt.lt
       have HBF := Lib.hid hu8.bel
       clear hb8 hu8 HRI HBX
       clear c0 c1 g1 lc b0 gb lb
       go_wp2
       refine bodyPost_ret (v := .tuple #[.agg #[.bool false, .slice none 0 0], .agg #[.int .i64 (2), .int .i64 ((p : Int))]]) (by simp [results, Tryd.results18, go_sem, q0, q2, s0, s1]) rfl ?_
       rw [HR.out, HF.out]
       refine ⟨rfl, ?_⟩
       rw [HQE.out]
       exact (((HBF.out.setCell bnq _).setCell bnq _).setCell bnq _).setCell bnq _
      ·have b2 : ((z : Int) == 48) = false := by simp; omega
       have HUN2 : Hid ((if 4096 < valN D then SeR.bad 3 p else if 256 ≤ ln then .bad 5 i else if pv = true ∧ a < N ∧ (bytesOf s).getD a 0 = 47 then (if a + 1 < N then .bad 2 (a + 1) else .ok (acc ++ [((k : Int), (valN D : Int))])) else if pv = false ∧ a = N then .ok (acc ++ [((k : Int), (valN D : Int))]) else if a < N ∧ (bytesOf s).getD a 0 = 32 then seF (bytesOf s) pv f (a + 1) (acc ++ [((k : Int), (valN D : Int))]) else .bad 2 a) = RES) := Lib.hid (by
        have := HUN.out
        rwa [if_neg (by rintro (h | h); exact HNE.out h; rw [HZ.out] at h; exact hz48 h)] at this)
       clear HUN hz48 HZ HNE
       go_upto_block 4 with fail
       have HSV := Lib.hid (sat_val HDG.out)
       have HSLE := Lib.hid (fun x h => sat_le (x := x) HDG.out h)
       go_cut [12] (fun cv wx => cv = .int .i64 (satN D : Nat) ∧ wx = wc.iter (s.extract p a) (a - p))
       case first =>
        have HS0 : Hid (∀ x (h : x < (s.extract p a).size), ((s.extract p a)[x]'h).toNat = D.getD x 0) := Lib.hid fun x h => by
         rw [← bytesOf_getS (s.extract p a) h, HDS.out]
        have hiz : ∀ x, (wc.iter (s.extract p a) x).heap[wc.heap.size]? = some (.stringIter (s.extract p a) x) := fun x => World.iter_heap wc (s.extract p a) x
        have HIZ := Lib.hid hiz
        clear hiz
        go_wp2_with fail
        go_loopw [12] (fun cv wr => ∃ x : Nat, cv = .int .i64 (satN (D.take x) : Nat) ∧ x ≤ a - p ∧ wr = wc.iter (s.extract p a) x) (fun _ wr => a - p + 1 - wr.iterPos wc.heap.size)
        case atStart => exact ⟨0, rfl, by omega, rfl⟩
        case round =>
         obtain ⟨x, rfl, hx, rfl⟩ := hrel
         by_cases hxl : x < a - p
         ·have hnx : ∀ ty, (Instr.next (.pointer (some ⟨wc.heap.size, 0, none⟩)) true ty).run Tryd.prog (wc.iter (s.extract p a) x) = .ok (.tuple #[.bool true, .int .i64 x, .int .i32 (D.getD x 0 : Nat)]) (wc.iter (s.extract p a) (x + 1)) := fun ty => by
           have hlt : x < (s.extract p a).size := by omega
           have hd := HDG.out (D.getD x 0) (by
            rw [List.getD_eq_getElem?_getD, List.getElem?_eq_getElem (by rw [HDL.out]; exact hxl)]
            exact List.getElem_mem _)
           unfold isDig at hd
           rw [decide_eq_true_eq] at hd
           have h9 := run_next_ascii (P := Tryd.prog) wc (s.extract p a) x ty hlt (by rw [HS0.out x hlt]; omega)
           rw [HS0.out x hlt] at h9
           exact h9
          have hd := HDG.out (D.getD x 0) (by
           rw [List.getD_eq_getElem?_getD, List.getElem?_eq_getElem (by rw [HDL.out]; exact hxl)]
           exact List.getElem_mem _)
          unfold isDig at hd
          rw [decide_eq_true_eq] at hd
          have hst := satN_take (l := D) (x := x) (by rw [HDL.out]; exact hxl)
          have hle := HSLE.out x (by rw [HDL.out]; omega)
          generalize D.getD x 0 = d at *
          generalize satN (D.take x) = c at *
          have HST := Lib.hid hst
          have HM1 : Hid ((wc.iter (s.extract p a) x).iterPos wc.heap.size = x ∧ (wc.iter (s.extract p a) (x + 1)).iterPos wc.heap.size = x + 1) := Lib.hid ⟨by simp [World.iterPos, HIZ.out], by simp [World.iterPos, HIZ.out]⟩
          clear hst
          have v1 : IntKind.i32.wrap ((d : Int) - 48) = (d : Int) - 48 := IntWalk.i32_in _ (by omega)
          have v2 : IntKind.i64.wrap ((d : Int) - 48) = (d : Int) - 48 := IntWalk.i64_in _ (by omega)
          have v3 : IntKind.i64.wrap (10 * (c : Int)) = 10 * (c : Int) := IntWalk.i64_in _ (by omega)
          have v4 : IntKind.i64.wrap (10 * (c : Int) + ((d : Int) - 48)) = 10 * (c : Int) + ((d : Int) - 48) := IntWalk.i64_in _ (by omega)
          by_cases hc4 : c ≤ 4096
          ·have u1 : decide ((c : Int) ≤ 4096) = true := by simp; omega
           have u2 : decide (c ≤ 4096) = true := by simpa using hc4
           have HSN : Hid (satN (D.take (x + 1)) = 10 * c + (d - 48)) := Lib.hid (by rw [HST.out]; unfold satC; rw [if_pos hc4])
           clear hc4
           go_wp2
           go_roundw
           case rel => exact ⟨x + 1, by rw [HSN.out]; congr 1; omega, by omega, by first | rfl | trivial⟩
           case measure => rw [HM1.out.1, HM1.out.2]; omega
          ·have u1 : decide ((c : Int) ≤ 4096) = false := by simp; omega
           have u2 : decide (c ≤ 4096) = false := by simpa using hc4
           have HSN : Hid (satN (D.take (x + 1)) = c) := Lib.hid (by rw [HST.out]; unfold satC; rw [if_neg hc4])
           clear hc4
           go_wp2
           go_roundw
           case rel => exact ⟨x + 1, by rw [HSN.out], by omega, by first | rfl | trivial⟩
           case measure => rw [HM1.out.1, HM1.out.2]; omega
         ·obtain rfl : x = a - p := by omega
          have hnx : ∀ ty, (Instr.next (.pointer (some ⟨wc.heap.size, 0, none⟩)) true ty).run Tryd.prog (wc.iter (s.extract p a) (a - p)) = .ok (.tuple #[.bool false]) (wc.iter (s.extract p a) (a - p)) := fun ty => run_next_end (P := Tryd.prog) wc (s.extract p a) (a - p) ty (by omega)
          have HTK : Hid (D.take (a - p) = D) := Lib.hid (by rw [← HDL.out]; exact List.take_length)
          go_wp2
          go_meet
          exact ⟨by rw [HTK.out], rfl⟩
       obtain ⟨rfl, rfl⟩ := hcut
       have hbi : Below wc.heap.size wc (wc.iter (s.extract p a) (a - p)) := (Below.refl _ wc).alloc (Nat.le_refl _) (.stringIter (s.extract p a) (a - p))
       have HRI2 := Lib.hid (HRI.out.grow hbi)
       obtain ⟨c, hc⟩ : ∃ c, satN D = c := ⟨_, rfl⟩
       have hsv := HSV.out
       rw [hc] at hsv
       rw [hc]
       clear hbi hc HSV HSLE hsl hez HRI ix b2 t1
       clear c0 c1 g1 lc b0 gb lb
       have HRI := HRI2
       clear HRI2
       generalize wc.iter (s.extract p a) (a - p) = w4 at *
       have c0 : (w4).cell? ⟨sb, 0, none⟩ = some (.bool pv) := (HRI.out).row.cell (i := 0) (by omega)
       have c1 : (w4).cell? ⟨sb, 1, none⟩ = some (.slice A ln C) := (HRI.out).row.cell (i := 1) (by omega)
       have g1 := (HRI.out).row.frozen 1
       have lc : LtW sb w4 := (HRI.out).row.lt
       have b0 : (w4).cell? ⟨ab, 0, none⟩ = some (.int .i64 ((p : Int))) := (HRI.out).box.cell (i := 0) (by omega)
       have gb := (HRI.out).box.frozen 0
       have lb : LtW ab w4 := (HRI.out).box.lt
       have hcl := hsv.2.2
       by_cases hv4 : 4096 < c
       ·have b3 : decide ((c : Int) > 4096) = true := by simp; omega
        have b3b : decide ((4096 : Int) < (c : Int)) = true := by simp; omega
        have b3c : decide (4096 < c) = true := by simpa using hv4
        have HU : Hid (SeR.bad 3 p = RES) := Lib.hid (by
         have := HUN2.out
         rwa [if_pos (hsv.1.1 hv4)] at this)
        clear HUN2 hv4 hsv
        have HF : Hid (finS pv RES = .bad 3 (p : Int)) := Lib.hid (by rw [← HU.out]; rfl)
        have HBX : Hid ((w4).cell? ⟨ab, 0, none⟩ = some (.int .i64 ((p : Int))) ∧ ab < (w4).heap.size) := Lib.hid ⟨b0, lb⟩
        go_wp2_with fail
        refine (rsBad_any ab 3 (p : Int) _ HBX.out.1 HBX.out.2).mono ?_
        rintro r w8 ⟨rfl, hb8⟩
        have hu8 := HRI.out.grow hb8
        have oq := hu8.o1
        have q0 : (w8).cell? ⟨q, 0, none⟩ = some (.bool false) := (hu8).res.cell (i := 0) (by omega)
        have q2 : (w8).cell? ⟨q, 1, none⟩ = some (.slice none 0 0) := (hu8).res.cell (i := 1) (by omega)
        have s0 : (w8).cell? ⟨q1, 0, none⟩ = some (.int .i64 (0)) := (hu8).flt.cell (i := 0) (by omega)
        have s1 : (w8).cell? ⟨q1, 1, none⟩ = some (.int .i64 (0)) := (hu8).flt.cell (i := 1) (by omega)
        have d0 := (hu8).res.frozen 0; have d1 := (hu8).res.frozen 1; have e0 := (hu8).flt.frozen 0; have e1 := (hu8).flt.frozen 1
        have lq : LtW q w8 := (hu8).res.lt
        have lq1 : LtW q1 w8 := (hu8).flt.lt
        have HBF := Lib.hid hu8.bel
        clear hb8 hu8 HRI HBX
        clear c0 c1 g1 lc b0 gb lb
        go_wp2
        refine bodyPost_ret (v := .tuple #[.agg #[.bool false, .slice none 0 0], .agg #[.int .i64 (3), .int .i64 ((p : Int))]]) (by simp [results, Tryd.results18, go_sem, q0, q2, s0, s1]) rfl ?_
        rw [HR.out, HF.out]
        refine ⟨rfl, ?_⟩
        rw [HQE.out]
        exact (((HBF.out.setCell bnq _).setCell bnq _).setCell bnq _).setCell bnq _
       ·have b3 : decide ((c : Int) > 4096) = false := by simp; omega
        have b3b : decide ((4096 : Int) < (c : Int)) = false := by simp; omega
        have b3c : decide (4096 < c) = false := by simpa using hv4
        have hv5 : ¬ 4096 < valN D := fun h => hv4 (hsv.1.2 h)
        have hvc := hsv.2.1 hv5
        have HUN3 : Hid ((if 256 ≤ ln then SeR.bad 5 i else if pv = true ∧ a < N ∧ (bytesOf s).getD a 0 = 47 then (if a + 1 < N then .bad 2 (a + 1) else .ok (acc ++ [((k : Int), (c : Int))])) else if pv = false ∧ a = N then .ok (acc ++ [((k : Int), (c : Int))]) else if a < N ∧ (bytesOf s).getD a 0 = 32 then seF (bytesOf s) pv f (a + 1) (acc ++ [((k : Int), (c : Int))]) else .bad 2 a) = RES) := Lib.hid (by
         have := HUN2.out
         rwa [if_neg hv5, ← hvc] at this)
        clear HUN2 hv4 hsv hv5 hvc HDG HDL HDS
        have oe1 := HRI.out.o3
        have hne1 : ¬ (ab = sb) := by omega
        have hne2 : ¬ (sb = ab) := by omega
        by_cases hl6 : 256 ≤ ln
        ·have b4 : decide ((ln : Int) ≥ 256) = true := by simp; omega
         have b4b : decide ((256 : Int) ≤ (ln : Int)) = true := by simp; omega
         have b4c : decide (256 ≤ ln) = true := by simpa using hl6
         have HU : Hid (SeR.bad 5 i = RES) := Lib.hid (by
          have := HUN3.out
          rwa [if_pos hl6] at this)
         clear HUN3 hl6
         go_upto_region 31 with fail
         have hrn := HRI.out.setAt i
         clear c0 c1 g1 lc b0 gb lb
         clear HRI
         generalize w4.setCell ⟨ab, 0, none⟩ (.int .i64 ((i : Int))) = w5 at *
         have HRI := Lib.hid hrn
         clear hrn
         have c0 : (w5).cell? ⟨sb, 0, none⟩ = some (.bool pv) := (HRI.out).row.cell (i := 0) (by omega)
         have c1 : (w5).cell? ⟨sb, 1, none⟩ = some (.slice A ln C) := (HRI.out).row.cell (i := 1) (by omega)
         have g1 := (HRI.out).row.frozen 1
         have lc : LtW sb w5 := (HRI.out).row.lt
         have b0 : (w5).cell? ⟨ab, 0, none⟩ = some (.int .i64 ((i : Int))) := (HRI.out).box.cell (i := 0) (by omega)
         have gb := (HRI.out).box.frozen 0
         have lb : LtW ab w5 := (HRI.out).box.lt
         have HF : Hid (finS pv RES = .bad 5 (i : Int)) := Lib.hid (by rw [← HU.out]; rfl)
         have HBX : Hid ((w5).cell? ⟨ab, 0, none⟩ = some (.int .i64 ((i : Int))) ∧ ab < (w5).heap.size) := Lib.hid ⟨b0, lb⟩
         go_wp2_with fail
         refine (rsBad_any ab 5 (i : Int) _ HBX.out.1 HBX.out.2).mono ?_
         rintro r w8 ⟨rfl, hb8⟩
         have hu8 := HRI.out.grow hb8
         have oq := hu8.o1
         have q0 : (w8).cell? ⟨q, 0, none⟩ = some (.bool false) := (hu8).res.cell (i := 0) (by omega)
         have q2 : (w8).cell? ⟨q, 1, none⟩ = some (.slice none 0 0) := (hu8).res.cell (i := 1) (by omega)
         have s0 : (w8).cell? ⟨q1, 0, none⟩ = some (.int .i64 (0)) := (hu8).flt.cell (i := 0) (by omega)
         have s1 : (w8).cell? ⟨q1, 1, none⟩ = some (.int .i64 (0)) := (hu8).flt.cell (i := 1) (by omega)
         have d0 := (hu8).res.frozen 0; have d1 := (hu8).res.frozen 1; have e0 := (hu8).flt.frozen 0; have e1 := (hu8).flt.frozen 1
         have lq : LtW q w8 := (hu8).res.lt
         have lq1 : LtW q1 w8 := (hu8).flt.lt
         have HBF := Lib.hid hu8.bel
         clear hb8 hu8 HRI HBX
         clear c0 c1 g1 lc b0 gb lb
         go_wp2
         refine bodyPost_ret (v := .tuple #[.agg #[.bool false, .slice none 0 0], .agg #[.int .i64 (5), .int .i64 ((i : Int))]]) (by simp [results, Tryd.results18, go_sem, q0, q2, s0, s1]) rfl ?_
         rw [HR.out, HF.out]
         refine ⟨rfl, ?_⟩
         rw [HQE.out]
         exact (((HBF.out.setCell bnq _).setCell bnq _).setCell bnq _).setCell bnq _
        ·have b4 : decide ((ln : Int) ≥ 256) = false := by simp; omega
         have b4b : decide ((256 : Int) ≤ (ln : Int)) = false := by simp; omega
         have b4c : decide (256 ≤ ln) = false := by simpa using hl6
         have how : w4.ownsRow base 44 2 (.slice A ln C) ln (strK acc) := by
          have := HRI.out.own
          unfold OwnSt at this
          rwa [HLN.out] at this
         have hln6 : ln < 256 := by omega
         have hsz4 := HRI.out.siz
         have hsb4 := HRI.out.o4
         have hab4 : ab < base := by omega
         have hob := own_baseS HRI.out.own
         have HUN4 : Hid ((if pv = true ∧ a < N ∧ (bytesOf s).getD a 0 = 47 then (if a + 1 < N then SeR.bad 2 (a + 1) else .ok (acc ++ [((k : Int), (c : Int))])) else if pv = false ∧ a = N then .ok (acc ++ [((k : Int), (c : Int))]) else if a < N ∧ (bytesOf s).getD a 0 = 32 then seF (bytesOf s) pv f (a + 1) (acc ++ [((k : Int), (c : Int))]) else .bad 2 a) = RES) := Lib.hid (by
          have := HUN3.out
          rwa [if_neg hl6] at this)
         clear HUN3 hl6
         go_wp2_with (at_builtin; refine wpAppG okStr rfl (.tmp 117) (.tmp 121) rfl base _ ln (strK acc) #[.int .i64 (k), .int .i64 (c)] w4.heap.size rfl (how.alloc _) rfl ?_ rfl ?_ (by omega) (by omega) (by rw [World.size_alloc]; omega) ?_)
         ·intro j u hu
          have hj : j < 2 := (Array.getElem?_eq_some_iff.1 hu).1
          have hj2 : j = 0 ∨ j = 1 := by omega
          rcases hj2 with rfl | rfl
          ·simp at hu; subst hu; simp [go_sem]
          ·simp at hu; subst hu; simp [go_sem]
         ·simp [Value.oneCell']
         intro v' w5 hown5 hg5
         have hb5 : Below base w4 w5 := ((Below.refl base w4).alloc hsz4 _).trans (belowGrown hg5 (by rw [World.size_alloc]; omega) hob)
         have hown6 : OwnSt w5 base v' (acc ++ [((k : Int), (c : Int))]) := OwnSt.snoc HLN.out (by simpa using hown5)
         obtain ⟨A', C', rfl⟩ := own_form hown5
         have hrn := (HRI.out.app hb5 hown6).setAt a
         have c1' := (hb5.cell (p := ⟨sb, 1, none⟩) hsb4).trans c1
         have g1' := (hb5.frozen (p := ⟨sb, 1, none⟩) hsb4).trans g1
         have lc' : LtW sb w5 := Nat.lt_of_lt_of_le lc hb5.size
         have b0' := (hb5.cell (p := ⟨ab, 0, none⟩) hab4).trans b0
         have gb' := (hb5.frozen (p := ⟨ab, 0, none⟩) hab4).trans gb
         have lb' : LtW ab w5 := Nat.lt_of_lt_of_le lb hb5.size
         clear c0 c1 g1 lc b0 gb lb
         clear hb5 hown6 hown5 hg5 HRI how hob hsz4 b3 b3b b3c b4 b4b b4c
         go_upto_region 34 with fail
         clear c1' g1' lc' b0' gb' lb'
         generalize (w5.setCell ⟨sb, 1, none⟩ (.slice A' (ln + 1) C')).setCell ⟨ab, 0, none⟩ (.int .i64 ((a : Int))) = w6 at *
         have HRI := Lib.hid hrn
         clear hrn
         have c0 : (w6).cell? ⟨sb, 0, none⟩ = some (.bool pv) := (HRI.out).row.cell (i := 0) (by omega)
         have c1 : (w6).cell? ⟨sb, 1, none⟩ = some (.slice A' (ln + 1) C') := (HRI.out).row.cell (i := 1) (by omega)
         have g1 := (HRI.out).row.frozen 1
         have lc : LtW sb w6 := (HRI.out).row.lt
         have b0 : (w6).cell? ⟨ab, 0, none⟩ = some (.int .i64 ((a : Int))) := (HRI.out).box.cell (i := 0) (by omega)
         have gb := (HRI.out).box.frozen 0
         have lb : LtW ab w6 := (HRI.out).box.lt
         have HLA : Hid ((acc ++ [((k : Int), (c : Int))]).length = ln + 1) := Lib.hid (by rw [List.length_append, HLN.out]; rfl)
         obtain ⟨ACC, hACC⟩ : ∃ ACC, acc ++ [((k : Int), (c : Int))] = ACC := ⟨_, rfl⟩
         rw [hACC] at HUN4 HRI HLA
         clear hACC
         have hw1 : IntKind.i64.wrap ((a : Int) + 1) = (a : Int) + 1 := IntWalk.i64_in _ (by omega)
         have h8 := cellInt_of HMS.out
         by_cases haN2 : a < N
         ·have ix := HIX.out a haN2
          obtain ⟨y, hy⟩ : ∃ y, (bytesOf s).getD a 0 = y := ⟨_, rfl⟩
          rw [hy] at ix HUN4
          clear hy
          have t1 : decide ((a : Int) < (N : Int)) = true := by simp; omega
          have t2 : decide (a < N) = true := by simpa using haN2
          have t3 : ((a : Int) == (N : Int)) = false := by simp; omega
          have t4 : (a == N) = false := by simp; omega
          have hrn : SJ q q1 ab sb base w (a + 1) pv ACC (.slice A' (ln + 1) C') (w6.setCell ⟨ab, 0, none⟩ (.int .i64 (((a : Int) + 1)))) := HRI.out.setAt (a + 1)
          have HRN := Lib.hid hrn
          clear hrn
          by_cases hy47 : y = 47
          ·have t5 : ((y : Int) == 47) = true := by simp; omega
           by_cases hpv1 : pv = true
           ·by_cases ha1 : a + 1 < N
            ·have t6 : decide ((a : Int) + 1 < (N : Int)) = true := by simp; omega
             have HU : Hid (SeR.bad 2 (a + 1) = RES) := Lib.hid (by
              have := HUN4.out
              rwa [if_pos ⟨hpv1, haN2, hy47⟩, if_pos ha1] at this)
             clear HUN4 hy47
             subst hpv1
             go_upto_region 39 with fail
             have hrn := HRN.out
             clear c0 c1 g1 lc b0 gb lb
             clear HRI HRN
             generalize w6.setCell ⟨ab, 0, none⟩ (.int .i64 (((a : Int) + 1))) = w7 at *
             have HRI := Lib.hid hrn
             clear hrn
             have c0 : (w7).cell? ⟨sb, 0, none⟩ = some (.bool true) := (HRI.out).row.cell (i := 0) (by omega)
             have c1 : (w7).cell? ⟨sb, 1, none⟩ = some (.slice A' (ln + 1) C') := (HRI.out).row.cell (i := 1) (by omega)
             have g1 := (HRI.out).row.frozen 1
             have lc : LtW sb w7 := (HRI.out).row.lt
             have b0 : (w7).cell? ⟨ab, 0, none⟩ = some (.int .i64 (((a : Int) + 1))) := (HRI.out).box.cell (i := 0) (by omega)
             have gb := (HRI.out).box.frozen 0
             have lb : LtW ab w7 := (HRI.out).box.lt
             have HF : Hid (finS true RES = .bad 2 ((a : Int) + 1)) := Lib.hid (by rw [← HU.out]; rfl)
             have HBX : Hid ((w7).cell? ⟨ab, 0, none⟩ = some (.int .i64 (((a : Int) + 1))) ∧ ab < (w7).heap.size) := Lib.hid ⟨b0, lb⟩
             go_wp2_with fail
             refine (rsBad_any ab 2 ((a : Int) + 1) _ HBX.out.1 HBX.out.2).mono ?_
             rintro r w8 ⟨rfl, hb8⟩
             have hu8 := HRI.out.grow hb8
             have oq := hu8.o1
             have q0 : (w8).cell? ⟨q, 0, none⟩ = some (.bool false) := (hu8).res.cell (i := 0) (by omega)
             have q2 : (w8).cell? ⟨q, 1, none⟩ = some (.slice none 0 0) := (hu8).res.cell (i := 1) (by omega)
             have s0 : (w8).cell? ⟨q1, 0, none⟩ = some (.int .i64 (0)) := (hu8).flt.cell (i := 0) (by omega)
             have s1 : (w8).cell? ⟨q1, 1, none⟩ = some (.int .i64 (0)) := (hu8).flt.cell (i := 1) (by omega)
             have d0 := (hu8).res.frozen 0; have d1 := (hu8).res.frozen 1; have e0 := (hu8).flt.frozen 0; have e1 := (hu8).flt.frozen 1
             have lq : LtW q w8 := (hu8).res.lt
             have lq1 : LtW q1 w8 := (hu8).flt.lt
             have HBF := Lib.hid hu8.bel
             clear hb8 hu8 HRI HBX
             clear c0 c1 g1 lc b0 gb lb
             go_wp2
             refine bodyPost_ret (v := .tuple #[.agg #[.bool false, .slice none 0 0], .agg #[.int .i64 (2), .int .i64 (((a : Int) + 1))]]) (by simp [results, Tryd.results18, go_sem, q0, q2, s0, s1]) rfl ?_
             rw [HR.out, HF.out]
             refine ⟨rfl, ?_⟩
             rw [HQE.out]
             exact (((HBF.out.setCell bnq _).setCell bnq _).setCell bnq _).setCell bnq _
            ·have t6 : decide ((a : Int) + 1 < (N : Int)) = false := by simp; omega
             have HU : Hid (SeR.ok ACC = RES) := Lib.hid (by
              have := HUN4.out
              rwa [if_pos ⟨hpv1, haN2, hy47⟩, if_neg ha1] at this)
             clear HUN4 hy47
             subst hpv1
             go_upto_region 39 with fail
             have hrn := HRN.out
             clear c0 c1 g1 lc b0 gb lb
             clear HRI HRN
             generalize w6.setCell ⟨ab, 0, none⟩ (.int .i64 (((a : Int) + 1))) = w7 at *
             have HRI := Lib.hid hrn
             clear hrn
             have c0 : (w7).cell? ⟨sb, 0, none⟩ = some (.bool true) := (HRI.out).row.cell (i := 0) (by omega)
             have c1 : (w7).cell? ⟨sb, 1, none⟩ = some (.slice A' (ln + 1) C') := (HRI.out).row.cell (i := 1) (by omega)
             have g1 := (HRI.out).row.frozen 1
             have lc : LtW sb w7 := (HRI.out).row.lt
             have b0 : (w7).cell? ⟨ab, 0, none⟩ = some (.int .i64 (((a : Int) + 1))) := (HRI.out).box.cell (i := 0) (by omega)
             have gb := (HRI.out).box.frozen 0
             have lb : LtW ab w7 := (HRI.out).box.lt
             go_wp2
             go_roundw
             case rel => exact .inr ⟨ACC, ln, A', C', a + 1, rfl, hln6, HU, HRI⟩
             case measure => simp [h8]; omega
           ·have hpv2 : pv = false := by simpa using hpv1
            have t8 : ((y : Int) == 32) = false := by simp; omega
            have HU : Hid (SeR.bad 2 a = RES) := Lib.hid (by
             have := HUN4.out
             rwa [if_neg (fun h => hpv1 h.1), if_neg (by rintro ⟨_, h⟩; omega), if_neg (by rintro ⟨_, h⟩; omega)] at this)
            clear HUN4 hy47 hpv1 HRN
            subst hpv2
            have HF : Hid (finS false RES = .bad 2 (a : Int)) := Lib.hid (by rw [← HU.out]; rfl)
            exact lfSe91
          ·have t5 : ((y : Int) == 47) = false := by simp; omega
           by_cases hy32 : y = 32
           ·have t8 : ((y : Int) == 32) = true := by simp; omega
            have HSE2 : Hid (seF (bytesOf s) pv f (a + 1) ACC = RES) := Lib.hid (by
             have := HUN4.out
             rwa [if_neg (fun h => hy47 h.2.2), if_neg (by rintro ⟨_, h⟩; omega), if_pos ⟨haN2, hy32⟩] at this)
            have h9 : cellInt (w6.setCell ⟨ab, 0, none⟩ (.int .i64 (((a : Int) + 1)))) ab 0 = ((a + 1 : Nat) : Int) := cellInt_of (HRN.out.box.cell (i := 0) (by omega))
            clear HUN4 hy32 hy47
            go_wp2
            go_roundw
            case rel => exact .inl ⟨a + 1, f, ACC, _, rfl, by omega, by omega, by rw [HLA.out]; omega, HSE2, HRN⟩
            case measure => simp [h8, h9]; omega
           ·have t8 : ((y : Int) == 32) = false := by simp; omega
            have HU : Hid (SeR.bad 2 a = RES) := Lib.hid (by
             have := HUN4.out
             rwa [if_neg (fun h => hy47 h.2.2), if_neg (by rintro ⟨_, h⟩; omega), if_neg (fun h => hy32 h.2)] at this)
            clear HUN4 hy32 hy47 HRN
            have HF : Hid (finS pv RES = .bad 2 (a : Int)) := Lib.hid (by rw [← HU.out]; rfl)
            exact lfSe91
         ·obtain rfl : a = N := by omega
          have t1 : decide ((a : Int) < (a : Int)) = false := by simp
          have t2 : decide (a < a) = false := by simp
          have t3 : ((a : Int) == (a : Int)) = true := by simp
          by_cases hpv1 : pv = true
          ·have HU : Hid (SeR.bad 2 a = RES) := Lib.hid (by
            have := HUN4.out
            rwa [if_neg (by rintro ⟨_, h, _⟩; omega), if_neg (by rintro ⟨h, _⟩; rw [hpv1] at h; cases h), if_neg (by rintro ⟨h, _⟩; omega)] at this)
           clear HUN4
           subst hpv1
           have HF : Hid (finS true RES = .bad 2 (a : Int)) := Lib.hid (by rw [← HU.out]; rfl)
           exact lfSe91
          ·have hpv2 : pv = false := by simpa using hpv1
           have HU : Hid (SeR.ok ACC = RES) := Lib.hid (by
            have := HUN4.out
            rwa [if_neg (by rintro ⟨_, h, _⟩; omega), if_pos ⟨hpv2, rfl⟩] at this)
           clear HUN4 hpv1
           subst hpv2
           go_wp2
           go_roundw
           case rel => exact .inr ⟨ACC, ln, A', C', a, rfl, hln6, HU, HRI⟩
           case measure => simp [h8]; omega
   ·skip
    have c0 : (wr).cell? ⟨sb, 0, none⟩ = some (.bool pv) := (HRI.out).row.cell (i := 0) (by omega)
    have c1 : (wr).cell? ⟨sb, 1, none⟩ = some (.slice A' (ln + 1) C') := (HRI.out).row.cell (i := 1) (by omega)
    have g1 := (HRI.out).row.frozen 1
    have lc : LtW sb wr := (HRI.out).row.lt
    have b0 : (wr).cell? ⟨ab, 0, none⟩ = some (.int .i64 ((i : Int))) := (HRI.out).box.cell (i := 0) (by omega)
    have gb := (HRI.out).box.frozen 0
    have lb : LtW ab wr := (HRI.out).box.lt
    have HSTR := Lib.hid HRI.out.own.str
    have HWR := Lib.hid fun w hI => rWrongS_any pv A' (ln + 1) C' ACC w hI (by omega)
    obtain ⟨wv, hwv⟩ : ∃ wv, wrS pv ACC = wv := ⟨_, rfl⟩
    rw [hwv] at HWR
    have HWV := Lib.hid hwv
    clear hwv
    go_wp2_with fail
    refine (HWR.out _ HSTR.out.2).mono ?_
    rintro r w7 ⟨rfl, hb7⟩
    have HRI2 := Lib.hid (HRI.out.grow hb7)
    clear c0 c1 g1 lc b0 gb lb
    clear hb7 HWR HRI HSTR
    have HRI := HRI2
    clear HRI2
    have c0 : (w7).cell? ⟨sb, 0, none⟩ = some (.bool pv) := (HRI.out).row.cell (i := 0) (by omega)
    have c1 : (w7).cell? ⟨sb, 1, none⟩ = some (.slice A' (ln + 1) C') := (HRI.out).row.cell (i := 1) (by omega)
    have g1 := (HRI.out).row.frozen 1
    have lc : LtW sb w7 := (HRI.out).row.lt
    have b0 : (w7).cell? ⟨ab, 0, none⟩ = some (.int .i64 ((i : Int))) := (HRI.out).box.cell (i := 0) (by omega)
    have gb := (HRI.out).box.frozen 0
    have lb : LtW ab w7 := (HRI.out).box.lt
    by_cases hw0 : wv = 0
    ·have b5 : (wv != 0) = false := by simp; omega
     have HF : Hid (finS pv RES = .ok pv ACC) := Lib.hid (by rw [← HU.out]; unfold finS; simp only; rw [if_neg (by rw [HWV.out]; simpa using hw0)])
     have oq := HRI.out.o1
     have oq2 := HRI.out.o2
     have oq3 := HRI.out.o3
     have oq4 := HRI.out.o4
     have hbq : q < base := by omega
     have hbq1 : q1 < base := by omega
     have q0 : (w7).cell? ⟨q, 0, none⟩ = some (.bool false) := (HRI.out).res.cell (i := 0) (by omega)
     have q2 : (w7).cell? ⟨q, 1, none⟩ = some (.slice none 0 0) := (HRI.out).res.cell (i := 1) (by omega)
     have s0 : (w7).cell? ⟨q1, 0, none⟩ = some (.int .i64 (0)) := (HRI.out).flt.cell (i := 0) (by omega)
     have s1 : (w7).cell? ⟨q1, 1, none⟩ = some (.int .i64 (0)) := (HRI.out).flt.cell (i := 1) (by omega)
     have d0 := (HRI.out).res.frozen 0; have d1 := (HRI.out).res.frozen 1; have e0 := (HRI.out).flt.frozen 0; have e1 := (HRI.out).flt.frozen 1
     have lq : LtW q w7 := (HRI.out).res.lt
     have lq1 : LtW q1 w7 := (HRI.out).flt.lt
     have HB1 := Lib.hid HRI.out.bel
     have HOW := Lib.hid HRI.out.own
     clear HRI
     go_wp2
     refine bodyPost_ret (v := .tuple #[.agg #[.bool pv, .slice A' (ln + 1) C'], .agg #[.int .i64 (0), .int .i64 (0)]]) (by simp [results, Tryd.results18, go_sem, q0, q2, s0, s1]) rfl ?_
     rw [HR.out, HF.out]
     have hown2 : OwnSt ((((w7.setCell ⟨q, 0, none⟩ (.bool pv)).setCell ⟨q, 1, none⟩ (.slice A' (ln + 1) C')).setCell ⟨q1, 0, none⟩ (.int .i64 (0))).setCell ⟨q1, 1, none⟩ (.int .i64 (0))) base (.slice A' (ln + 1) C') ACC := ownsRow_setCell_below (ownsRow_setCell_below (ownsRow_setCell_below (ownsRow_setCell_below HOW.out (a := ⟨q, 0, none⟩) hbq (.bool pv)) (a := ⟨q, 1, none⟩) hbq (.slice A' (ln + 1) C')) (a := ⟨q1, 0, none⟩) hbq1 (.int .i64 (0))) (a := ⟨q1, 1, none⟩) hbq1 (.int .i64 (0))
     have hs2 := hown2.str
     refine ⟨⟨A', C', ?_, ?_⟩, ?_⟩
     ·rw [← hs2.1]
     ·rw [← hs2.1]; exact hs2.2
     ·rw [HQE.out]
      exact (((HB1.out.setCell bnq _).setCell bnq _).setCell bnq _).setCell bnq _
    ·have b5 : (wv != 0) = true := by simpa using hw0
     have HF : Hid (finS pv RES = .bad wv 0) := Lib.hid (by rw [← HU.out]; unfold finS; simp only; rw [if_pos (by rw [HWV.out]; simpa using hw0), HWV.out])
     clear hw0
     go_upto_region 47 with fail
     have hrn : SJ q q1 ab sb base w 0 pv ACC (.slice A' (ln + 1) C') (w7.setCell ⟨ab, 0, none⟩ (.int .i64 (0))) := HRI.out.setAt 0
     clear c0 c1 g1 lc b0 gb lb
     clear HRI
     generalize w7.setCell ⟨ab, 0, none⟩ (.int .i64 (0)) = w9 at *
     have HRI := Lib.hid hrn
     clear hrn
     have c0 : (w9).cell? ⟨sb, 0, none⟩ = some (.bool pv) := (HRI.out).row.cell (i := 0) (by omega)
     have c1 : (w9).cell? ⟨sb, 1, none⟩ = some (.slice A' (ln + 1) C') := (HRI.out).row.cell (i := 1) (by omega)
     have g1 := (HRI.out).row.frozen 1
     have lc : LtW sb w9 := (HRI.out).row.lt
     have b0 : (w9).cell? ⟨ab, 0, none⟩ = some (.int .i64 (0)) := (HRI.out).box.cell (i := 0) (by omega)
     have gb := (HRI.out).box.frozen 0
     have lb : LtW ab w9 := (HRI.out).box.lt
     have HBX : Hid ((w9).cell? ⟨ab, 0, none⟩ = some (.int .i64 (0)) ∧ ab < (w9).heap.size) := Lib.hid ⟨b0, lb⟩
     go_wp2_with fail
     refine (rsBad_any ab wv 0 _ HBX.out.1 HBX.out.2).mono ?_
     rintro r w8 ⟨rfl, hb8⟩
     have hu8 := HRI.out.grow hb8
     have oq := hu8.o1
     have q0 : (w8).cell? ⟨q, 0, none⟩ = some (.bool false) := (hu8).res.cell (i := 0) (by omega)
     have q2 : (w8).cell? ⟨q, 1, none⟩ = some (.slice none 0 0) := (hu8).res.cell (i := 1) (by omega)
     have s0 : (w8).cell? ⟨q1, 0, none⟩ = some (.int .i64 (0)) := (hu8).flt.cell (i := 0) (by omega)
     have s1 : (w8).cell? ⟨q1, 1, none⟩ = some (.int .i64 (0)) := (hu8).flt.cell (i := 1) (by omega)
     have d0 := (hu8).res.frozen 0; have d1 := (hu8).res.frozen 1; have e0 := (hu8).flt.frozen 0; have e1 := (hu8).flt.frozen 1
     have lq : LtW q w8 := (hu8).res.lt
     have lq1 : LtW q1 w8 := (hu8).flt.lt
     have HBF := Lib.hid hu8.bel
     clear hb8 hu8 HRI HBX
     clear c0 c1 g1 lc b0 gb lb
     go_wp2
     refine bodyPost_ret (v := .tuple #[.agg #[.bool false, .slice none 0 0], .agg #[.int .i64 (wv), .int .i64 (0)]]) (by simp [results, Tryd.results18, go_sem, q0, q2, s0, s1]) rfl ?_
     rw [HR.out, HF.out]
     refine ⟨rfl, ?_⟩
     rw [HQE.out]
     exact (((HBF.out.setCell bnq _).setCell bnq _).setCell bnq _).setCell bnq _
end
end Go.Proofs.YtnlnonmgekciaaaDoor
