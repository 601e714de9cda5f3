/- Lemmas on which the law of this seat rests; each states its own conditions. -/
import Derived.Test.YtnlnonmgekciaaaDoorB05
import Derived.Deep.CutBlock
import Derived.Test.YtnlnonmgekciaaaDoorB02
set_option linter.unusedVariables false
set_option linter.unusedSimpArgs false
namespace Go.Proofs.YtnlnonmgekciaaaDoor
section
open Go.RowKit
open Se
open By (bytesOf hasAt sgL colAt)
set_option maxRecDepth 100000 in
theorem lfSe70 {P : Prop} (h : P := by
 go_wp2_with fail
 refine (sBad_any 2 (a : Int) _).mono ?_
 rintro r w8 ⟨rfl, hb8⟩
 have hu8 := HRI.out.grow hb8
 have oq := hu8.o1
 have q0 : (w8).cell? ⟨q, 0, none⟩ = some (.bool false) := (hu8).res.cell (i := 0) (by omega)
 have q2 : (w8).cell? ⟨q, 1, none⟩ = some (.slice none 0 0) := (hu8).res.cell (i := 1) (by omega)
 have s0 : (w8).cell? ⟨q1, 0, none⟩ = some (.int .i64 (0)) := (hu8).flt.cell (i := 0) (by omega)
 have s1 : (w8).cell? ⟨q1, 1, none⟩ = some (.int .i64 (0)) := (hu8).flt.cell (i := 1) (by omega)
 have d0 := (hu8).res.frozen 0; have d1 := (hu8).res.frozen 1; have e0 := (hu8).flt.frozen 0; have e1 := (hu8).flt.frozen 1
 have lq : LtW q w8 := (hu8).res.lt
 have lq1 : LtW q1 w8 := (hu8).flt.lt
 have HBF := Lib.hid hu8.bel
 clear hb8 hu8 HRI
 clear c0 c1 g1 lc
 go_wp2
 refine bodyPost_ret (v := .tuple #[.agg #[.bool false, .slice none 0 0], .agg #[.int .i64 (2), .int .i64 ((a : Int))]]) (by simp [results, Tryd.results17, go_sem, q0, q2, s0, s1]) rfl ?_
 rw [HR.out, HF.out]
 refine ⟨rfl, ?_⟩
 rw [HQE.out]
 exact (((HBF.out.setCell bnq _).setCell bnq _).setCell bnq _).setCell bnq _) : P := h
set_option maxRecDepth 100000 in
theorem lfSe71 {P : Prop} (h : P := by
 have HF : Hid (finS pv RES = .bad 3 (p : Int)) := Lib.hid (by rw [← HU.out]; rfl)
 go_wp2_with fail
 refine (sBad_any 3 (p : Int) _).mono ?_
 rintro r w8 ⟨rfl, hb8⟩
 have hu8 := HRI.out.grow hb8
 have oq := hu8.o1
 have q0 : (w8).cell? ⟨q, 0, none⟩ = some (.bool false) := (hu8).res.cell (i := 0) (by omega)
 have q2 : (w8).cell? ⟨q, 1, none⟩ = some (.slice none 0 0) := (hu8).res.cell (i := 1) (by omega)
 have s0 : (w8).cell? ⟨q1, 0, none⟩ = some (.int .i64 (0)) := (hu8).flt.cell (i := 0) (by omega)
 have s1 : (w8).cell? ⟨q1, 1, none⟩ = some (.int .i64 (0)) := (hu8).flt.cell (i := 1) (by omega)
 have d0 := (hu8).res.frozen 0; have d1 := (hu8).res.frozen 1; have e0 := (hu8).flt.frozen 0; have e1 := (hu8).flt.frozen 1
 have lq : LtW q w8 := (hu8).res.lt
 have lq1 : LtW q1 w8 := (hu8).flt.lt
 have HBF := Lib.hid hu8.bel
 clear hb8 hu8 HRI
 clear c0 c1 g1 lc
 go_wp2
 refine bodyPost_ret (v := .tuple #[.agg #[.bool false, .slice none 0 0], .agg #[.int .i64 (3), .int .i64 ((p : Int))]]) (by simp [results, Tryd.results17, go_sem, q0, q2, s0, s1]) rfl ?_
 rw [HR.out, HF.out]
 refine ⟨rfl, ?_⟩
 rw [HQE.out]
 exact (((HBF.out.setCell bnq _).setCell bnq _).setCell bnq _).setCell bnq _) : P := h
theorem lfSe72 {P : Prop} (h : P := by
 go_wp2
 go_roundw
 case rel => exact ⟨a + 1, f, ACC, _, rfl, by omega, by omega, by rw [HLA.out]; omega, HSE2, HRI⟩
 case measure => simp [intOf]; omega) : P := h
set_option maxRecDepth 100000 in
set_option maxHeartbeats 8000000 in
theorem seRead_any (s : ByteArray) (w : World) (hs : s.size ≤ 9223372036854775807) (hT : Tabs w) : Calls Tryd.prog 17 #[.string s] w (SePost (readSe (bytesOf s)) w) := by
 have hBL := By.bytesOf_len s
 have hB := By.bytesOf_lt s
 obtain ⟨N, hN⟩ : ∃ N, s.size = N := ⟨_, rfl⟩
 have HCU := Lib.hid (fun w => cut_ok s w)
 have HIX : Hid (∀ k, k < N → ∀ w, (Instr.index 9 (.string s) (.int .i64 (k))).run Tryd.prog w = .ok (.int .u8 ((bytesOf s).getD k 0 : Nat)) w) := Lib.hid fun k h w => index_atS s (by omega) w
 have HCO : Hid (∀ i, i ≤ N → ∀ w, Tabs w → Calls Tryd.prog 37 #[.string (s.extract i N)] w fun r w' => r = .returned (.tuple #[.int .i64 (colB ((bytesOf s).drop i)).1, .int .i64 (colB ((bytesOf s).drop i)).2]) ∧ Below w.heap.size w w') := Lib.hid fun i hi w hT => by
  have h := chColour_ok (s.extract i N) w hT
  rw [← hN, bytesOf_tail] at h
  rwa [hN] at h
 have HSF : Hid (∀ i, i ≤ N → ∀ w, (Instr.slice 9 (.string s) (some (.int .i64 ((i : Int)))) none none).run Tryd.prog w = .ok (.string (s.extract i N)) w) := Lib.hid fun i hi w => by
  have h := by_from s i (by omega) w
  rwa [hN] at h
 have HSL : Hid (∀ a b, a ≤ b → b ≤ N → ∀ w, (Instr.slice 9 (.string s) (some (.int .i64 ((a : Int)))) (some (.int .i64 ((b : Int)))) none).run Tryd.prog w = .ok (.string (s.extract a b)) w) := Lib.hid fun a b h1 h2 w => by_slice s a b h1 (by omega) w
 rw [hN] at hBL hs HCU
 have HN := Lib.hid hN
 have HBL := Lib.hid hBL
 have HT := Lib.hid hT
 have hl1 := World.block_lt_of_cell? _ _ (hT.1 0 (by omega))
 have hl2 := World.block_lt_of_cell? _ _ (hT.2 0 (by omega)).1
 have HLT := Lib.hid (And.intro hl1 hl2)
 have hsz : s.size = N := hN
 clear hN hBL hT hl1 hl2
 by_cases hm : 65536 < N
 ·have d1 : decide ((N : Int) > 65536) = true := by simp; omega
  have d2 : decide (65536 < N) = true := by simpa using hm
  have d3 : decide ((65536 : Int) < N) = true := by simp; omega
  have HR : Hid (readSe (bytesOf s) = .bad 4 0) := Lib.hid (by unfold readSe; rw [if_pos (by rw [HBL.out]; exact hm)])
  clear hm hB HCU HIX HCO HSF HSL
  go_enter Tryd.func17, Tryd.ntmps17
  (go_wp2_with fail; refine (sBad_any 4 0 _).mono ?_; rintro r w1 ⟨rfl, hb⟩; obtain ⟨E, d, rfl⟩ := bExt hb; clear hb)
  go_wp2
  refine bodyPost_ret (v := .tuple #[.agg #[.bool false, .slice none 0 0], .agg #[.int .i64 (4), .int .i64 (0)]]) (by simp [results, Tryd.results17, go_sem]) rfl ?_
  rw [HR.out]
  exact ⟨rfl, blw⟩
 ·have d1 : decide ((N : Int) > 65536) = false := by simp; omega
  have d2 : decide (65536 < N) = false := by simpa using hm
  have d3 : decide ((65536 : Int) < N) = false := by simp; omega
  obtain ⟨pv, hpv⟩ : ∃ pv, pvB (bytesOf s) = pv := ⟨_, rfl⟩
  obtain ⟨RES, hRES⟩ : ∃ RES, seF (bytesOf s) pv (N + 1) pv.toNat [] = RES := ⟨_, rfl⟩
  have HR : Hid (readSe (bytesOf s) = finS pv RES) := Lib.hid (by rw [readSe_eq, if_neg (by rw [HBL.out]; exact hm), hpv, HBL.out, hRES])
  have hN6 : N ≤ 65536 := by omega
  have hpn : pv.toNat ≤ N := by
   cases pv with
   | false => simp
   | true =>
    unfold pvB at hpv
    rw [decide_eq_true_eq, HBL.out] at hpv
    simp
    omega
  have HB := Lib.hid hB
  have HRES := Lib.hid hRES
  rw [hpv] at HCU
  clear hm hB hRES hpv
  go_enter Tryd.func17, Tryd.ntmps17
  go_wp2_with fail
  refine (HCU.out _).mono ?_
  rintro r w1 ⟨⟨t, ht, rfl⟩, hb⟩
  have hv : IntKind.i64.wrap ((N : Int) - (t.size : Int)) = ((pv.toNat : Nat) : Int) := by
   rw [show (N : Int) - (t.size : Int) = ((pv.toNat : Nat) : Int) by omega]
   exact IntWalk.i64_in _ (by omega)
  clear d1 d2 d3 HCU
  go_upto_block 0 with fail
  have hri : SI w.heap.size (w.heap.size + 1) w1.heap.size (w1.heap.size + 1) w pv [] (.slice none 0 0) (w1.alloc (.cells #[.bool pv, .slice none 0 0] 24)) := by
   have a1 := (stS_alloc w false none 0 0).alloc (.cells #[.int .i64 0, .int .i64 0] 38)
   have a2 := ftS_alloc (w.alloc (.cells #[.bool false, .slice none 0 0] 24)) 0 0
   rw [World.size_alloc] at a2
   have hz := hb.size
   simp only [World.size_alloc] at hz
   have hbw : Below w.heap.size w w1 := Below.trans blw (hb.mono (by simp; omega))
   exact ⟨(rowBelow a1 hb (by simp; omega)).alloc _, (rowBelow a2 hb (by simp)).alloc _, stS_alloc w1 pv none 0 0, OwnSt.nil _ _ 0, hbw.alloc (by omega) _, by simp, by omega, by omega, by omega⟩
  have HQE0 : Hid (w.heap.size = w.heap.size) := Lib.hid rfl
  obtain ⟨q, hq⟩ : ∃ q, q = w.heap.size := ⟨_, rfl⟩
  obtain ⟨q1, hq1⟩ : ∃ q1, q1 = w.heap.size + 1 := ⟨_, rfl⟩
  obtain ⟨sb, hsb⟩ : ∃ sb, sb = w1.heap.size := ⟨_, rfl⟩
  obtain ⟨base, hbase⟩ : ∃ base, base = w1.heap.size + 1 := ⟨_, rfl⟩
  rw [← hbase, ← hsb, ← hq1, ← hq] at hri
  rw [← hsb, ← hq1, ← hq]
  have HQE : Hid (w.heap.size = q) := Lib.hid hq.symm
  have HTB : Hid (∀ wx, Below q w wx → Tabs wx) := Lib.hid fun wx h => HT.out.below (by rw [HQE.out]; exact h)
  clear hq hq1 hsb hbase hb hv ht HT HLT HQE0
  generalize w1.alloc (.cells #[.bool pv, .slice none 0 0] 24) = w2 at *
  have HRI0 := Lib.hid hri
  clear hri
  go_cut [7] (fun av wx => ∃ (ACC : List St) (ln : Nat) (A' : Option Addr) (C' : Nat), ln < 256 ∧ Hid (SeR.ok ACC = RES) ∧ Hid (SI q q1 sb base w pv ACC (.slice A' (ln + 1) C') wx))
  case first =>
   go_wp2_with fail
   go_loopw [7] (fun iv wr => ∃ (i f : Nat) (acc : List St) (v : Value), iv = .int .i64 i ∧ i ≤ N ∧ N + 1 ≤ i + f ∧ acc.length ≤ 256 ∧ Hid (seF (bytesOf s) pv f i acc = RES) ∧ Hid (SI q q1 sb base w pv acc v wr)) (fun iv _ => N + 1 - (intOf iv).toNat)
   case atStart => exact ⟨pv.toNat, N + 1, [], _, rfl, hpn, by omega, by simp, HRES, HRI0⟩
   case round =>
    obtain ⟨i, f, acc, v, rfl, hiN, hf, hacc, HSE, HRI⟩ := hrel
    clear HRI0 HRES hpn
    obtain ⟨f, rfl⟩ : ∃ f', f = f' + 1 := ⟨f - 1, by omega⟩
    obtain ⟨A, C, rfl⟩ := HRI.out.own.val
    have hcc := HCO.out i hiN wr (HTB.out _ HRI.out.bel)
    rw [colB_drop] at hcc
    have hun := HSE.out
    unfold seF at hun
    obtain ⟨ln, hln⟩ : ∃ ln, acc.length = ln := ⟨_, rfl⟩
    have HLN := Lib.hid hln
    rw [hln] at hacc hun
    have hr9 := HRI.out
    rw [hln] at hr9
    clear hln HRI
    have c0 : (wr).cell? ⟨sb, 0, none⟩ = some (.bool pv) := (hr9).row.cell (i := 0) (by omega)
    have c1 : (wr).cell? ⟨sb, 1, none⟩ = some (.slice A ln C) := (hr9).row.cell (i := 1) (by omega)
    have g1 := (hr9).row.frozen 1
    have lc : LtW sb wr := (hr9).row.lt
    have HRI := Lib.hid hr9
    clear hr9
    have hsf := HSF.out i hiN
    cases hcol : colAt (bytesOf s) i with
    | none =>
     rw [hcol] at hun hcc
     simp only at hun hcc
     have HU := Lib.hid hun
     clear hun hcol HSE
     go_wp2_with fail
     refine hcc.mono ?_
     rintro r w3 ⟨rfl, hb3⟩
     have HRI2 := Lib.hid (HRI.out.grow hb3)
     clear hb3 hcc HRI
     have HRI := HRI2
     clear HRI2
     have HF : Hid (finS pv RES = .bad 2 (i : Int)) := Lib.hid (by rw [← HU.out]; rfl)
     go_wp2_with fail
     refine (sBad_any 2 (i : Int) _).mono ?_
     rintro r w8 ⟨rfl, hb8⟩
     have hu8 := HRI.out.grow hb8
     have oq := hu8.o1
     have q0 : (w8).cell? ⟨q, 0, none⟩ = some (.bool false) := (hu8).res.cell (i := 0) (by omega)
     have q2 : (w8).cell? ⟨q, 1, none⟩ = some (.slice none 0 0) := (hu8).res.cell (i := 1) (by omega)
     have s0 : (w8).cell? ⟨q1, 0, none⟩ = some (.int .i64 (0)) := (hu8).flt.cell (i := 0) (by omega)
     have s1 : (w8).cell? ⟨q1, 1, none⟩ = some (.int .i64 (0)) := (hu8).flt.cell (i := 1) (by omega)
     have d0 := (hu8).res.frozen 0; have d1 := (hu8).res.frozen 1; have e0 := (hu8).flt.frozen 0; have e1 := (hu8).flt.frozen 1
     have lq : LtW q w8 := (hu8).res.lt
     have lq1 : LtW q1 w8 := (hu8).flt.lt
     have HBF := Lib.hid hu8.bel
     clear hb8 hu8 HRI
     clear c0 c1 g1 lc
     go_wp2
     refine bodyPost_ret (v := .tuple #[.agg #[.bool false, .slice none 0 0], .agg #[.int .i64 (2), .int .i64 ((i : Int))]]) (by simp [results, Tryd.results17, go_sem, q0, q2, s0, s1]) rfl ?_
     rw [HR.out, HF.out]
     refine ⟨rfl, ?_⟩
     rw [HQE.out]
     exact (((HBF.out.setCell bnq _).setCell bnq _).setCell bnq _).setCell bnq _
    | some k =>
     obtain ⟨k62, hat⟩ := (By.colAt_some HB.out).1 hcol
     have hbd := By.hasAt_bd hat (by have := (By.sgL_len k).1; intro e; rw [e] at this; simp at this)
     rw [HBL.out] at hbd
     rw [hcol] at hun hcc
     simp only at hun hcc
     have hm1 := (By.sgL_len k).1
     have hm3 := (By.sgL_len k).2
     generalize (sgL k).length = m at *
     obtain ⟨p, hp⟩ : ∃ p, i + m = p := ⟨_, rfl⟩
     rw [hp] at hun hbd
     have HUN := Lib.hid hun
     clear hun hcol HSE hat
     have b1 : ((m : Int) == 0) = false := by simp; omega
     have hv : IntKind.i64.wrap ((i : Int) + (m : Int)) = (p : Int) := by
      rw [show (i : Int) + (m : Int) = (p : Int) by omega]
      exact IntWalk.i64_in _ (by omega)
     have hip : i < p := by omega
     go_wp2_with fail
     refine hcc.mono ?_
     rintro r w3 ⟨rfl, hb3⟩
     have HRI2 := Lib.hid (HRI.out.grow hb3)
     clear c0 c1 g1 lc
     clear hb3 hcc HRI hsf
     have HRI := HRI2
     clear HRI2
     go_upto_block 2 with fail
     clear b1 hv hp hm1 hm3
     go_cut [7] (fun av wx => ∃ a : Nat, av = .int .i64 (a : Int) ∧ p ≤ a ∧ a ≤ N ∧ Hid (∀ x, p ≤ x → x < a → x < N ∧ isDig ((bytesOf s).getD x 0) = true) ∧ Hid (a = N ∨ isDig ((bytesOf s).getD a 0) = false) ∧ wx = w3)
     case first =>
      go_wp2_with fail
      go_loopw [7] (fun av wx => ∃ a : Nat, av = .int .i64 (a : Int) ∧ p ≤ a ∧ a ≤ N ∧ Hid (∀ x, p ≤ x → x < a → x < N ∧ isDig ((bytesOf s).getD x 0) = true) ∧ wx = w3) (fun av _ => N + 1 - (intOf av).toNat)
      case atStart => exact ⟨p, rfl, Nat.le_refl _, hbd, Lib.hid (by omega), rfl⟩
      case round =>
       obtain ⟨a, rfl, hpa, hj, HJ, rfl⟩ := hrel
       by_cases hjN : a < N
       ·have ix := HIX.out a hjN
        obtain ⟨z, hz⟩ : ∃ z, (bytesOf s).getD a 0 = z := ⟨_, rfl⟩
        rw [hz] at ix
        have HZ := Lib.hid hz
        have HP := Lib.hid hjN
        clear hz
        have t1 : decide ((a : Int) < (N : Int)) = true := by simp; omega
        have t2 : decide (a < N) = true := by simpa using hjN
        rcases (show z < 48 ∨ (48 ≤ z ∧ z ≤ 57) ∨ (48 ≤ z ∧ 57 < z) by omega) with h | ⟨h, h2⟩ | ⟨h, h2⟩
        all_goals
         try have f1t : decide ((z : Int) ≥ 48) = true := by simp; omega
         try have f1f : decide ((z : Int) ≥ 48) = false := by simp; omega
         try have f1bt : decide ((48 : Int) ≤ (z : Int)) = true := by simp; omega
         try have f1bf : decide ((48 : Int) ≤ (z : Int)) = false := by simp; omega
         try have f1ct : decide (48 ≤ z) = true := by simp; omega
         try have f1cf : decide (48 ≤ z) = false := by simp; omega
         try have f2t : decide ((z : Int) ≤ 57) = true := by simp; omega
         try have f2f : decide ((z : Int) ≤ 57) = false := by simp; omega
         try have f2bt : decide (z ≤ 57) = true := by simp; omega
         try have f2bf : decide (z ≤ 57) = false := by simp; omega
        ·have HD : Hid (isDig ((bytesOf s).getD a 0) = false) := Lib.hid (by rw [HZ.out]; unfold isDig; rw [decide_eq_false_iff_not]; omega)
         clear h
         go_wp2
         go_meet
         exact ⟨a, rfl, hpa, hj, HJ, Lib.hid (.inr HD.out), rfl⟩
        ·have HD : Hid (isDig ((bytesOf s).getD a 0) = true) := Lib.hid (by rw [HZ.out]; unfold isDig; rw [decide_eq_true_eq]; omega)
         clear h h2
         go_wp2
         go_roundw
         case rel => exact ⟨a + 1, by go_num, by omega, by omega, Lib.hid (fun x hx1 hx => by
          by_cases e : x = a
          ·subst e; exact ⟨HP.out, HD.out⟩
          ·exact HJ.out x hx1 (by omega)), by first | rfl | trivial⟩
         case measure => simp [intOf]; omega
        ·have HD : Hid (isDig ((bytesOf s).getD a 0) = false) := Lib.hid (by rw [HZ.out]; unfold isDig; rw [decide_eq_false_iff_not]; omega)
         clear h h2
         go_wp2
         go_meet
         exact ⟨a, rfl, hpa, hj, HJ, Lib.hid (.inr HD.out), rfl⟩
       ·have t1 : decide ((a : Int) < (N : Int)) = false := by simp; omega
        have t2 : decide (a < N) = false := by simpa using hjN
        have HE : Hid (a = N) := Lib.hid (by omega)
        go_wp2
        go_meet
        exact ⟨a, rfl, hpa, hj, HJ, Lib.hid (.inl HE.out), rfl⟩
     obtain ⟨a, rfl, hpa, haN, HJ, HJE, rfl⟩ := hcut
     have hdg := dgs_at (B := bytesOf s) (p := p) (j := a - p) (fun x hx => by
      have := HJ.out (p + x) (by omega) (by omega)
      rwa [HBL.out]) (by
      rcases HJE.out with h | h
      ·left; rw [HBL.out]; omega
      ·right; rw [show p + (a - p) = a by omega]; exact h) (by rw [HBL.out]; omega)
     obtain ⟨hD, hDl⟩ := hdg
     have hun := HUN.out
     have hDs : bytesOf (s.extract p a) = dgs (bytesOf s) p := by
      rw [hD]
      have := By.bytesOf_extract s p (a - p) (by omega)
      rwa [show p + (a - p) = a by omega] at this
     have hdig := dgs_dig (B := bytesOf s) (p := p)
     clear hD HJ HJE HUN
     generalize dgs (bytesOf s) p = D at *
     rw [hDl, show p + (a - p) = a by omega, HBL.out] at hun
     have hez : (s.extract p a).size = a - p := by rw [← By.bytesOf_len, hDs, hDl]
     have hemp := toL_empty (s.extract p a)
     rw [hez] at hemp
     have HUN := Lib.hid hun
     have HDS := Lib.hid hDs; have HDL := Lib.hid hDl; have HDG := Lib.hid hdig
     have hsl := HSL.out p a hpa haN
     clear hun hDs hDl hdig
     have c0 : (wc).cell? ⟨sb, 0, none⟩ = some (.bool pv) := (HRI.out).row.cell (i := 0) (by omega)
     have c1 : (wc).cell? ⟨sb, 1, none⟩ = some (.slice A ln C) := (HRI.out).row.cell (i := 1) (by omega)
     have g1 := (HRI.out).row.frozen 1
     have lc : LtW sb wc := (HRI.out).row.lt
     by_cases hap : a = p
     ·have hemp2 : (s.extract p a).toList.isEmpty = true := by rw [hemp, decide_eq_true (by omega)]
      have HU : Hid (SeR.bad 2 p = RES) := Lib.hid (by
       have h0 : D = [] := List.length_eq_zero_iff.1 (by rw [HDL.out]; omega)
       have := HUN.out
       rwa [if_pos (.inl h0)] at this)
      subst hap
      clear hemp hez HUN HDS HDL HDG
      have HF : Hid (finS pv RES = .bad 2 (a : Int)) := Lib.hid (by rw [← HU.out]; rfl)
      exact lfSe70
     ·have hemp2 : (s.extract p a).toList.isEmpty = false := by rw [hemp, decide_eq_false (by omega)]
      have hpos : 0 < a - p := by omega
      obtain ⟨z, hz⟩ : ∃ z, D.getD 0 0 = z := ⟨_, rfl⟩
      have hix : ∀ h : 0 < (s.extract p a).size, ((s.extract p a)[0]'h).toNat = z := fun h => by
       rw [← bytesOf_getS (s.extract p a) h, HDS.out]
       exact hz
      have HZ : Hid (D.headD 0 = z) := Lib.hid (by rw [← hz]; cases D <;> rfl)
      have HNE : Hid (D ≠ []) := Lib.hid (by intro e; have := HDL.out; rw [e] at this; simp at this; omega)
      clear hz hemp
      by_cases hz48 : z = 48
      ·have b2 : ((z : Int) == 48) = true := by simp; omega
       have HU : Hid (SeR.bad 2 p = RES) := Lib.hid (by
        have := HUN.out
        rwa [if_pos (.inr (by rw [HZ.out]; exact hz48))] at this)
       clear HUN hz48
       have HF : Hid (finS pv RES = .bad 2 (p : Int)) := Lib.hid (by rw [← HU.out]; rfl)
       go_wp2_with fail
       refine (sBad_any 2 (p : Int) _).mono ?_
       rintro r w8 ⟨rfl, hb8⟩
       have hu8 := HRI.out.grow hb8
       have oq := hu8.o1
       have q0 : (w8).cell? ⟨q, 0, none⟩ = some (.bool false) := (hu8).res.cell (i := 0) (by omega)
       have q2 : (w8).cell? ⟨q, 1, none⟩ = some (.slice none 0 0) := (hu8).res.cell (i := 1) (by omega)
       have s0 : (w8).cell? ⟨q1, 0, none⟩ = some (.int .i64 (0)) := (hu8).flt.cell (i := 0) (by omega)
       have s1 : (w8).cell? ⟨q1, 1, none⟩ = some (.int .i64 (0)) := (hu8).flt.cell (i := 1) (by omega)
       have d0 := (hu8).res.frozen 0; have d1 := (hu8).res.frozen 1; have e0 := (hu8).flt.frozen 0; have e1 := (hu8).flt.frozen 1
       have lq : LtW q w8 := (hu8).res.lt
       have lq1 : LtW q1 w8 := (hu8).flt.lt
       have HBF := Lib.hid hu8.bel
       clear hb8 hu8 HRI
       clear c0 c1 g1 lc
       go_wp2
       refine bodyPost_ret (v := .tuple #[.agg #[.bool false, .slice none 0 0], .agg #[.int .i64 (2), .int .i64 ((p : Int))]]) (by simp [results, Tryd.results17, go_sem, q0, q2, s0, s1]) rfl ?_
       rw [HR.out, HF.out]
       refine ⟨rfl, ?_⟩
       rw [HQE.out]
       exact (((HBF.out.setCell bnq _).setCell bnq _).setCell bnq _).setCell bnq _
      ·have b2 : ((z : Int) == 48) = false := by simp; omega
       by_cases h4 : 4 < a - p
       ·have b3 : decide (((a - p : Nat) : Int) > 4) = true := by simp; omega
        have b3b : decide ((4 : Int) < ((a - p : Nat) : Int)) = true := by simp; omega
        have b3c : decide (4 < a - p) = true := by simpa using h4
        have HU : Hid (SeR.bad 3 p = RES) := Lib.hid (by
         have h5 := valN_four (d := D) HDG.out (by rw [HZ.out]; exact hz48) (by rw [HDL.out]; exact h4)
         have := HUN.out
         rwa [if_neg (by rintro (h | h); exact HNE.out h; rw [HZ.out] at h; exact hz48 h), if_pos h5] at this)
        clear HUN hz48
        exact lfSe71
       ·have b3 : decide (((a - p : Nat) : Int) > 4) = false := by simp; omega
        have b3b : decide ((4 : Int) < ((a - p : Nat) : Int)) = false := by simp; omega
        have b3c : decide (4 < a - p) = false := by simpa using h4
        have hat := fun w => atoi_ok (s.extract p a) w (by rw [HDS.out]; exact HNE.out) (by rw [HDS.out]; exact HDG.out) (by omega)
        rw [HDS.out] at hat
        have HUN2 : Hid ((if 4096 < valN D then SeR.bad 3 p else if 256 ≤ ln then .bad 5 i else if pv = true ∧ a < N ∧ (bytesOf s).getD a 0 = 47 then (if a + 1 < N then .bad 2 (a + 1) else .ok (acc ++ [((k : Int), (valN D : Int))])) else if pv = false ∧ a = N then .ok (acc ++ [((k : Int), (valN D : Int))]) else if a < N ∧ (bytesOf s).getD a 0 = 32 then seF (bytesOf s) pv f (a + 1) (acc ++ [((k : Int), (valN D : Int))]) else .bad 2 a) = RES) := Lib.hid (by
         have := HUN.out
         rwa [if_neg (by rintro (h | h); exact HNE.out h; rw [HZ.out] at h; exact hz48 h)] at this)
        clear HUN hz48 HDG HZ HNE
        generalize valN D = val at *
        go_wp2_with fail
        refine (hat _).mono ?_
        rintro r w4 ⟨rfl, hb4⟩
        have HRI2 := Lib.hid (HRI.out.grow hb4)
        clear c0 c1 g1 lc
        clear hb4 hat HRI hsl hix b2 b3 b3b b3c hpos hemp2 h4 HDL
        have HRI := HRI2
        clear HRI2
        have c0 : (w4).cell? ⟨sb, 0, none⟩ = some (.bool pv) := (HRI.out).row.cell (i := 0) (by omega)
        have c1 : (w4).cell? ⟨sb, 1, none⟩ = some (.slice A ln C) := (HRI.out).row.cell (i := 1) (by omega)
        have g1 := (HRI.out).row.frozen 1
        have lc : LtW sb w4 := (HRI.out).row.lt
        by_cases hv4 : 4096 < val
        ·have b3 : decide ((val : Int) > 4096) = true := by simp; omega
         have b3b : decide ((4096 : Int) < (val : Int)) = true := by simp; omega
         have b3c : decide (4096 < val) = true := by simpa using hv4
         have HU : Hid (SeR.bad 3 p = RES) := Lib.hid (by
          have := HUN2.out
          rwa [if_pos hv4] at this)
         clear HUN2 hv4
         exact lfSe71
        ·have b3 : decide ((val : Int) > 4096) = false := by simp; omega
         have b3b : decide ((4096 : Int) < (val : Int)) = false := by simp; omega
         have b3c : decide (4096 < val) = false := by simpa using hv4
         by_cases hl6 : 256 ≤ ln
         ·have b4 : ((ln : Int) == 256) = true := by simp; omega
          have HU : Hid (SeR.bad 5 i = RES) := Lib.hid (by
           have := HUN2.out
           rwa [if_neg hv4, if_pos hl6] at this)
          clear HUN2 hv4 hl6
          have HF : Hid (finS pv RES = .bad 5 (i : Int)) := Lib.hid (by rw [← HU.out]; rfl)
          go_wp2_with fail
          refine (sBad_any 5 (i : Int) _).mono ?_
          rintro r w8 ⟨rfl, hb8⟩
          have hu8 := HRI.out.grow hb8
          have oq := hu8.o1
          have q0 : (w8).cell? ⟨q, 0, none⟩ = some (.bool false) := (hu8).res.cell (i := 0) (by omega)
          have q2 : (w8).cell? ⟨q, 1, none⟩ = some (.slice none 0 0) := (hu8).res.cell (i := 1) (by omega)
          have s0 : (w8).cell? ⟨q1, 0, none⟩ = some (.int .i64 (0)) := (hu8).flt.cell (i := 0) (by omega)
          have s1 : (w8).cell? ⟨q1, 1, none⟩ = some (.int .i64 (0)) := (hu8).flt.cell (i := 1) (by omega)
          have d0 := (hu8).res.frozen 0; have d1 := (hu8).res.frozen 1; have e0 := (hu8).flt.frozen 0; have e1 := (hu8).flt.frozen 1
          have lq : LtW q w8 := (hu8).res.lt
          have lq1 : LtW q1 w8 := (hu8).flt.lt
          have HBF := Lib.hid hu8.bel
          clear hb8 hu8 HRI
          clear c0 c1 g1 lc
          go_wp2
          refine bodyPost_ret (v := .tuple #[.agg #[.bool false, .slice none 0 0], .agg #[.int .i64 (5), .int .i64 ((i : Int))]]) (by simp [results, Tryd.results17, go_sem, q0, q2, s0, s1]) rfl ?_
          rw [HR.out, HF.out]
          refine ⟨rfl, ?_⟩
          rw [HQE.out]
          exact (((HBF.out.setCell bnq _).setCell bnq _).setCell bnq _).setCell bnq _
         ·have b4 : ((ln : Int) == 256) = false := by simp; omega
          have HUN3 : Hid ((if pv = true ∧ a < N ∧ (bytesOf s).getD a 0 = 47 then (if a + 1 < N then SeR.bad 2 (a + 1) else .ok (acc ++ [((k : Int), (val : Int))])) else if pv = false ∧ a = N then .ok (acc ++ [((k : Int), (val : Int))]) else if a < N ∧ (bytesOf s).getD a 0 = 32 then seF (bytesOf s) pv f (a + 1) (acc ++ [((k : Int), (val : Int))]) else .bad 2 a) = RES) := Lib.hid (by
           have := HUN2.out
           rwa [if_neg hv4, if_neg hl6] at this)
          have how : w4.ownsRow base 44 2 (.slice A ln C) ln (strK acc) := by
           have := HRI.out.own
           unfold OwnSt at this
           rwa [HLN.out] at this
          have hln6 : ln < 256 := by omega
          have hsz4 := HRI.out.siz
          have hsb4 := HRI.out.o3
          have hob := own_baseS HRI.out.own
          clear HUN2 hv4 hl6
          go_wp2_with (at_builtin; refine wpAppG okStr rfl (.tmp 125) (.tmp 129) rfl base _ ln (strK acc) #[.int .i64 (k), .int .i64 (val)] w4.heap.size rfl (how.alloc _) rfl ?_ rfl ?_ (by omega) (by omega) (by rw [World.size_alloc]; omega) ?_)
          ·intro j u hu
           have hj : j < 2 := (Array.getElem?_eq_some_iff.1 hu).1
           have hj2 : j = 0 ∨ j = 1 := by omega
           rcases hj2 with rfl | rfl
           ·simp at hu; subst hu; simp [go_sem]
           ·simp at hu; subst hu; simp [go_sem]
          ·simp [Value.oneCell']
          intro v' w5 hown5 hg5
          have hb5 : Below base w4 w5 := ((Below.refl base w4).alloc hsz4 _).trans (belowGrown hg5 (by rw [World.size_alloc]; omega) hob)
          have hown6 : OwnSt w5 base v' (acc ++ [((k : Int), (val : Int))]) := OwnSt.snoc HLN.out (by simpa using hown5)
          obtain ⟨A', C', rfl⟩ := own_form hown5
          have hrn := HRI.out.app hb5 hown6
          have c1' := (hb5.cell (p := ⟨sb, 1, none⟩) hsb4).trans c1
          have g1' := (hb5.frozen (p := ⟨sb, 1, none⟩) hsb4).trans g1
          have lc' : LtW sb w5 := Nat.lt_of_lt_of_le lc hb5.size
          clear c0 c1 g1 lc
          clear hb5 hown6 hown5 hg5 HRI how hob hsz4 b3 b3b b3c b4
          go_upto_region 29 with fail
          clear c1' g1' lc'
          generalize w5.setCell ⟨sb, 1, none⟩ (.slice A' (ln + 1) C') = w6 at *
          have HRI := Lib.hid hrn
          clear hrn
          have c0 : (w6).cell? ⟨sb, 0, none⟩ = some (.bool pv) := (HRI.out).row.cell (i := 0) (by omega)
          have c1 : (w6).cell? ⟨sb, 1, none⟩ = some (.slice A' (ln + 1) C') := (HRI.out).row.cell (i := 1) (by omega)
          have g1 := (HRI.out).row.frozen 1
          have lc : LtW sb w6 := (HRI.out).row.lt
          have HLA : Hid ((acc ++ [((k : Int), (val : Int))]).length = ln + 1) := Lib.hid (by rw [List.length_append, HLN.out]; rfl)
          obtain ⟨ACC, hACC⟩ : ∃ ACC, acc ++ [((k : Int), (val : Int))] = ACC := ⟨_, rfl⟩
          rw [hACC] at HUN3 HRI HLA
          clear hACC
          have hw1 : IntKind.i64.wrap ((a : Int) + 1) = (a : Int) + 1 := IntWalk.i64_in _ (by omega)
          by_cases haN2 : a < N
          ·have ix := HIX.out a haN2
           obtain ⟨y, hy⟩ : ∃ y, (bytesOf s).getD a 0 = y := ⟨_, rfl⟩
           rw [hy] at ix HUN3
           clear hy
           have t1 : decide ((a : Int) < (N : Int)) = true := by simp; omega
           have t2 : decide (a < N) = true := by simpa using haN2
           have t3 : ((a : Int) == (N : Int)) = false := by simp; omega
           have t4 : (a == N) = false := by simp; omega
           by_cases hy47 : pv = true ∧ y = 47
           ·obtain ⟨hpv1, hy1⟩ := hy47
            have t5 : ((y : Int) == 47) = true := by simp; omega
            by_cases ha1 : a + 1 < N
            ·have t6 : decide ((a : Int) + 1 < (N : Int)) = true := by simp; omega
             have HU : Hid (SeR.bad 2 (a + 1) = RES) := Lib.hid (by
              have := HUN3.out
              rwa [if_pos ⟨hpv1, haN2, hy1⟩, if_pos ha1] at this)
             clear HUN3 hy1
             subst hpv1
             have HF : Hid (finS true RES = .bad 2 ((a : Int) + 1)) := Lib.hid (by rw [← HU.out]; rfl)
             go_wp2_with fail
             refine (sBad_any 2 ((a : Int) + 1) _).mono ?_
             rintro r w8 ⟨rfl, hb8⟩
             have hu8 := HRI.out.grow hb8
             have oq := hu8.o1
             have q0 : (w8).cell? ⟨q, 0, none⟩ = some (.bool false) := (hu8).res.cell (i := 0) (by omega)
             have q2 : (w8).cell? ⟨q, 1, none⟩ = some (.slice none 0 0) := (hu8).res.cell (i := 1) (by omega)
             have s0 : (w8).cell? ⟨q1, 0, none⟩ = some (.int .i64 (0)) := (hu8).flt.cell (i := 0) (by omega)
             have s1 : (w8).cell? ⟨q1, 1, none⟩ = some (.int .i64 (0)) := (hu8).flt.cell (i := 1) (by omega)
             have d0 := (hu8).res.frozen 0; have d1 := (hu8).res.frozen 1; have e0 := (hu8).flt.frozen 0; have e1 := (hu8).flt.frozen 1
             have lq : LtW q w8 := (hu8).res.lt
             have lq1 : LtW q1 w8 := (hu8).flt.lt
             have HBF := Lib.hid hu8.bel
             clear hb8 hu8 HRI
             clear c0 c1 g1 lc
             go_wp2
             refine bodyPost_ret (v := .tuple #[.agg #[.bool false, .slice none 0 0], .agg #[.int .i64 (2), .int .i64 (((a : Int) + 1))]]) (by simp [results, Tryd.results17, go_sem, q0, q2, s0, s1]) rfl ?_
             rw [HR.out, HF.out]
             refine ⟨rfl, ?_⟩
             rw [HQE.out]
             exact (((HBF.out.setCell bnq _).setCell bnq _).setCell bnq _).setCell bnq _
            ·have t6 : decide ((a : Int) + 1 < (N : Int)) = false := by simp; omega
             have HU : Hid (SeR.ok ACC = RES) := Lib.hid (by
              have := HUN3.out
              rwa [if_pos ⟨hpv1, haN2, hy1⟩, if_neg ha1] at this)
             clear HUN3 hy1
             subst hpv1
             go_wp2
             go_meet
             exact ⟨ACC, ln, A', C', hln6, HU, HRI⟩
           ·have t7 : pv = true → ((y : Int) == 47) = false := fun h => by
             have : y ≠ 47 := fun e => hy47 ⟨h, e⟩
             simp; omega
            by_cases hy32 : y = 32
            ·have t8 : ((y : Int) != 32) = false := by simp; omega
             have HSE2 : Hid (seF (bytesOf s) pv f (a + 1) ACC = RES) := Lib.hid (by
              have := HUN3.out
              rwa [if_neg (fun h => hy47 ⟨h.1, h.2.2⟩), if_neg (by rintro ⟨_, h⟩; omega), if_pos ⟨haN2, hy32⟩] at this)
             clear HUN3 hy32 hy47
             by_cases hpv1 : pv = true
             ·have t9 := t7 hpv1
              clear t7
              subst hpv1
              exact lfSe72
             ·have hpv2 : pv = false := by simpa using hpv1
              clear t7 hpv1
              subst hpv2
              exact lfSe72
            ·have t8 : ((y : Int) != 32) = true := by simp; omega
             have HU : Hid (SeR.bad 2 a = RES) := Lib.hid (by
              have := HUN3.out
              rwa [if_neg (fun h => hy47 ⟨h.1, h.2.2⟩), if_neg (by rintro ⟨_, h⟩; omega), if_neg (fun h => hy32 h.2)] at this)
             clear HUN3 hy32 hy47
             by_cases hpv1 : pv = true
             ·have t9 := t7 hpv1
              clear t7
              subst hpv1
              have HF : Hid (finS true RES = .bad 2 (a : Int)) := Lib.hid (by rw [← HU.out]; rfl)
              exact lfSe70
             ·have hpv2 : pv = false := by simpa using hpv1
              clear t7 hpv1
              subst hpv2
              have HF : Hid (finS false RES = .bad 2 (a : Int)) := Lib.hid (by rw [← HU.out]; rfl)
              exact lfSe70
          ·obtain rfl : a = N := by omega
           have t1 : decide ((a : Int) < (a : Int)) = false := by simp
           have t2 : decide (a < a) = false := by simp
           have t3 : ((a : Int) == (a : Int)) = true := by simp
           by_cases hpv1 : pv = true
           ·have HU : Hid (SeR.bad 2 a = RES) := Lib.hid (by
             have := HUN3.out
             rwa [if_neg (by rintro ⟨_, h, _⟩; omega), if_neg (by rintro ⟨h, _⟩; rw [hpv1] at h; cases h), if_neg (by rintro ⟨h, _⟩; omega)] at this)
            clear HUN3
            subst hpv1
            have HF : Hid (finS true RES = .bad 2 (a : Int)) := Lib.hid (by rw [← HU.out]; rfl)
            exact lfSe70
           ·have hpv2 : pv = false := by simpa using hpv1
            have HU : Hid (SeR.ok ACC = RES) := Lib.hid (by
             have := HUN3.out
             rwa [if_neg (by rintro ⟨_, h, _⟩; omega), if_pos ⟨hpv2, rfl⟩] at this)
            clear HUN3 hpv1
            subst hpv2
            go_wp2
            go_meet
            exact ⟨ACC, ln, A', C', hln6, HU, HRI⟩
  obtain ⟨ACC, ln, A', C', hln6, HU, HRI⟩ := hcut
  clear HRI0 HRES
  have c0 : (wc).cell? ⟨sb, 0, none⟩ = some (.bool pv) := (HRI.out).row.cell (i := 0) (by omega)
  have c1 : (wc).cell? ⟨sb, 1, none⟩ = some (.slice A' (ln + 1) C') := (HRI.out).row.cell (i := 1) (by omega)
  have g1 := (HRI.out).row.frozen 1
  have lc : LtW sb wc := (HRI.out).row.lt
  have HSTR := Lib.hid HRI.out.own.str
  have HWR := Lib.hid fun w hI => seWrong_any pv A' (ln + 1) C' ACC w hI (by omega)
  obtain ⟨wv, hwv⟩ : ∃ wv, wrS pv ACC = wv := ⟨_, rfl⟩
  rw [hwv] at HWR
  have HWV := Lib.hid hwv
  clear hwv
  go_wp2_with fail
  refine (HWR.out _ HSTR.out.2).mono ?_
  rintro r w7 ⟨rfl, hb7⟩
  have HRI2 := Lib.hid (HRI.out.grow hb7)
  clear c0 c1 g1 lc
  clear hb7 HWR HRI HSTR
  have HRI := HRI2
  clear HRI2
  have c0 : (w7).cell? ⟨sb, 0, none⟩ = some (.bool pv) := (HRI.out).row.cell (i := 0) (by omega)
  have c1 : (w7).cell? ⟨sb, 1, none⟩ = some (.slice A' (ln + 1) C') := (HRI.out).row.cell (i := 1) (by omega)
  have g1 := (HRI.out).row.frozen 1
  have lc : LtW sb w7 := (HRI.out).row.lt
  by_cases hw0 : wv = 0
  ·have b5 : (wv != 0) = false := by simp; omega
   have HF : Hid (finS pv RES = .ok pv ACC) := Lib.hid (by rw [← HU.out]; unfold finS; simp only; rw [if_neg (by rw [HWV.out]; simpa using hw0)])
   have oq := HRI.out.o1
   have oq2 := HRI.out.o2
   have oq3 := HRI.out.o3
   have hbq : q < base := by omega
   have hbq1 : q1 < base := by omega
   have q0 : (w7).cell? ⟨q, 0, none⟩ = some (.bool false) := (HRI.out).res.cell (i := 0) (by omega)
   have q2 : (w7).cell? ⟨q, 1, none⟩ = some (.slice none 0 0) := (HRI.out).res.cell (i := 1) (by omega)
   have s0 : (w7).cell? ⟨q1, 0, none⟩ = some (.int .i64 (0)) := (HRI.out).flt.cell (i := 0) (by omega)
   have s1 : (w7).cell? ⟨q1, 1, none⟩ = some (.int .i64 (0)) := (HRI.out).flt.cell (i := 1) (by omega)
   have d0 := (HRI.out).res.frozen 0; have d1 := (HRI.out).res.frozen 1; have e0 := (HRI.out).flt.frozen 0; have e1 := (HRI.out).flt.frozen 1
   have lq : LtW q w7 := (HRI.out).res.lt
   have lq1 : LtW q1 w7 := (HRI.out).flt.lt
   have HB1 := Lib.hid HRI.out.bel
   have HOW := Lib.hid HRI.out.own
   clear HRI
   go_wp2
   refine bodyPost_ret (v := .tuple #[.agg #[.bool pv, .slice A' (ln + 1) C'], .agg #[.int .i64 (0), .int .i64 (0)]]) (by simp [results, Tryd.results17, go_sem, q0, q2, s0, s1]) rfl ?_
   rw [HR.out, HF.out]
   have hown2 : OwnSt ((((w7.setCell ⟨q, 0, none⟩ (.bool pv)).setCell ⟨q, 1, none⟩ (.slice A' (ln + 1) C')).setCell ⟨q1, 0, none⟩ (.int .i64 (0))).setCell ⟨q1, 1, none⟩ (.int .i64 (0))) base (.slice A' (ln + 1) C') ACC := ownsRow_setCell_below (ownsRow_setCell_below (ownsRow_setCell_below (ownsRow_setCell_below HOW.out (a := ⟨q, 0, none⟩) hbq (.bool pv)) (a := ⟨q, 1, none⟩) hbq (.slice A' (ln + 1) C')) (a := ⟨q1, 0, none⟩) hbq1 (.int .i64 (0))) (a := ⟨q1, 1, none⟩) hbq1 (.int .i64 (0))
   have hs2 := hown2.str
   refine ⟨⟨A', C', ?_, ?_⟩, ?_⟩
   ·rw [← hs2.1]
   ·rw [← hs2.1]; exact hs2.2
   ·rw [HQE.out]
    exact (((HB1.out.setCell bnq _).setCell bnq _).setCell bnq _).setCell bnq _
  ·have b5 : (wv != 0) = true := by simpa using hw0
   have HF : Hid (finS pv RES = .bad wv 0) := Lib.hid (by rw [← HU.out]; unfold finS; simp only; rw [if_pos (by rw [HWV.out]; simpa using hw0), HWV.out])
   clear hw0
   go_wp2_with fail
   refine (sBad_any wv 0 _).mono ?_
   rintro r w8 ⟨rfl, hb8⟩
   have hu8 := HRI.out.grow hb8
   have oq := hu8.o1
   have q0 : (w8).cell? ⟨q, 0, none⟩ = some (.bool false) := (hu8).res.cell (i := 0) (by omega)
   have q2 : (w8).cell? ⟨q, 1, none⟩ = some (.slice none 0 0) := (hu8).res.cell (i := 1) (by omega)
   have s0 : (w8).cell? ⟨q1, 0, none⟩ = some (.int .i64 (0)) := (hu8).flt.cell (i := 0) (by omega)
   have s1 : (w8).cell? ⟨q1, 1, none⟩ = some (.int .i64 (0)) := (hu8).flt.cell (i := 1) (by omega)
   have d0 := (hu8).res.frozen 0; have d1 := (hu8).res.frozen 1; have e0 := (hu8).flt.frozen 0; have e1 := (hu8).flt.frozen 1
   have lq : LtW q w8 := (hu8).res.lt
   have lq1 : LtW q1 w8 := (hu8).flt.lt
   have HBF := Lib.hid hu8.bel
   clear hb8 hu8 HRI
   clear c0 c1 g1 lc
   go_wp2
   refine bodyPost_ret (v := .tuple #[.agg #[.bool false, .slice none 0 0], .agg #[.int .i64 (wv), .int .i64 (0)]]) (by simp [results, Tryd.results17, go_sem, q0, q2, s0, s1]) rfl ?_
   rw [HR.out, HF.out]
   refine ⟨rfl, ?_⟩
   rw [HQE.out]
   exact (((HBF.out.setCell bnq _).setCell bnq _).setCell bnq _).setCell bnq _
end
section
open Go.RowKit
open Se
open By (bytesOf hasAt sgL colAt)
def atF (p : Int) : Nat → Value := fun _ => .int .i64 p
theorem atF_alloc (w : World) (p : Int) : (w.alloc (.cells #[.int .i64 p] 3)).rowIs w.heap.size 3 1 (atF p) := by
 refine World.rowIs_alloc w #[.int .i64 p] 3 (atF p) ?_
 intro j hj
 have hj' : j < 1 := hj
 obtain rfl : j = 0 := by omega
 rfl
structure SJ (q q1 ab sb base : Nat) (w0 : World) (p : Nat) (pv : Bool) (acc : List St) (v : Value) (w : World) : Prop where
 res : w.rowIs q 24 2 (stS false (.slice none 0 0))
 flt : w.rowIs q1 38 2 (ftS 0 0)
 box : w.rowIs ab 3 1 (atF p)
 row : w.rowIs sb 24 2 (stS pv v)
 own : OwnSt w base v acc
 bel : Below q w0 w
 siz : base ≤ w.heap.size
 o1 : q < q1
 o2 : q1 < ab
 o3 : ab < sb
 o4 : sb < base
section
variable {q q1 ab sb base p : Nat} {w0 w w' : World} {pv : Bool} {acc acc' : List St} {v v' : Value}
theorem SJ.grow (h : SJ q q1 ab sb base w0 p pv acc v w) (hb : Below w.heap.size w w') : SJ q q1 ab sb base w0 p pv acc v w' :=
 ⟨rowBelow h.res hb h.res.lt, rowBelow h.flt hb h.flt.lt, rowBelow h.box hb h.box.lt, rowBelow h.row hb h.row.lt, ownBelow h.own hb, h.bel.trans (hb.mono (by have := h.res.lt; omega)), Nat.le_trans h.siz hb.size, h.o1, h.o2, h.o3, h.o4⟩
theorem SJ.setAt (h : SJ q q1 ab sb base w0 p pv acc v w) (p' : Nat) : SJ q q1 ab sb base w0 p' pv acc v (w.setCell ⟨ab, 0, none⟩ (.int .i64 (p' : Int))) := by
 have oa := h.o1; have ob := h.o2; have oc := h.o3; have od := h.o4
 refine ⟨h.res.of_block (Below.heap_setCell _ _ _ q (by simp; omega)), h.flt.of_block (Below.heap_setCell _ _ _ q1 (by simp; omega)), (h.box.set 0 _).congr fun i hi => ?_, h.row.of_block (Below.heap_setCell _ _ _ sb (by simp; omega)), ownsRow_setCell_below h.own (a := ⟨ab, 0, none⟩) (by simp; omega) _, h.bel.setCell (by simp; omega) _, by rw [World.size_setCell]; exact h.siz, oa, ob, oc, od⟩
 obtain rfl : i = 0 := by omega
 rfl
theorem SJ.setPv (h : SJ q q1 ab sb base w0 p pv acc v w) (b : Bool) : SJ q q1 ab sb base w0 p b acc v (w.setCell ⟨sb, 0, none⟩ (.bool b)) := by
 have oa := h.o1; have ob := h.o2; have oc := h.o3; have od := h.o4
 refine ⟨h.res.of_block (Below.heap_setCell _ _ _ q (by simp; omega)), h.flt.of_block (Below.heap_setCell _ _ _ q1 (by simp; omega)), h.box.of_block (Below.heap_setCell _ _ _ ab (by simp; omega)), (h.row.set 0 _).congr fun i hi => ?_, ownsRow_setCell_below h.own (a := ⟨sb, 0, none⟩) (by simp; omega) _, h.bel.setCell (by simp; omega) _, by rw [World.size_setCell]; exact h.siz, oa, ob, oc, od⟩
 have hi3 : i = 0 ∨ i = 1 := by omega
 rcases hi3 with rfl | rfl <;> rfl
theorem SJ.app (h : SJ q q1 ab sb base w0 p pv acc v w) (hb : Below base w w') (hown : OwnSt w' base v' acc') : SJ q q1 ab sb base w0 p pv acc' v' (w'.setCell ⟨sb, 1, none⟩ v') := by
 have oa := h.o1; have ob := h.o2; have oc := h.o3; have od := h.o4
 refine ⟨(rowBelow h.res hb (by omega)).of_block (Below.heap_setCell _ _ _ q (by simp; omega)), (rowBelow h.flt hb (by omega)).of_block (Below.heap_setCell _ _ _ q1 (by simp; omega)), (rowBelow h.box hb (by omega)).of_block (Below.heap_setCell _ _ _ ab (by simp; omega)), ((rowBelow h.row hb (by omega)).set 1 _).congr fun i hi => ?_, ownsRow_setCell_below hown (a := ⟨sb, 1, none⟩) (by simp; omega) _, (h.bel.trans (hb.mono (by omega))).setCell (by simp; omega) _, by rw [World.size_setCell]; exact Nat.le_trans h.siz hb.size, oa, ob, oc, od⟩
 have hi3 : i = 0 ∨ i = 1 := by omega
 rcases hi3 with rfl | rfl <;> rfl
end
set_option maxRecDepth 100000 in
set_option maxHeartbeats 8000000 in
theorem rsBad_any (q : Nat) (e p : Int) (w : World) (hc : w.cell? ⟨q, 0, none⟩ = some (.int .i64 (p))) (hq : q < w.heap.size) :
  Calls Tryd.prog 39 #[.int .i64 (e), .pointer (some ⟨q, 0, none⟩)] w fun r w' => r = .returned (.tuple #[.agg #[.bool false, .slice none 0 0], .agg #[.int .i64 (e), .int .i64 (p)]]) ∧ Below w.heap.size w w' := by
 have lq : LtW q w := hq
 clear hq
 go_enter Tryd.func39, Tryd.ntmps39
 go_wp2_with fail
 go_region
 all_goals
  go_wp2
  refine bodyPost_ret (v := .tuple #[.agg #[.bool false, .slice none 0 0], .agg #[.int .i64 (e), .int .i64 (p)]]) (by simp [results, Tryd.results39, go_sem]) rfl ⟨rfl, blw⟩
end
namespace Se
def satC (c d : Nat) : Nat := if c ≤ 4096 then 10 * c + (d - 48) else c
def satN (l : List Nat) : Nat := l.foldl satC 0
theorem satN_take {l : List Nat} {x : Nat} (h : x < l.length) : satN (l.take (x + 1)) = satC (satN (l.take x)) (l.getD x 0) := by
 unfold satN
 rw [List.take_add_one, List.getElem?_eq_getElem h, List.foldl_append, List.getD_eq_getElem?_getD, List.getElem?_eq_getElem h]
 rfl
theorem valN_take {l : List Nat} {x : Nat} (h : x < l.length) : valN (l.take (x + 1)) = 10 * valN (l.take x) + (l.getD x 0 - 48) := by
 unfold valN
 rw [List.take_add_one, List.getElem?_eq_getElem h, List.foldl_append, List.getD_eq_getElem?_getD, List.getElem?_eq_getElem h]
 rfl
theorem sat_inv {l : List Nat} (hd : ∀ b ∈ l, isDig b = true) : ∀ x, x ≤ l.length → (satN (l.take x) = valN (l.take x) ∧ valN (l.take x) ≤ 4096) ∨ (4096 < satN (l.take x) ∧ 4096 < valN (l.take x) ∧ satN (l.take x) ≤ 40969) ∨ (satN (l.take x) = valN (l.take x) ∧ satN (l.take x) ≤ 40969)
 | 0, _ => .inl ⟨rfl, by show valN [] ≤ 4096; decide⟩
 | x + 1, h => by
  have ih := sat_inv hd x (by omega)
  have hb := hd (l.getD x 0) (by
   rw [List.getD_eq_getElem?_getD, List.getElem?_eq_getElem (by omega)]
   exact List.getElem_mem _)
  unfold isDig at hb
  rw [decide_eq_true_eq] at hb
  rw [satN_take (by omega), valN_take (by omega)]
  unfold satC
  rcases ih with ⟨h1, h2⟩ | ⟨h1, h2, h3⟩ | ⟨h1, h2⟩
  ·rw [if_pos (by omega), h1]
   right; right; omega
  ·rw [if_neg (by omega)]
   right; left; omega
  ·by_cases hc : satN (l.take x) ≤ 4096
   ·rw [if_pos hc, h1]
    right; right; omega
   ·rw [if_neg hc]
    right; left; omega
theorem sat_val {l : List Nat} (hd : ∀ b ∈ l, isDig b = true) : (4096 < satN l ↔ 4096 < valN l) ∧ (¬ 4096 < valN l → satN l = valN l) ∧ satN l ≤ 40969 := by
 have h := sat_inv hd l.length (Nat.le_refl _)
 rw [List.take_length] at h
 omega
theorem sat_le {l : List Nat} (hd : ∀ b ∈ l, isDig b = true) {x : Nat} (h : x ≤ l.length) : satN (l.take x) ≤ 40969 := by
 have := sat_inv hd x h
 omega
end Se
end Go.Proofs.YtnlnonmgekciaaaDoor
