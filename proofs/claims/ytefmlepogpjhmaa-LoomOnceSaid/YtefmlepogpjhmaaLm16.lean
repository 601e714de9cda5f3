/- Chapter 10: the document's answer, where the loom is opened. -/
import Derived.Test.YtefmlepogpjhmaaLmE
namespace Go.Proofs.Ytefmlepogpjhmaa
open Go.RowKit
set_option linter.unusedVariables false
set_option linter.unusedSimpArgs false
open Lm
set_option maxRecDepth 100000 in
set_option maxHeartbeats 8000000 in
theorem Play_ok (W H : Nat) (A : Option Addr) (n c : Nat) (bs : List Bool) (B : Option Addr) (m cw : Nat) (ws : List Int) (Sa : Option Addr) (sn sc : Nat) (ST : List Step) (w : World) (hI : IsInts w B m ws) (hm : m ≤ 1048576) (hc : B = none → cw = 0) (hwf : ∀ x ∈ ws, (-9223372036854775808 ≤ x ∧ x ≤ 9223372036854775807))
    (hS : IsSteps w Sa sn ST) (hsn : sn ≤ 1048576) (hB : IsBools w A n bs) (hw : wrT W H n = 0) (hn0 : n ≠ 0) (hm2 : 2 ≤ m) :
    Calls Try.prog 6 #[.agg #[.int .i64 (W), .int .i64 (H), .slice A n c], .slice B m cw, .slice Sa sn sc] w (PlayPost2 (runT W H bs ws ST sn).1 (runT W H bs ws ST sn).2.2.ws w) := by
  have hl := hI.1
  subst hl
  obtain ⟨W', H', eW, eH, hW, hH, hn⟩ := wrT_zero hw
  obtain rfl : W = W' := by omega
  obtain rfl : H = H' := by omega
  have hH1 : 1 ≤ H := by
    rcases Nat.eq_zero_or_pos H with h | h
    · exfalso; apply hn0; rw [hn, h, Nat.mul_zero]
    · exact h
  have hn4 : n ≤ 4096 := by rw [hn]; exact Nat.mul_le_mul hW hH
  have HI := Lib.hid hI
  have he : openE W H n ws.length = 0 := by unfold openE; rw [if_neg (by simp [hw]), if_neg hn0, if_neg (by omega)]
  have HWR := Lib.hid (fun w => rWrong10_any W H A n c ws.length w (by omega) (by omega) (by omega))
  rw [he] at HWR
  have HBG := Lib.hid (fun g cp (D : List Int) w' (hI : IsInts w' (some ⟨g, 0, none⟩) D.length D) (hwf : ∀ x ∈ D, (-9223372036854775808 ≤ x ∧ x ≤ 9223372036854775807)) (hlen : D.length = ws.length) => Begin_ok W H A n c g ws.length cp D w' (hlen ▸ hI) hwf (by omega) (by omega) hH)
  have HINV := Lib.hid (runT_inv bs ws ST hH1 (W := W))
  have HWF := Lib.hid (runT_wf bs ws ST hH1 hH hwf (W := W))
  have HWS := Lib.hid hwf
  have HSTP := Lib.hid hS
  have HB := Lib.hid hB
  have HNN := Lib.hid hn
  have HBLN := Lib.hid hB.1
  have HBIT := Lib.hid (fun wq (h : IsBools wq A n bs) y x p (hp : y * W + x = p) (hlt : p < n) (hx : x ≤ 64) (hy : y ≤ 64) => rBit_ok W H n A c bs wq h y x p hp hlt hn4 (by omega) (by omega) (by omega))
  clear hI hS hB hw eW eH hn he hwf
  go_enter Try.func6, Try.ntmps6
  have howe := owns64_empty (w.alloc (.cells #[.int .i64 (W), .int .i64 (H), .slice A n c] 24)) (w.heap.size + 1) (by simp)
  rw [World.size_alloc] at howe
  go_wp2_with (at_builtin; refine wpAppV okI64 rfl (.tmp 24) (.tmp 25) rfl (w.heap.size + 1) _ 0 [] B ws.length cw (ws.map (Value.int .i64)) rfl howe rfl hc (by simp) (i64_cells (HI.out.below (by repeat (first | exact Below.refl _ _ | refine Below.drew ?_ | refine below_drewN ?_ _ | refine Below.alloc ?_ (by first | exact Nat.le_refl _ | (simp; done) | (simp; omega) | omega) _ | refine Below.setCell ?_ (by first | exact Nat.le_refl _ | (simp; done) | (simp; omega) | omega) _ | refine bExtW ?_ (by first | exact Nat.le_refl _ | (simp; done) | (simp; omega) | omega) | refine Below.trans ?_ (Below.mono (by assumption) (by first | exact Nat.le_refl _ | (simp; done) | (simp; omega) | omega)))))) (i64_ones ws) (by omega) (by omega) (by rw [World.size_alloc, World.size_alloc]; omega) ?_)
  intro v' w2 hown2 hg2 hat2
  obtain ⟨g, hg⟩ : ∃ g, v'.ownBlock = some g := by rcases hat2 with h | h; exact ⟨_, h⟩; exact ⟨_, h⟩
  obtain ⟨cp, rfl, hge⟩ := own_is_some hown2 hg
  have hb2 : Below (w.heap.size + 1) ((w.alloc (.cells #[.int .i64 (W), .int .i64 (H), .slice A n c] 24)).alloc (.cells #[] 2)) w2 := belowGrown hg2 (by simp) (fun k hk => by have e : some (w.heap.size + 1) = some k := hk; injection e with e; omega)
  have hm2 := rowBelow ((tF_alloc w W H (.slice A n c) rfl).alloc (.cells #[] 2)) hb2 (by omega)
  have hbw : Below w.heap.size w w2 := Below.trans (by repeat (first | exact Below.refl _ _ | refine Below.drew ?_ | refine below_drewN ?_ _ | refine Below.alloc ?_ (by first | exact Nat.le_refl _ | (simp; done) | (simp; omega) | omega) _ | refine Below.setCell ?_ (by first | exact Nat.le_refl _ | (simp; done) | (simp; omega) | omega) _ | refine bExtW ?_ (by first | exact Nat.le_refl _ | (simp; done) | (simp; omega) | omega) | refine Below.trans ?_ (Below.mono (by assumption) (by first | exact Nat.le_refl _ | (simp; done) | (simp; omega) | omega)))) (hb2.mono (by omega))
  have HM2 := Lib.hid hm2; have HB2 := Lib.hid hbw; have HO2 := Lib.hid hown2
  have HGE := Lib.hid hge
  have q0 : w2.cell? ⟨w.heap.size, 0, none⟩ = some (.int .i64 (W)) := hm2.cell (i := 0) (by omega)
  have q1 : w2.cell? ⟨w.heap.size, 1, none⟩ = some (.int .i64 (H)) := hm2.cell (i := 1) (by omega)
  have q2 : w2.cell? ⟨w.heap.size, 2, none⟩ = some (.slice A n c) := hm2.cell (i := 2) (by omega)
  have lmb : LtW w.heap.size w2 := hm2.lt
  clear hown2 hg2 hat2 hg hb2 hm2 hbw hge
  go_wp2_with fail
  refine (HWR.out w2).mono ?_
  rintro r w3 ⟨rfl, hb3⟩
  have hrp := rp_start W H A n c ws w w3 g cp (rowBelow HM2.out hb3 HM2.out.lt) (HB2.out.trans (hb3.mono HB2.out.size)) HGE.out (ownBelow HO2.out hb3)
  have HRP := Lib.hid hrp
  clear hrp hb3 HM2 HB2 HO2 HGE q0 q1 q2 lmb
  go_upto_region 4 with fail
  generalize w3.alloc (.cells #[.int .i64 (0), .int .i64 (0), .bool false, .bool false] 61) = w4 at *
  generalize w3.heap.size = sb at *
  generalize hmbe : w.heap.size = mb at *
  have HMBE := Lib.hid hmbe
  clear hmbe
  have q0 : (w4).cell? ⟨mb, 0, none⟩ = some (.int .i64 (W)) := (HRP.out).m.cell (i := 0) (by omega)
  have q1 : (w4).cell? ⟨mb, 1, none⟩ = some (.int .i64 (H)) := (HRP.out).m.cell (i := 1) (by omega)
  have q2 : (w4).cell? ⟨mb, 2, none⟩ = some (.slice A n c) := (HRP.out).m.cell (i := 2) (by omega)
  have lmb : LtW mb w4 := (HRP.out).m.lt
  go_wp2_with fail
  refine (HBG.out g cp ws w4 HRP.out.ints HWS.out rfl).mono ?_
  rintro r w5 ⟨rfl, hb5⟩
  have hr5 := HRP.out.grow hb5
  have sb0 : w5.cell? ⟨sb, 0, none⟩ = some (.int .i64 (0)) := hr5.s.cell (i := 0) (by omega)
  have sb1 : w5.cell? ⟨sb, 1, none⟩ = some (.int .i64 (0)) := hr5.s.cell (i := 1) (by omega)
  have sb2 : w5.cell? ⟨sb, 2, none⟩ = some (.bool false) := hr5.s.cell (i := 2) (by omega)
  have sb3 : w5.cell? ⟨sb, 3, none⟩ = some (.bool false) := hr5.s.cell (i := 3) (by omega)
  have fs0 := hr5.s.frozen 0; have fs1 := hr5.s.frozen 1; have fs2 := hr5.s.frozen 2; have fs3 := hr5.s.frozen 3
  have lsb : LtW sb w5 := hr5.s.lt
  have HR5 := Lib.hid hr5
  clear hr5 hb5 HRP q0 q1 q2 lmb
  obtain ⟨l0, hl0⟩ : ∃ l0, begin_ H ws = l0 := ⟨_, rfl⟩
  rw [hl0]
  have HL0 := Lib.hid hl0
  clear hl0
  go_upto_region 6 with fail
  have hr6 := ((((HR5.out.setS (i := 0) (u := .int .i64 ((l0.wv : Nat)))).setS (i := 1) (u := .int .i64 ((l0.at_ : Nat)))).setS (i := 2) (u := .bool l0.stop)).setS (i := 3) (u := .bool l0.dead)).cong (fs' := sF l0) (fun i hi => by
    have hi2 : i = 0 ∨ i = 1 ∨ i = 2 ∨ i = 3 := by omega
    rcases hi2 with rfl | rfl | rfl | rfl <;> rfl)
  have HR6 : Hid (RP mb sb g cp W H A n c (runT W H bs ws ST 0).2.2.ws (sF (runT W H bs ws ST 0).2.1) (.slice none 0 0) (runT W H bs ws ST 0).1 w _) := Lib.hid (by rw [show (runT W H bs ws ST 0).2.1 = l0 from HL0.out]; exact hr6)
  clear hr6 HR5 sb0 sb1 sb2 sb3 fs0 fs1 fs2 fs3 lsb
  go_wp2_with fail
  go_loopw [11, 12, 38] (fun fv v iv wr => ∃ (k : Nat), k ≤ sn ∧ iv = .int .i64 k ∧ fv = .int .i64 (runT W H bs ws ST k).2.2.left ∧ Hid (RP mb sb g cp W H A n c (runT W H bs ws ST k).2.2.ws (sF (runT W H bs ws ST k).2.1) v (runT W H bs ws ST k).1 w wr)) (fun _ _ iv _ => sn - (intOf iv).toNat)
  case atStart => exact ⟨0, by omega, rfl, rfl, HR6⟩
  case round =>
    obtain ⟨k, hk, rfl, rfl, HPW⟩ := hrel
    clear HR6 HL0
    obtain ⟨AO, CO, rfl⟩ := HPW.out.out.form
    rw [runT_len] at HPW ⊢
    by_cases hks : k < sn
    · have hinv := HINV.out k
      have hws := hinv.2
      have HOK := Lib.hid hinv.1
      have HWFK := Lib.hid (HWF.out k)
      have hrun : runT W H bs ws ST (k + 1) = ((runT W H bs ws ST k).1 ++ [(Lm.step W H bs (ST.getD k ⟨0, false, 0⟩) (runT W H bs ws ST k).2.1 (runT W H bs ws ST k).2.2).1], (Lm.step W H bs (ST.getD k ⟨0, false, 0⟩) (runT W H bs ws ST k).2.1 (runT W H bs ws ST k).2.2).2.1, (Lm.step W H bs (ST.getD k ⟨0, false, 0⟩) (runT W H bs ws ST k).2.1 (runT W H bs ws ST k).2.2).2.2) := rfl
      have hlen1 := runT_len W H bs ws ST k
      generalize (runT W H bs ws ST k).1 = LS at *
      generalize (runT W H bs ws ST k).2.1 = l at *
      generalize (runT W H bs ws ST k).2.2 = D at *
      have dk : decide ((k : Int) < (sn : Int)) = true := by simp; omega
      have dk' : decide (k < sn) = true := by simpa using hks
      obtain ⟨bS, oS, eS, hbS, hcS⟩ := (HSTP.out.below (show Below w.heap.size w wr from HPW.out.bel)).2 (by omega)
      obtain ⟨s0, s1, s2⟩ := hcS k hks
      subst eS
      obtain ⟨x, hx⟩ : ∃ x, ST.getD k ⟨0, false, 0⟩ = x := ⟨_, rfl⟩
      rw [hx] at s0 s1 s2 hrun
      obtain ⟨pw, op, ev⟩ := x
      simp only at s0 s1 s2
      have HRUN := Lib.hid hrun
      have HLEN := Lib.hid hlen1
      have lbS : LtW bS wr := hbS
      clear hcS hx hbS hrun hinv hlen1
      go_upto_region 11 with fail
      have hst := stF_alloc wr ⟨pw, op, ev⟩
      have HPM1 := Lib.hid (HPW.out.grow (show Below wr.heap.size wr (wr.alloc (.cells #[.int .i64 (pw), .bool op, .int .i64 (ev)] 53)) from (by repeat (first | exact Below.refl _ _ | refine Below.drew ?_ | refine below_drewN ?_ _ | refine Below.alloc ?_ (by first | exact Nat.le_refl _ | (simp; done) | (simp; omega) | omega) _ | refine Below.setCell ?_ (by first | exact Nat.le_refl _ | (simp; done) | (simp; omega) | omega) _ | refine bExtW ?_ (by first | exact Nat.le_refl _ | (simp; done) | (simp; omega) | omega) | refine Below.trans ?_ (Below.mono (by assumption) (by first | exact Nat.le_refl _ | (simp; done) | (simp; omega) | omega))))))
      simp only at hst
      clear s0 s1 s2 lbS HPW
      generalize wr.alloc (.cells #[.int .i64 (pw), .bool op, .int .i64 (ev)] 53) = w1 at *
      generalize wr.heap.size = sp at *
      have HST := Lib.hid hst
      clear hst
      have s0 : (w1).cell? ⟨sp, 0, none⟩ = some (.int .i64 (pw)) := (HST.out).cell (i := 0) (by omega)
      have s1 : (w1).cell? ⟨sp, 1, none⟩ = some (.bool op) := (HST.out).cell (i := 1) (by omega)
      have s2 : (w1).cell? ⟨sp, 2, none⟩ = some (.int .i64 (ev)) := (HST.out).cell (i := 2) (by omega)
      have ls : LtW sp w1 := (HST.out).lt
      obtain ⟨D1, hD1⟩ : ∃ D1 : Dk, (if pw = 0 then D else { D with left := IntKind.i64.wrap (pw - 1) }) = D1 := ⟨_, rfl⟩
      have hws1 : D1.ws.length = ws.length := by rw [← hD1]; split <;> exact hws
      have hdw : D1.ws = D.ws := by rw [← hD1]; split <;> rfl
      have HD1 := Lib.hid hD1
      have HWF1 : Hid ((∀ x ∈ D1.ws, (-9223372036854775808 ≤ x ∧ x ≤ 9223372036854775807)) ∧ (-9223372036854775808 ≤ D1.left ∧ D1.left ≤ 9223372036854775807)) := Lib.hid (by
        rw [hdw]
        refine ⟨HWFK.out.1, ?_⟩
        rw [← hD1]
        split
        · exact HWFK.out.2
        · exact wrap_wf _)
      have HPM1 : Hid (RP mb sb g cp W H A n c D1.ws (sF l) (.slice AO k CO) LS w w1) := Lib.hid (by rw [hdw]; exact HPM1.out)
      clear hD1 hdw
      obtain ⟨bp, hbp⟩ : ∃ b, (pw != 0) = b := ⟨_, rfl⟩
      go_upto_if 44 with fail
      go_cut [11] (fun fv wx => w1 = wx ∧ fv = .int .i64 D1.left)
      case first =>
        cases bp with
        | true =>
          have hp : ¬ pw = 0 := by intro e; rw [e] at hbp; simp at hbp
          have HDE : Hid (D1.left = IntKind.i64.wrap (pw - 1)) := Lib.hid (by rw [← HD1.out, if_neg hp])
          clear hbp hp
          go_wp2
          go_meet
          have e9 : wrap64 (pw - 1) = IntKind.i64.wrap (pw - 1) := by unfold wrap64; exact (IntKind.wrap_i64 _).symm
          rw [e9, HDE.out]
          exact ⟨rfl, rfl⟩
        | false =>
          have hp : pw = 0 := by simpa using hbp
          have HDE : Hid (D1.left = D.left) := Lib.hid (by rw [← HD1.out, if_pos hp])
          clear hbp hp
          go_wp2
          go_meet
          rw [HDE.out]
          exact ⟨rfl, rfl⟩
      obtain ⟨rfl, rfl⟩ := hcut
      clear hbp
      go_upto_region 13 with fail
      go_cut [53] (fun bv wx => w1 = wx ∧ bv = .bool op)
      case first =>
        cases op with
        | true =>
          go_wp2
          go_meet
          exact ⟨rfl, rfl⟩
        | false =>
          go_wp2
          go_meet
          exact ⟨rfl, rfl⟩
      obtain ⟨rfl, rfl⟩ := hcut
      obtain ⟨l1, hl1⟩ : ∃ l1 : St, (if op = true then begin_ H D1.ws else l) = l1 := ⟨_, rfl⟩
      have HL1 := Lib.hid hl1
      have hok1 : Ok H l1 := by
        rw [← hl1]
        split
        · exact begin_ok hH1 _
        · exact HOK.out
      have HOK1 := Lib.hid hok1
      clear hl1 hok1
      have q0 : (w1).cell? ⟨mb, 0, none⟩ = some (.int .i64 (W)) := (HPM1.out).m.cell (i := 0) (by omega)
      have q1 : (w1).cell? ⟨mb, 1, none⟩ = some (.int .i64 (H)) := (HPM1.out).m.cell (i := 1) (by omega)
      have q2 : (w1).cell? ⟨mb, 2, none⟩ = some (.slice A n c) := (HPM1.out).m.cell (i := 2) (by omega)
      have lmb : LtW mb w1 := (HPM1.out).m.lt
      go_upto_if 53 with fail
      go_cut [] (fun wx => Hid (RP mb sb g cp W H A n c D1.ws (sF l1) (.slice AO k CO) LS w wx) ∧ Hid (wx.rowIs sp 53 3 (stF ⟨pw, op, ev⟩)))
      case first =>
        cases op with
        | true =>
          go_wp2_with fail
          refine (HBG.out g cp D1.ws w1 HPM1.out.ints HWF1.out.1 hws1).mono ?_
          rintro r w5 ⟨rfl, hb5⟩
          have hr5 := HPM1.out.grow hb5
          have hst5 := rowBelow HST.out hb5 HST.out.lt
          have HST5 := Lib.hid hst5
          have HE : Hid (begin_ H D1.ws = l1) := Lib.hid (by rw [← HL1.out, if_pos trivial])
          rw [HE.out]
          have sb0 : (w5).cell? ⟨sb, 0, none⟩ = some (.int .i64 (((l).wv : Nat))) := (hr5).s.cell (i := 0) (by omega)
          have sb1 : (w5).cell? ⟨sb, 1, none⟩ = some (.int .i64 (((l).at_ : Nat))) := (hr5).s.cell (i := 1) (by omega)
          have sb2 : (w5).cell? ⟨sb, 2, none⟩ = some (.bool (l).stop) := (hr5).s.cell (i := 2) (by omega)
          have sb3 : (w5).cell? ⟨sb, 3, none⟩ = some (.bool (l).dead) := (hr5).s.cell (i := 3) (by omega)
          have fs0 := (hr5).s.frozen 0
          have fs1 := (hr5).s.frozen 1
          have fs2 := (hr5).s.frozen 2
          have fs3 := (hr5).s.frozen 3
          have lsb : LtW sb w5 := (hr5).s.lt
          have HR5 := Lib.hid hr5
          have hsp : sp ≠ sb := fun e => by
            have h9 := hr5.s
            rw [← e] at h9
            obtain ⟨c1, e1, _⟩ := h9
            exact absurd (ty_ne hst5 e1) (by decide)
          have HSP := Lib.hid hsp
          clear hr5 hb5 hst5 hsp HPM1 HST q0 q1 q2 lmb s0 s1 s2 ls
          go_wp2
          go_meet
          exact ⟨Lib.hid (((((HR5.out.setS (i := 0) (u := .int .i64 ((l1.wv : Nat)))).setS (i := 1) (u := .int .i64 ((l1.at_ : Nat)))).setS (i := 2) (u := .bool l1.stop)).setS (i := 3) (u := .bool l1.dead)).cong (fs' := sF l1) (fun i hi => by
            have hi2 : i = 0 ∨ i = 1 ∨ i = 2 ∨ i = 3 := by omega
            rcases hi2 with rfl | rfl | rfl | rfl <;> rfl)), Lib.hid ((((HST5.out.setOther (a := ⟨sb, 0, none⟩) HSP.out _).setOther (a := ⟨sb, 1, none⟩) HSP.out _).setOther (a := ⟨sb, 2, none⟩) HSP.out _).setOther (a := ⟨sb, 3, none⟩) HSP.out _)⟩
        | false =>
          have HE : Hid (l = l1) := Lib.hid (by rw [← HL1.out]; rfl)
          go_wp2
          go_meet
          rw [← HE.out]
          exact ⟨HPM1, HST⟩
      obtain ⟨HPM2, HST2⟩ := hcut
      clear s0 s1 s2 ls HPM1 HST q0 q1 q2 lmb HBG
      go_upto_region 18 with fail
      have hx5 := xF_alloc wc none 0 0 ⟨0, 0, 0, [], 0, 0⟩
      have hbx : Below wc.heap.size wc (wc.alloc (.cells #[.int .i64 (0), .int .i64 (0), .int .i64 (0), .slice none 0 0, .int .i64 (0), .int .i64 (0)] 34)) := (by repeat (first | exact Below.refl _ _ | refine Below.drew ?_ | refine below_drewN ?_ _ | refine Below.alloc ?_ (by first | exact Nat.le_refl _ | (simp; done) | (simp; omega) | omega) _ | refine Below.setCell ?_ (by first | exact Nat.le_refl _ | (simp; done) | (simp; omega) | omega) _ | refine bExtW ?_ (by first | exact Nat.le_refl _ | (simp; done) | (simp; omega) | omega) | refine Below.trans ?_ (Below.mono (by assumption) (by first | exact Nat.le_refl _ | (simp; done) | (simp; omega) | omega))))
      have hpm5 := HPM2.out.grow hbx
      have hst5 := rowBelow HST2.out hbx HST2.out.lt
      have hx0 : ∀ q, (Value.slice AO k CO).ownBlock = some q → wc.heap.size ≠ q := fun q hq e => by
        obtain ⟨vs, _, ho, _⟩ := HPM2.out.out
        have := (ho.lt q hq).2
        omega
      have hmx : w.heap.size ≤ wc.heap.size := HPM2.out.bel.size
      clear hbx HPM2 HST2
      generalize wc.alloc (.cells #[.int .i64 (0), .int .i64 (0), .int .i64 (0), .slice none 0 0, .int .i64 (0), .int .i64 (0)] 34) = w5 at *
      generalize wc.heap.size = xb at *
      have HX5 := Lib.hid hx5; have HPM5 := Lib.hid hpm5; have HST5 := Lib.hid hst5; have HX0 := Lib.hid hx0; have HMX := Lib.hid hmx
      clear hx5 hpm5 hst5 hx0 hmx
      have s0 : (w5).cell? ⟨sp, 0, none⟩ = some (.int .i64 (pw)) := (HST5.out).cell (i := 0) (by omega)
      have s1 : (w5).cell? ⟨sp, 1, none⟩ = some (.bool op) := (HST5.out).cell (i := 1) (by omega)
      have s2 : (w5).cell? ⟨sp, 2, none⟩ = some (.int .i64 (ev)) := (HST5.out).cell (i := 2) (by omega)
      have ls : LtW sp w5 := (HST5.out).lt
      obtain ⟨T, hT⟩ : ∃ T : Int × Int × St × Dk, (if ev = 0 then (0, 0, l1, D1) else tell H ev l1 D1) = T := ⟨_, rfl⟩
      have HTT := Lib.hid hT
      clear hT
      obtain ⟨be, hbe⟩ : ∃ b, (ev != 0) = b := ⟨_, rfl⟩
      go_upto_if 67 with fail
      go_cut [11] (fun fv wx => fv = .int .i64 T.2.2.2.left ∧ Hid (RP mb sb g cp W H A n c T.2.2.2.ws (sF T.2.2.1) (.slice AO k CO) LS w wx) ∧ Hid (wx.rowIs xb 34 6 (xF (.slice none 0 0) ⟨T.1, 0, 0, [], 0, T.2.1⟩)))
      case first =>
        rename_i J K' hJ hM
        exact Play_event W H A n c ws w w5 mb sb g cp xb sp k CO AO LS pw ev op be l1 D1 T hm hm2 hW hH hH1 hws1 HWF1 HOK1 HX5 HPM5 HST5 HX0 HMX HTT hbe hJ hM
      obtain ⟨rfl, HPM6, HX6⟩ := hcut
      clear s0 s1 s2 ls HPM5 HX5 HST5 hbe
      have hokT : Ok H T.2.2.1 := by
        rw [← HTT.out]
        split
        · exact HOK1.out
        · exact tell_ok HOK1.out
      have HSTEP : Hid (Lm.step W H bs ⟨pw, op, ev⟩ l D = (⟨T.1, T.2.2.1.at_, T.2.2.1.wv, rowOf W bs T.2.2.1, 0, T.2.1⟩, T.2.2.1, T.2.2.2)) := Lib.hid (by
        unfold Lm.step
        simp only
        rw [HD1.out, HL1.out, HTT.out])
      obtain ⟨t1, t2, t3, t4⟩ := T
      simp only at HPM6 HX6 hokT HSTEP ⊢
      have HOKT := Lib.hid hokT
      clear hokT HTT HD1 HL1 HOK1 HOK
      have sb0 : (wc).cell? ⟨sb, 0, none⟩ = some (.int .i64 (((t3).wv : Nat))) := (HPM6.out).s.cell (i := 0) (by omega)
      have sb1 : (wc).cell? ⟨sb, 1, none⟩ = some (.int .i64 (((t3).at_ : Nat))) := (HPM6.out).s.cell (i := 1) (by omega)
      have sb2 : (wc).cell? ⟨sb, 2, none⟩ = some (.bool (t3).stop) := (HPM6.out).s.cell (i := 2) (by omega)
      have sb3 : (wc).cell? ⟨sb, 3, none⟩ = some (.bool (t3).dead) := (HPM6.out).s.cell (i := 3) (by omega)
      have fs0 := (HPM6.out).s.frozen 0
      have fs1 := (HPM6.out).s.frozen 1
      have fs2 := (HPM6.out).s.frozen 2
      have fs3 := (HPM6.out).s.frozen 3
      have lsb : LtW sb wc := (HPM6.out).s.lt
      have x0 : (wc).cell? ⟨xb, 0, none⟩ = some (.int .i64 (((⟨t1, 0, 0, [], 0, t2⟩ : Seen)).do_)) := (HX6.out).cell (i := 0) (by omega)
      have x1 : (wc).cell? ⟨xb, 1, none⟩ = some (.int .i64 (((⟨t1, 0, 0, [], 0, t2⟩ : Seen)).st)) := (HX6.out).cell (i := 1) (by omega)
      have x2 : (wc).cell? ⟨xb, 2, none⟩ = some (.int .i64 (((⟨t1, 0, 0, [], 0, t2⟩ : Seen)).wv)) := (HX6.out).cell (i := 2) (by omega)
      have x3 : (wc).cell? ⟨xb, 3, none⟩ = some ((.slice none 0 0)) := (HX6.out).cell (i := 3) (by omega)
      have x4 : (wc).cell? ⟨xb, 4, none⟩ = some (.int .i64 (((⟨t1, 0, 0, [], 0, t2⟩ : Seen)).oe)) := (HX6.out).cell (i := 4) (by omega)
      have x5 : (wc).cell? ⟨xb, 5, none⟩ = some (.int .i64 (((⟨t1, 0, 0, [], 0, t2⟩ : Seen)).er)) := (HX6.out).cell (i := 5) (by omega)
      have lx : LtW xb wc := (HX6.out).lt
      simp only at x0 x1 x2 x4 x5
      have fx1 := HX6.out.frozen 1; have fx2 := HX6.out.frozen 2
      have hxs : xb ≠ sb := fun e => by
        have h9 := HPM6.out.s
        rw [← e] at h9
        obtain ⟨c1, e1, _⟩ := h9
        exact absurd (ty_ne HX6.out e1) (by decide)
      have hxs' := hxs.symm
      go_wp2_with fail
      go_region
      have HPM9 := Lib.hid ((HPM6.out.setX (i := 1) (u := .int .i64 ((t3.at_ : Nat))) HX6.out HMX.out HX0.out).setX (i := 2) (u := .int .i64 ((t3.wv : Nat))) (HX6.out.set 1 (.int .i64 ((t3.at_ : Nat)))) HMX.out HX0.out)
      have hx9 := ((HX6.out.set 1 (.int .i64 ((t3.at_ : Nat)))).set 2 (.int .i64 ((t3.wv : Nat)))).congr (g := xF (.slice none 0 0) ⟨t1, t3.at_, t3.wv, [], 0, t2⟩) fun i hi => by
        have hi2 : i = 0 ∨ i = 1 ∨ i = 2 ∨ i = 3 ∨ i = 4 ∨ i = 5 := by omega
        rcases hi2 with rfl | rfl | rfl | rfl | rfl | rfl <;> rfl
      have hdr : Below ((wc.setCell ⟨xb, 1, none⟩ (.int .i64 ((t3.at_ : Nat)))).setCell ⟨xb, 2, none⟩ (.int .i64 ((t3.wv : Nat)))).heap.size ((wc.setCell ⟨xb, 1, none⟩ (.int .i64 ((t3.at_ : Nat)))).setCell ⟨xb, 2, none⟩ (.int .i64 ((t3.wv : Nat)))) ((wc.setCell ⟨xb, 1, none⟩ (.int .i64 ((t3.at_ : Nat)))).setCell ⟨xb, 2, none⟩ (.int .i64 ((t3.wv : Nat)))).drew := (Below.refl _ _).drew
      have HPM9 := Lib.hid (HPM9.out.grow hdr)
      have HX9 := Lib.hid (rowBelow hx9 hdr hx9.lt)
      clear hdr hx9 x0 x1 x2 x3 x4 x5 lx fx1 fx2 sb0 sb1 sb2 sb3 fs0 fs1 fs2 fs3 lsb HPM6 HX6
      generalize ((wc.setCell ⟨xb, 1, none⟩ (.int .i64 ((t3.at_ : Nat)))).setCell ⟨xb, 2, none⟩ (.int .i64 ((t3.wv : Nat)))).drew = w9 at *
      have sb0 : (w9).cell? ⟨sb, 0, none⟩ = some (.int .i64 (((t3).wv : Nat))) := (HPM9.out).s.cell (i := 0) (by omega)
      have sb1 : (w9).cell? ⟨sb, 1, none⟩ = some (.int .i64 (((t3).at_ : Nat))) := (HPM9.out).s.cell (i := 1) (by omega)
      have sb2 : (w9).cell? ⟨sb, 2, none⟩ = some (.bool (t3).stop) := (HPM9.out).s.cell (i := 2) (by omega)
      have sb3 : (w9).cell? ⟨sb, 3, none⟩ = some (.bool (t3).dead) := (HPM9.out).s.cell (i := 3) (by omega)
      have fs0 := (HPM9.out).s.frozen 0
      have fs1 := (HPM9.out).s.frozen 1
      have fs2 := (HPM9.out).s.frozen 2
      have fs3 := (HPM9.out).s.frozen 3
      have lsb : LtW sb w9 := (HPM9.out).s.lt
      obtain ⟨ROW, hROW⟩ : ∃ R, rowOf W bs t3 = R := ⟨_, rfl⟩
      have HROW := Lib.hid hROW
      rw [hROW] at HSTEP
      clear hROW
      obtain ⟨B1, hB1⟩ : ∃ b, decide ((1 : Int) ≤ ((t3.at_ : Nat) : Int)) = b := ⟨_, rfl⟩
      have hB1' : decide (1 ≤ t3.at_) = B1 := by rw [← hB1]; exact decide_eq_decide.2 (by omega)
      obtain ⟨B2, hB2⟩ : ∃ b, decide (((t3.at_ : Nat) : Int) ≤ (4 : Int)) = b := ⟨_, rfl⟩
      have hB2' : decide (t3.at_ ≤ 4) = B2 := by rw [← hB2]; exact decide_eq_decide.2 (by omega)
      go_upto_region 39 with fail
      go_cut [144] (fun bv wx => w9 = wx ∧ bv = .bool (B1 && B2))
      case first =>
        cases B1 with
        | true =>
          go_wp2
          go_meet
          exact ⟨rfl, rfl⟩
        | false =>
          go_wp2
          go_meet
          exact ⟨rfl, rfl⟩
      obtain ⟨rfl, rfl⟩ := hcut
      have HB12 : Hid ((B1 && B2) = true → 1 ≤ t3.at_ ∧ t3.at_ ≤ 4) := Lib.hid (fun h => by rw [← hB1', ← hB2'] at h; simpa using h)
      have HB13 : Hid ((B1 && B2) = false → ¬ (1 ≤ t3.at_ ∧ t3.at_ ≤ 4)) := Lib.hid (fun h => by rw [← hB1', ← hB2'] at h; simp at h; omega)
      clear hB1 hB1' hB2 hB2'
      generalize (B1 && B2) = BB at *
      go_upto_if 144 with fail
      go_cut [] (fun wx => ∃ v, Hid (RP mb sb g cp W H A n c t4.ws (sF t3) (.slice AO k CO) LS w wx) ∧ Hid (wx.rowIs xb 34 6 (xF v ⟨t1, t3.at_, t3.wv, ROW, 0, t2⟩)) ∧ Hid (BoolRow wx v ROW))
      case first =>
        cases BB with
        | false =>
          have HRN : Hid (ROW = []) := Lib.hid (by rw [← HROW.out]; unfold rowOf; rw [if_neg (HB13.out rfl)])
          clear HB12 HB13
          go_wp2
          go_meet
          refine ⟨.slice none 0 0, HPM9, ?_, ?_⟩
          · exact Lib.hid (HX9.out.congr fun i hi => by
              have hi2 : i = 0 ∨ i = 1 ∨ i = 2 ∨ i = 3 ∨ i = 4 ∨ i = 5 := by omega
              rcases hi2 with rfl | rfl | rfl | rfl | rfl | rfl <;> rfl)
          · exact Lib.hid (.inl ⟨rfl, HRN.out⟩)
        | true =>
          obtain ⟨hrl, hrg⟩ := rowOf_get HBLN.out HNN.out (HB12.out rfl) (HOKT.out.lt (by have := (HB12.out rfl).2; omega))
          rw [HROW.out] at hrl hrg
          have HRG := Lib.hid hrg
          have HWV := Lib.hid (HOKT.out.w)
          have hxw : xb < w9.heap.size := HX9.out.lt
          have hmw : mb < w9.heap.size := HPM9.out.m.lt
          have hsw : sb < w9.heap.size := HPM9.out.s.lt
          have hmx : mb ≠ xb := fun e => by
            have h9 := HPM9.out.m
            rw [e] at h9
            obtain ⟨c1, e1, _⟩ := h9
            exact absurd (ty_ne HX9.out e1) (by decide)
          clear HB12 HB13 hrg sb0 sb1 sb2 sb3 fs0 fs1 fs2 fs3 lsb
          have HX9' : Hid (w9.rowIs xb 34 6 (xF (.slice none 0 0) ⟨t1, t3.at_, t3.wv, [], 0, t2⟩)) := HX9
          go_wp2_with fail
          go_loopw [23] (fun iv wr => ∃ (r : Nat) (v : Value), r ≤ W ∧ iv = .int .i64 r ∧ Hid (RB xb ⟨t1, t3.at_, t3.wv, [], 0, t2⟩ (ROW.take r) w9 v wr)) (fun iv _ => W - (intOf iv).toNat)
          case atStart => exact ⟨0, _, Nat.zero_le _, rfl, Lib.hid (RB.start HX9.out)⟩
          case round =>
            obtain ⟨r, v, hr, rfl, HRB⟩ := hrel
            have hrm := HRB.out.bel.rowIs HPM9.out.m hmw hmx
            have hrs := HRB.out.bel.rowIs HPM9.out.s hsw hxs.symm
            have q0 : wr.cell? ⟨mb, 0, none⟩ = some (.int .i64 (W)) := hrm.cell (i := 0) (by omega)
            have q1 : wr.cell? ⟨mb, 1, none⟩ = some (.int .i64 (H)) := hrm.cell (i := 1) (by omega)
            have q2 : wr.cell? ⟨mb, 2, none⟩ = some (.slice A n c) := hrm.cell (i := 2) (by omega)
            have lmb : LtW mb wr := hrm.lt
            have sb0 : wr.cell? ⟨sb, 0, none⟩ = some (.int .i64 ((t3.wv : Nat))) := hrs.cell (i := 0) (by omega)
            have lsb : LtW sb wr := hrs.lt
            clear hrm hrs
            by_cases hrW : r < W
            · have HI2 := Lib.hid (HB.out.below (HPM9.out.ofX HX9.out HMX.out HX0.out HRB.out.bel).bel)
              obtain ⟨p, hp⟩ : ∃ p, t3.wv * W + r = p := ⟨_, rfl⟩
              obtain ⟨hpn, hbit⟩ := HRG.out r hrW
              rw [hp] at hpn hbit
              have HBC := Lib.hid (fun wq h => HBIT.out wq h t3.wv r p hp hpn (by omega) (by have := HWV.out; omega))
              have HBT := Lib.hid (take_get ROW r (by omega))
              rw [hbit] at HBT
              obtain ⟨hr0, ho0, hx0⟩ := HRB.out
              have htl : (ROW.take r).length = r := by rw [List.length_take]; omega
              rw [htl] at ho0
              have cM : wr.cell? ⟨xb, 3, none⟩ = some v := hr0.cell (i := 3) (by omega)
              have fM := hr0.frozen 3
              have lm : LtW xb wr := hr0.lt
              have HO := Lib.hid ho0
              have HX := Lib.hid hx0
              have HR := Lib.hid hr0
              have hxsz := hx0.size
              clear hr0 ho0 hx0 HRB hp hbit hpn htl
              generalize bs.getD p false = bit at *
              generalize ROW.take r = L at *
              have dr : decide ((r : Int) < (W : Int)) = true := by simp; omega
              have dr' : decide (r < W) = true := by simpa using hrW
              go_wp2_with fail
              (refine wp_region_ext_build 7 _ mkOne (.cells #[.bool (bit)] 4) (by kernel_rfl) (by kernel_rfl) rfl rfl ?_; simp only [List.take_succ_cons, List.take_zero, List.drop_succ_cons, List.drop_zero]; (repeat (first | ((with_reducible refine wpV_step (fun K hK => ?_)); go_simp; first | (refine hK _ ?_; clear hK K) | (apply Exists.intro; refine ⟨fun _ _ => ?_, hK _ ?_⟩; (go_at_call 21; exact vOf (HBC.out _ (HI2.out.below (by repeat (first | exact Below.refl _ _ | refine Below.drew ?_ | refine below_drewN ?_ _ | refine Below.alloc ?_ (by first | exact Nat.le_refl _ | (simp; done) | (simp; omega) | omega) _ | refine Below.setCell ?_ (by first | exact Nat.le_refl _ | (simp; done) | (simp; omega) | omega) _ | refine bExtW ?_ (by first | exact Nat.le_refl _ | (simp; done) | (simp; omega) | omega) | refine Below.trans ?_ (Below.mono (by assumption) (by first | exact Nat.le_refl _ | (simp; done) | (simp; omega) | omega))))))); clear hK K)))); refine wpV_nil ?_; refine ⟨fun W => by go_simp; rfl, fun E d E' d' => ?_⟩)
              have hbE := built_below wr E d (.cells #[.bool (bit)] 4) E' d'
              have HCS := Lib.hid (built_cell wr E d #[.bool (bit)] 4 E' d')
              have cME := bCs hbE cM
              have fME := (hbE.frozen (p := ⟨xb, 3, none⟩) (show xb < wr.heap.size from lm)).trans fM
              have HOE := Lib.hid (ownBelow HO.out hbE)
              have hgE := Nat.le_trans HX.out.size hbE.size
              have HBE := Lib.hid hbE
              clear hbE cM fM
              generalize extW ((extW wr E d).alloc (.cells #[.bool (bit)] 4)) E' d' = WE at *
              generalize (extW wr E d).heap.size = BBk at *
              go_wp2_with (at_builtin; refine wpAppB okBools rfl (.tmp 152) (.tmp 158) rfl w9.heap.size _ _ _ #[.bool (bit)] BBk rfl HOE.out rfl HCS.out rfl ?_ (by omega) (by omega) (by omega) ?_)
              · simp [Value.oneCell']
              intro v' w2 hown2 hb2
              obtain ⟨A', cp', rfl⟩ := own_form hown2
              have cM2 : w2.cell? ⟨xb, 3, none⟩ = some v := (hb2.cell (p := ⟨xb, 3, none⟩) (by simp; omega)).trans cME
              have fM2 : w2.frozen? ⟨xb, 3, none⟩ = false := (hb2.frozen (p := ⟨xb, 3, none⟩) (by simp; omega)).trans fME
              have HNW := Lib.hid (RB.app HR.out HX.out HBE.out (by omega) hown2 hb2)
              clear hown2 hb2 cME fME
              go_wp2
              go_roundw
              case rel => exact ⟨r + 1, _, by omega, by go_num, by rw [HBT.out]; exact HNW⟩
              case measure => simp [intOf]; omega
            · have hrw : r = W := by omega
              have HRW : Hid (RB xb ⟨t1, t3.at_, t3.wv, [], 0, t2⟩ ROW w9 v wr) := by
                have h9 := HRB.out
                rw [List.take_of_length_le (by omega)] at h9
                exact Lib.hid h9
              have dr : decide ((r : Int) < (W : Int)) = false := by simp; omega
              have dr' : decide (r < W) = false := by simpa using hrW
              clear HRB hrw
              go_wp2
              go_meet
              refine ⟨v, Lib.hid (HPM9.out.ofX HX9.out HMX.out HX0.out HRW.out.bel), Lib.hid (HRW.out.row.congr fun i hi => ?_), Lib.hid (BoolRow.of_own HRW.out.own)⟩
              have hi2 : i = 0 ∨ i = 1 ∨ i = 2 ∨ i = 3 ∨ i = 4 ∨ i = 5 := by omega
              rcases hi2 with rfl | rfl | rfl | rfl | rfl | rfl <;> rfl
      obtain ⟨v9, HPM11, HX11, HBR11⟩ := hcut
      obtain ⟨A9, c9, rfl, _⟩ := HBR11.out.bools
      clear sb0 sb1 sb2 sb3 fs0 fs1 fs2 fs3 lsb HPM9 HX9 HB12 HB13
      obtain ⟨vs, hvl, hvo, hvr⟩ := HPM11.out.out
      have HVO := Lib.hid hvo; have HVR := Lib.hid hvr; have HVL := Lib.hid hvl
      rw [HLEN.out] at hvo
      have HVO2 := Lib.hid hvo
      have hms := HPM11.out.bel.size
      have hmb2 := HMBE.out
      have x0 : (wc).cell? ⟨xb, 0, none⟩ = some (.int .i64 (((⟨t1, t3.at_, t3.wv, ROW, 0, t2⟩ : Seen)).do_)) := (HX11.out).cell (i := 0) (by omega)
      have x1 : (wc).cell? ⟨xb, 1, none⟩ = some (.int .i64 (((⟨t1, t3.at_, t3.wv, ROW, 0, t2⟩ : Seen)).st)) := (HX11.out).cell (i := 1) (by omega)
      have x2 : (wc).cell? ⟨xb, 2, none⟩ = some (.int .i64 (((⟨t1, t3.at_, t3.wv, ROW, 0, t2⟩ : Seen)).wv)) := (HX11.out).cell (i := 2) (by omega)
      have x3 : (wc).cell? ⟨xb, 3, none⟩ = some ((.slice A9 ROW.length c9)) := (HX11.out).cell (i := 3) (by omega)
      have x4 : (wc).cell? ⟨xb, 4, none⟩ = some (.int .i64 (((⟨t1, t3.at_, t3.wv, ROW, 0, t2⟩ : Seen)).oe)) := (HX11.out).cell (i := 4) (by omega)
      have x5 : (wc).cell? ⟨xb, 5, none⟩ = some (.int .i64 (((⟨t1, t3.at_, t3.wv, ROW, 0, t2⟩ : Seen)).er)) := (HX11.out).cell (i := 5) (by omega)
      have lx : LtW xb wc := (HX11.out).lt
      simp only at x0 x1 x2 x4 x5
      have hmlt : mb < wc.heap.size := HPM11.out.m.lt
      clear hvo hvr hvl
      go_wp2_with (at_builtin; go_loud (refine wpAppG okSeen rfl (.tmp 161) (.tmp 163) rfl mb _ _ _ #[.int .i64 (t1), .int .i64 ((t3.at_ : Nat)), .int .i64 ((t3.wv : Nat)), .slice A9 ROW.length c9, .int .i64 (0), .int .i64 (t2)] wc.heap.size rfl (HVO2.out.alloc _) rfl ?_ rfl ?_ (by omega) (by omega) (by rw [World.size_alloc]; omega) ?_))
      · intro j u hj
        rw [World.cell?_alloc_new]; exact hj
      · simp [Value.oneCell']
      · intro v' w6 hown6 hg6
        obtain ⟨A6, c6, rfl⟩ := own_form hown6
        have hal : Below wc.heap.size wc (wc.alloc (.cells #[.int .i64 (t1), .int .i64 ((t3.at_ : Nat)), .int .i64 ((t3.wv : Nat)), .slice A9 ROW.length c9, .int .i64 (0), .int .i64 (t2)] 34)) := (Below.refl _ _).alloc (Nat.le_refl _) _
        have hout6 := OutS.app (x := ⟨t1, t3.at_, t3.wv, ROW, 0, t2⟩) (xv := .slice A9 ROW.length c9) HVL.out HVO.out HVR.out HBR11.out hal (by rw [HLEN.out]; exact hown6) hg6
        have hpm6 := (HPM11.out.grow hal).grown hg6 hout6
        have HP6 : Hid (RP mb sb g cp W H A n c (runT W H bs ws ST (k + 1)).2.2.ws (sF (runT W H bs ws ST (k + 1)).2.1) (.slice A6 (k + 1) c6) (runT W H bs ws ST (k + 1)).1 w w6) := Lib.hid (by rw [HRUN.out, HSTEP.out]; exact hpm6)
        have HLF : Hid ((runT W H bs ws ST (k + 1)).2.2.left = t4.left) := Lib.hid (by rw [HRUN.out, HSTEP.out])
        clear hown6 hg6 hal hout6 hpm6 HVO HVR HVL HVO2 HPM11 HBR11 x0 x1 x2 x3 x4 x5 lx
        go_wp2
        go_roundw
        case rel => exact ⟨k + 1, by omega, by go_num, by rw [HLF.out], HP6⟩
        case measure => simp [intOf]; omega
    · obtain rfl : k = sn := by omega
      have dk : decide ((k : Int) < (k : Int)) = false := by simp
      go_wp2_with fail
      go_ret2
      have hln := (HINV.out k).2
      refine ⟨.slice AO k CO, some ⟨g, 0, none⟩, cp, by rw [hln]; rfl, ?_, HPW.out.ints, HPW.out.bel⟩
      rw [HMBE.out]; exact HPW.out.out
end Go.Proofs.Ytefmlepogpjhmaa
