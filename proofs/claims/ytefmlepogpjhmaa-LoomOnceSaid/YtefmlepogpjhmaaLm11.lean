/- Chapter 10: plain.Loom where the loom is opened: the walk. -/
import Derived.Test.YtefmlepogpjhmaaLm10
namespace Go.Proofs.Ytefmlepogpjhmaa
open Go.RowKit
set_option linter.unusedVariables false
set_option linter.unusedSimpArgs false
open Lm
/-- A step's box is untouched. -/
theorem st_keep {a b g k cp W H : Nat} {bv : Value} {l : St} {d : Dk} {f : Nat → Value} {w w' : World} (h : w.rowIs k 53 3 f) (hk : Keep3 a b g w w') (hm : LMr a b W H bv l w) (hd : DK b g cp d w) : w'.rowIs k 53 3 f := by
  obtain ⟨c1, e1, e2⟩ := h
  have hlt := (Array.getElem?_eq_some_iff.1 e1).1
  refine ⟨c1, ?_, e2⟩
  rw [hk.block k hlt (fun e => ?_) (fun e => ?_) (fun e => ?_)]
  · exact e1
  · subst e; exact absurd (ty_ne hm e1) (by decide)
  · subst e; exact absurd (ty_ne hd.row e1) (by decide)
  · subst e
    obtain ⟨_, _, _, _, cur, e3, _⟩ := own_parts hd.own
    rw [e1] at e3
    injection e3 with e3
    injection e3 with _ e4
    exact absurd e4 (by decide)
theorem x_keep {a b g k cp W H : Nat} {bv : Value} {l : St} {d : Dk} {f : Nat → Value} {w w' : World} (h : w.rowIs k 34 6 f) (hk : Keep3 a b g w w') (hm : LMr a b W H bv l w) (hd : DK b g cp d w) : w'.rowIs k 34 6 f := by
  obtain ⟨c1, e1, e2⟩ := h
  have hlt := (Array.getElem?_eq_some_iff.1 e1).1
  refine ⟨c1, ?_, e2⟩
  rw [hk.block k hlt (fun e => ?_) (fun e => ?_) (fun e => ?_)]
  · exact e1
  · subst e; exact absurd (ty_ne hm e1) (by decide)
  · subst e; exact absurd (ty_ne hd.row e1) (by decide)
  · subst e
    obtain ⟨_, _, _, _, cur, e3, _⟩ := own_parts hd.own
    rw [e1] at e3
    injection e3 with e3
    injection e3 with _ e4
    exact absurd e4 (by decide)
theorem isBools_past {w w' : World} {a : Option Addr} {n : Nat} {bs : List Bool} (h : IsBools w a n bs) (hb : Below w.heap.size w w') : IsBools w' a n bs := h.below hb
set_option maxRecDepth 100000 in
set_option maxHeartbeats 8000000 in
theorem Loom_ok (W H : Nat) (A : Option Addr) (n c : Nat) (bs : List Bool) (B : Option Addr) (m cw : Nat) (ws : List Int) (Sa : Option Addr) (sn sc : Nat) (ST : List Step) (w : World) (hI : IsInts w B m ws) (hm : m ≤ 1048576) (hc : B = none → cw = 0) (hwf : ∀ x ∈ ws, (-9223372036854775808 ≤ x ∧ x ≤ 9223372036854775807))
    (hS : IsSteps w Sa sn ST) (hsn : sn ≤ 1048576) (hB : IsBools w A n bs) (hw : wrT W H n = 0) (hn0 : n ≠ 0) (hm2 : 2 ≤ m) :
    Calls Try.prog 5 #[.agg #[.int .i64 (W), .int .i64 (H), .slice A n c], .slice B m cw, .slice Sa sn sc] w (PlayPost (runT W H bs ws ST sn).1 (runT W H bs ws ST sn).2.2.ws w) := by
  have hl := hI.1
  subst hl
  obtain ⟨W', H', eW, eH, hW, hH, hn⟩ := wrT_zero hw
  obtain rfl : W = W' := by omega
  obtain rfl : H = H' := by omega
  have hH1 : 1 ≤ H := by
    rcases Nat.eq_zero_or_pos H with h | h
    · exfalso; apply hn0; rw [hn, h, Nat.mul_zero]
    · exact h
  have HI := Lib.hid hI
  have HOP := Lib.hid (fun b g cp (D : Dk) w' h (hb : Below w.heap.size w w') (hlen : D.ws.length = ws.length) => Open_ok W H A n c b g cp bs D w' h (isBools_past hB hb) hw hn0 (by rw [hlen]; exact hm2) (by rw [hlen]; omega))
  have HINV := Lib.hid (runT_inv bs ws ST hH1 (W := W))
  have HSTP := Lib.hid hS
  have HBL := Lib.hid hB.1
  have HNN := Lib.hid hn
  clear hI hS hB hw eW eH hn
  go_enter Try.func5, Try.ntmps5
  have howe := owns64_empty (w.alloc (.cells #[.int .i64 (W), .int .i64 (H), .slice A n c] 24)) (w.heap.size + 1) (by simp)
  rw [World.size_alloc] at howe
  go_wp2_with (at_builtin; refine wpAppV okI64 rfl (.tmp 16) (.tmp 17) rfl (w.heap.size + 1) _ 0 [] B ws.length cw (ws.map (Value.int .i64)) rfl howe rfl hc (by simp) (i64_cells (HI.out.below (by repeat (first | exact Below.refl _ _ | refine Below.drew ?_ | refine below_drewN ?_ _ | refine Below.alloc ?_ (by first | exact Nat.le_refl _ | (simp; done) | (simp; omega) | omega) _ | refine Below.setCell ?_ (by first | exact Nat.le_refl _ | (simp; done) | (simp; omega) | omega) _ | refine bExtW ?_ (by first | exact Nat.le_refl _ | (simp; done) | (simp; omega) | omega) | refine Below.trans ?_ (Below.mono (by assumption) (by first | exact Nat.le_refl _ | (simp; done) | (simp; omega) | omega)))))) (i64_ones ws) (by omega) (by omega) (by rw [World.size_alloc, World.size_alloc]; omega) ?_)
  intro v' w2 hown2 hg2 hat2
  obtain ⟨g, hg⟩ : ∃ g, v'.ownBlock = some g := by rcases hat2 with h | h; exact ⟨_, h⟩; exact ⟨_, h⟩
  obtain ⟨cp, rfl, hge⟩ := own_is_some hown2 hg
  have hb2 : Below (w.heap.size + 1) ((w.alloc (.cells #[.int .i64 (W), .int .i64 (H), .slice A n c] 24)).alloc (.cells #[] 2)) w2 := belowGrown hg2 (by simp) (fun k hk => by have e : some (w.heap.size + 1) = some k := hk; injection e with e; omega)
  have hm2 := rowBelow ((tF_alloc w W H (.slice A n c) rfl).alloc (.cells #[] 2)) hb2 (by omega)
  have hbw : Below w.heap.size w w2 := Below.trans (by repeat (first | exact Below.refl _ _ | refine Below.drew ?_ | refine below_drewN ?_ _ | refine Below.alloc ?_ (by first | exact Nat.le_refl _ | (simp; done) | (simp; omega) | omega) _ | refine Below.setCell ?_ (by first | exact Nat.le_refl _ | (simp; done) | (simp; omega) | omega) _ | refine bExtW ?_ (by first | exact Nat.le_refl _ | (simp; done) | (simp; omega) | omega) | refine Below.trans ?_ (Below.mono (by assumption) (by first | exact Nat.le_refl _ | (simp; done) | (simp; omega) | omega)))) (hb2.mono (by omega))
  have hpl := pl_start W H A n c ws w w2 g cp hwf hm2 hbw hge hown2
  have HPL := Lib.hid hpl
  clear hown2 hg2 hat2 hg hb2 hm2 hbw hpl hge
  go_upto_region 2 with fail
  generalize w2.alloc (.cells #[.slice (some ⟨g, 0, none⟩) ws.length cp, .int .i64 (-1), .bool false] 48) = w3 at *
  generalize w2.heap.size = bd at *
  generalize hmbe : w.heap.size = mb at *
  have HMBE := Lib.hid hmbe
  clear hmbe
  have q0 : (w3).cell? ⟨mb, 0, none⟩ = some (.int .i64 (W)) := (HPL).out.m.cell (i := 0) (by omega)
  have q1 : (w3).cell? ⟨mb, 1, none⟩ = some (.int .i64 (H)) := (HPL).out.m.cell (i := 1) (by omega)
  have q2 : (w3).cell? ⟨mb, 2, none⟩ = some (.slice A n c) := (HPL).out.m.cell (i := 2) (by omega)
  have lmb : LtW mb w3 := (HPL).out.m.lt
  go_wp2_with fail
  refine (HOP.out bd g cp ⟨ws, -1⟩ w3 HPL.out.d (by rw [← HMBE.out]; exact HPL.out.bel) rfl).mono ?_
  rintro r w4 ⟨a0, A0, c0, rfl, hm4, ho4, ha4, hb4⟩
  have hpm4 : PM mb bd g cp a0 W H A n c A0 c0 bs (begin_ H ws) ⟨ws, -1⟩ (.slice none 0 0) [] w w4 :=
    ⟨HPL.out.grow hb4, hm4, BoolRow.of_own (base := w3.heap.size) (by rw [HBL.out]; exact ho4), OutS.nil _ _, Nat.le_trans HPL.out.bel.size ha4, own_le ho4⟩
  have HP4 : Hid (PM mb bd g cp a0 W H A n c A0 c0 bs (runT W H bs ws ST 0).2.1 (runT W H bs ws ST 0).2.2 (.slice none 0 0) (runT W H bs ws ST 0).1 w w4) := Lib.hid hpm4
  clear hm4 ho4 ha4 hb4 hpm4 HPL q0 q1 q2 lmb
  go_wp2_with fail
  go_loopw [10, 11, 12, 30] (fun lv ev v iv wr => ∃ (k a : Nat) (A' : Option Addr) (c' : Nat), k ≤ sn ∧ iv = .int .i64 k ∧ lv = .pointer (some ⟨a, 0, none⟩) ∧ ev = .int .i64 0 ∧ Hid (PM mb bd g cp a W H A n c A' c' bs (runT W H bs ws ST k).2.1 (runT W H bs ws ST k).2.2 v (runT W H bs ws ST k).1 w wr)) (fun _ _ _ iv _ => sn - (intOf iv).toNat)
  case atStart => exact ⟨0, a0, A0, c0, by omega, rfl, rfl, rfl, HP4⟩
  case round =>
    obtain ⟨k, a, A', c', hk, rfl, rfl, rfl, HPM⟩ := hrel
    clear HP4
    obtain ⟨AO, CO, rfl⟩ := HPM.out.out.form
    rw [runT_len] at HPM ⊢
    by_cases hks : k < sn
    · have hinv := HINV.out k
      have hws := hinv.2
      have HOK := Lib.hid hinv.1
      have hrun : runT W H bs ws ST (k + 1) = ((runT W H bs ws ST k).1 ++ [(Lm.step W H bs (ST.getD k ⟨0, false, 0⟩) (runT W H bs ws ST k).2.1 (runT W H bs ws ST k).2.2).1], (Lm.step W H bs (ST.getD k ⟨0, false, 0⟩) (runT W H bs ws ST k).2.1 (runT W H bs ws ST k).2.2).2.1, (Lm.step W H bs (ST.getD k ⟨0, false, 0⟩) (runT W H bs ws ST k).2.1 (runT W H bs ws ST k).2.2).2.2) := rfl
      have hlen1 := runT_len W H bs ws ST k
      generalize (runT W H bs ws ST k).1 = LS at *
      generalize (runT W H bs ws ST k).2.1 = l at *
      generalize (runT W H bs ws ST k).2.2 = D at *
      have dk : decide ((k : Int) < (sn : Int)) = true := by simp; omega
      have dk' : decide (k < sn) = true := by simpa using hks
      obtain ⟨bS, oS, eS, hbS, hcS⟩ := (HSTP.out.below (show Below w.heap.size w wr from HPM.out.pl.bel)).2 (by omega)
      obtain ⟨s0, s1, s2⟩ := hcS k hks
      subst eS
      obtain ⟨x, hx⟩ : ∃ x, ST.getD k ⟨0, false, 0⟩ = x := ⟨_, rfl⟩
      rw [hx] at s0 s1 s2 hrun
      obtain ⟨pw, op, ev⟩ := x
      simp only at s0 s1 s2
      have HRUN := Lib.hid hrun
      have HLEN := Lib.hid hlen1
      have lbS : LtW bS wr := hbS
      clear hcS hx hbS hrun hinv hlen1
      go_upto_region 7 with fail
      have hst := stF_alloc wr ⟨pw, op, ev⟩
      have HPM1 := Lib.hid (HPM.out.grow (show Below wr.heap.size wr (wr.alloc (.cells #[.int .i64 (pw), .bool op, .int .i64 (ev)] 53)) from (by repeat (first | exact Below.refl _ _ | refine Below.drew ?_ | refine below_drewN ?_ _ | refine Below.alloc ?_ (by first | exact Nat.le_refl _ | (simp; done) | (simp; omega) | omega) _ | refine Below.setCell ?_ (by first | exact Nat.le_refl _ | (simp; done) | (simp; omega) | omega) _ | refine bExtW ?_ (by first | exact Nat.le_refl _ | (simp; done) | (simp; omega) | omega) | refine Below.trans ?_ (Below.mono (by assumption) (by first | exact Nat.le_refl _ | (simp; done) | (simp; omega) | omega))))))
      simp only at hst
      have hsba : wr.heap.size ≠ a := fun e => by have := HPM.out.lm.lt; omega
      clear s0 s1 s2 lbS HPM
      generalize wr.alloc (.cells #[.int .i64 (pw), .bool op, .int .i64 (ev)] 53) = w1 at *
      generalize wr.heap.size = sb at *
      have HST := Lib.hid hst
      clear hst hsba
      have s0 : (w1).cell? ⟨sb, 0, none⟩ = some (.int .i64 (pw)) := (HST.out).cell (i := 0) (by omega)
      have s1 : (w1).cell? ⟨sb, 1, none⟩ = some (.bool op) := (HST.out).cell (i := 1) (by omega)
      have s2 : (w1).cell? ⟨sb, 2, none⟩ = some (.int .i64 (ev)) := (HST.out).cell (i := 2) (by omega)
      have ls : LtW sb w1 := (HST.out).lt
      obtain ⟨D1, hD1⟩ : ∃ D1 : Dk, (if pw = 0 then D else { D with left := IntKind.i64.wrap (pw - 1) }) = D1 := ⟨_, rfl⟩
      have hws1 : D1.ws.length = ws.length := by rw [← hD1]; split <;> exact hws
      have HD1 := Lib.hid hD1
      clear hD1
      obtain ⟨bp, hbp⟩ : ∃ b, (pw != 0) = b := ⟨_, rfl⟩
      go_upto_if 36 with fail
      go_cut [] (fun wx => PM mb bd g cp a W H A n c A' c' bs l D1 (.slice AO k CO) LS w wx ∧ wx.rowIs sb 53 3 (stF ⟨pw, op, ev⟩))
      case first =>
        cases bp with
        | true =>
          have hp : ¬ pw = 0 := by intro e; rw [e] at hbp; simp at hbp
          have d1 := HPM1.out.pl.d.cells.2.1
          have fd1 := HPM1.out.pl.d.row.frozen 1
          have ld : LtW bd w1 := HPM1.out.pl.d.row.lt
          have HLX := Lib.hid (HPM1.out.setL (IntKind.i64.wrap (pw - 1)) (wrap_wf _))
          have hDe : D1 = { D with left := IntKind.i64.wrap (pw - 1) } := by rw [← HD1.out, if_neg hp]
          have HDE := Lib.hid hDe
          have HSX := Lib.hid (HST.out.of_block (Below.heap_setCell w1 ⟨bd, 1, none⟩ (.int .i64 (IntKind.i64.wrap (pw - 1))) sb (fun e => by
            have e : sb = bd := e
            have h9 := HST.out
            obtain ⟨c1, e1, _⟩ := h9
            rw [e] at e1
            exact absurd (ty_ne HPM1.out.pl.d.row e1) (by decide))))
          clear hbp HPM1 HST hp hDe
          go_wp2
          go_meet
          have e9 : wrap64 (pw - 1) = IntKind.i64.wrap (pw - 1) := by unfold wrap64; exact (IntKind.wrap_i64 _).symm
          rw [e9, HDE.out]
          exact ⟨HLX.out, HSX.out⟩
        | false =>
          have hp : pw = 0 := by simpa using hbp
          have HDE : Hid (D1 = D) := Lib.hid (by rw [← HD1.out, if_pos hp])
          clear hbp hp
          go_wp2
          go_meet
          rw [HDE.out]
          exact ⟨HPM1.out, HST.out⟩
      obtain ⟨hpm2, hst2⟩ := hcut
      have HPM2 := Lib.hid hpm2; have HST2 := Lib.hid hst2
      clear hpm2 hst2 HPM1 HST hbp s0 s1 s2 ls
      have s0 : (wc).cell? ⟨sb, 0, none⟩ = some (.int .i64 (pw)) := (HST2.out).cell (i := 0) (by omega)
      have s1 : (wc).cell? ⟨sb, 1, none⟩ = some (.bool op) := (HST2.out).cell (i := 1) (by omega)
      have s2 : (wc).cell? ⟨sb, 2, none⟩ = some (.int .i64 (ev)) := (HST2.out).cell (i := 2) (by omega)
      have ls : LtW sb wc := (HST2.out).lt
      have q0 : (wc).cell? ⟨mb, 0, none⟩ = some (.int .i64 (W)) := (HPM2.out.pl).m.cell (i := 0) (by omega)
      have q1 : (wc).cell? ⟨mb, 1, none⟩ = some (.int .i64 (H)) := (HPM2.out.pl).m.cell (i := 1) (by omega)
      have q2 : (wc).cell? ⟨mb, 2, none⟩ = some (.slice A n c) := (HPM2.out.pl).m.cell (i := 2) (by omega)
      have lmb : LtW mb wc := (HPM2.out.pl).m.lt
      obtain ⟨l1, hl1⟩ : ∃ l1 : St, (if op = true then begin_ H D1.ws else l) = l1 := ⟨_, rfl⟩
      have HL1 := Lib.hid hl1
      have hok1 : Ok H l1 := by
        rw [← hl1]
        split
        · exact begin_ok hH1 _
        · exact HOK.out
      have HOK1 := Lib.hid hok1
      clear hl1 hok1
      go_upto_if 44 with fail
      go_cut [10, 11] (fun lv ev2 wx => ev2 = .int .i64 0 ∧ ∃ (a2 : Nat) (A2 : Option Addr) (c2 : Nat), lv = .pointer (some ⟨a2, 0, none⟩) ∧ Hid (PM mb bd g cp a2 W H A n c A2 c2 bs l1 D1 (.slice AO k CO) LS w wx) ∧ Hid (wx.rowIs sb 53 3 (stF ⟨pw, op, ev⟩)))
      case first =>
        cases op with
        | true =>
          go_wp2_with fail
          refine (HOP.out bd g cp D1 wc HPM2.out.pl.d (by rw [← HMBE.out]; exact HPM2.out.pl.bel) hws1).mono ?_
          rintro r w4 ⟨a2, A2, c2, rfl, hm4, ho4, ha4, hb4⟩
          have hpm4 := HPM2.out.open_ HBL.out hm4 ho4 ha4 hb4
          have HPM4 : Hid (PM mb bd g cp a2 W H A n c A2 c2 bs l1 D1 (.slice AO k CO) LS w w4) := Lib.hid (by rw [← HL1.out, if_pos trivial]; exact hpm4)
          have HST4 := Lib.hid (rowBelow HST2.out hb4 HST2.out.lt)
          clear hm4 ho4 ha4 hb4 hpm4 HPM2 HST2 q0 q1 q2 lmb s0 s1 s2 ls
          go_wp2
          go_meet
          exact ⟨rfl, a2, A2, c2, rfl, HPM4, HST4⟩
        | false =>
          have HPM4 : Hid (PM mb bd g cp a W H A n c A' c' bs l1 D1 (.slice AO k CO) LS w wc) := Lib.hid (by rw [← HL1.out]; exact HPM2.out)
          go_wp2
          go_meet
          exact ⟨rfl, a, A', c', rfl, HPM4, HST2⟩
      obtain ⟨rfl, a2, A2, c2, rfl, HPM3, HST3⟩ := hcut
      clear q0 q1 q2 lmb s0 s1 s2 ls HPM2 HST2 HOP
      go_upto_region 12 with fail
      have hx5 := xF_alloc wc none 0 0 ⟨0, 0, 0, [], 0, 0⟩
      have hbx : Below wc.heap.size wc (wc.alloc (.cells #[.int .i64 (0), .int .i64 (0), .int .i64 (0), .slice none 0 0, .int .i64 (0), .int .i64 (0)] 34)) := (by repeat (first | exact Below.refl _ _ | refine Below.drew ?_ | refine below_drewN ?_ _ | refine Below.alloc ?_ (by first | exact Nat.le_refl _ | (simp; done) | (simp; omega) | omega) _ | refine Below.setCell ?_ (by first | exact Nat.le_refl _ | (simp; done) | (simp; omega) | omega) _ | refine bExtW ?_ (by first | exact Nat.le_refl _ | (simp; done) | (simp; omega) | omega) | refine Below.trans ?_ (Below.mono (by assumption) (by first | exact Nat.le_refl _ | (simp; done) | (simp; omega) | omega))))
      have hpm5 := HPM3.out.grow hbx
      have hst5 := rowBelow HST3.out hbx HST3.out.lt
      have hx0 : ∀ q, (Value.slice AO k CO).ownBlock = some q → wc.heap.size ≠ q := fun q hq e => by
        obtain ⟨vs, _, ho, _⟩ := HPM3.out.out
        have := (ho.lt q hq).2
        omega
      have hmx : w.heap.size ≤ wc.heap.size := HPM3.out.pl.bel.size
      clear hbx HPM3 HST3
      generalize wc.alloc (.cells #[.int .i64 (0), .int .i64 (0), .int .i64 (0), .slice none 0 0, .int .i64 (0), .int .i64 (0)] 34) = w5 at *
      generalize wc.heap.size = xb at *
      have HX5 := Lib.hid hx5; have HPM5 := Lib.hid hpm5; have HST5 := Lib.hid hst5; have HX0 := Lib.hid hx0; have HMX := Lib.hid hmx
      clear hx5 hpm5 hst5 hx0 hmx
      have s0 : (w5).cell? ⟨sb, 0, none⟩ = some (.int .i64 (pw)) := (HST5.out).cell (i := 0) (by omega)
      have s1 : (w5).cell? ⟨sb, 1, none⟩ = some (.bool op) := (HST5.out).cell (i := 1) (by omega)
      have s2 : (w5).cell? ⟨sb, 2, none⟩ = some (.int .i64 (ev)) := (HST5.out).cell (i := 2) (by omega)
      have ls : LtW sb w5 := (HST5.out).lt
      obtain ⟨T, hT⟩ : ∃ T : Int × Int × St × Dk, (if ev = 0 then (0, 0, l1, D1) else tell H ev l1 D1) = T := ⟨_, rfl⟩
      have HTT := Lib.hid hT
      clear hT
      obtain ⟨be, hbe⟩ : ∃ b, (ev != 0) = b := ⟨_, rfl⟩
      go_upto_if 58 with fail
      go_cut [] (fun wx => Hid (PM mb bd g cp a2 W H A n c A2 c2 bs T.2.2.1 T.2.2.2 (.slice AO k CO) LS w wx) ∧ Hid (wx.rowIs xb 34 6 (xF (.slice none 0 0) ⟨T.1, 0, 0, [], 0, T.2.1⟩)))
      case first =>
        cases be with
        | true =>
          have hp : ¬ ev = 0 := by intro e; rw [e] at hbe; simp at hbe
          have HTE : Hid (tell H ev l1 D1 = T) := Lib.hid (by rw [← HTT.out, if_neg hp])
          have hdo := Do_any a2 bd g cp W H (.slice A2 n c2) ev l1 D1 w5 HPM5.out.lm HPM5.out.pl.d (by rw [hws1]; exact hm2) (by rw [hws1]; omega) (by have := HOK1.out.w; omega)
          rw [HTE.out] at hdo
          have HDO := Lib.hid hdo
          clear hbe hp hdo
          go_wp2_with fail
          refine HDO.out.mono ?_
          rintro r w6 ⟨rfl, hm6, hd6, hk6⟩
          have hpm6 := HPM5.out.told hm6 hd6 hk6
          have hx6 := x_keep HX5.out hk6 HPM5.out.lm HPM5.out.pl.d
          have HX6 := Lib.hid hx6
          have HPM6 := Lib.hid hpm6
          have x0 : (w6).cell? ⟨xb, 0, none⟩ = some (.int .i64 (((⟨0, 0, 0, [], 0, 0⟩ : Seen)).do_)) := (hx6).cell (i := 0) (by omega)
          have x1 : (w6).cell? ⟨xb, 1, none⟩ = some (.int .i64 (((⟨0, 0, 0, [], 0, 0⟩ : Seen)).st)) := (hx6).cell (i := 1) (by omega)
          have x2 : (w6).cell? ⟨xb, 2, none⟩ = some (.int .i64 (((⟨0, 0, 0, [], 0, 0⟩ : Seen)).wv)) := (hx6).cell (i := 2) (by omega)
          have x3 : (w6).cell? ⟨xb, 3, none⟩ = some ((.slice none 0 0)) := (hx6).cell (i := 3) (by omega)
          have x4 : (w6).cell? ⟨xb, 4, none⟩ = some (.int .i64 (((⟨0, 0, 0, [], 0, 0⟩ : Seen)).oe)) := (hx6).cell (i := 4) (by omega)
          have x5 : (w6).cell? ⟨xb, 5, none⟩ = some (.int .i64 (((⟨0, 0, 0, [], 0, 0⟩ : Seen)).er)) := (hx6).cell (i := 5) (by omega)
          have lx : LtW xb w6 := (hx6).lt
          simp only at x0 x1 x2 x4 x5
          have fx0 := hx6.frozen 0; have fx5 := hx6.frozen 5
          clear hm6 hd6 hk6 hpm6 hx6 HPM5 HX5 HST5 s0 s1 s2 ls HDO
          go_wp2
          go_meet
          exact ⟨Lib.hid ((HPM6.out.set HX6.out HMX.out HX0.out).set (HX6.out.set 0 (.int .i64 (T.1))) HMX.out HX0.out), Lib.hid (((HX6.out.set 0 (.int .i64 (T.1))).set 5 (.int .i64 (T.2.1))).congr fun i hi => by
            have hi2 : i = 0 ∨ i = 1 ∨ i = 2 ∨ i = 3 ∨ i = 4 ∨ i = 5 := by omega
            rcases hi2 with rfl | rfl | rfl | rfl | rfl | rfl <;> rfl)⟩
        | false =>
          have hp : ev = 0 := by simpa using hbe
          have HTE : Hid ((0, 0, l1, D1) = T) := Lib.hid (by rw [← HTT.out, if_pos hp])
          clear hbe hp
          go_wp2
          go_meet
          rw [← HTE.out]
          exact ⟨HPM5, HX5⟩
      obtain ⟨HPM6, HX6⟩ := hcut
      clear s0 s1 s2 ls HPM5 HX5 HST5 hbe
      have hokT : Ok H T.2.2.1 := by
        rw [← HTT.out]
        split
        · exact HOK1.out
        · exact tell_ok HOK1.out
      have HSTEP : Hid (Lm.step W H bs ⟨pw, op, ev⟩ l D = (⟨T.1, T.2.2.1.at_, T.2.2.1.wv, rowOf W bs T.2.2.1, 0, T.2.1⟩, T.2.2.1, T.2.2.2)) := Lib.hid (by
        unfold Lm.step
        simp only
        rw [HD1.out, HL1.out, HTT.out])
      obtain ⟨t1, t2, t3, t4⟩ := T
      simp only at HPM6 HX6 hokT HSTEP
      have HOKT := Lib.hid hokT
      clear hokT HTT HD1 HL1 HOK1 HOK
      go_wp2_with fail
      refine (state_ok a2 bd W H (.slice A2 n c2) t3 wc HPM6.out.lm).mono ?_
      rintro r w7 ⟨rfl, hb7⟩
      have HPM7 := Lib.hid (HPM6.out.grow hb7); have HX7 := Lib.hid (rowBelow HX6.out hb7 HX6.out.lt)
      clear hb7 HPM6 HX6
      go_wp2_with fail
      refine (woven_ok a2 bd W H (.slice A2 n c2) t3 w7 HPM7.out.lm).mono ?_
      rintro r w8 ⟨rfl, hb8⟩
      have HPM8 := Lib.hid (HPM7.out.grow hb8); have hx8 := rowBelow HX7.out hb8 HX7.out.lt
      have HX8 := Lib.hid hx8
      have x0 : (w8).cell? ⟨xb, 0, none⟩ = some (.int .i64 (((⟨t1, 0, 0, [], 0, t2⟩ : Seen)).do_)) := (hx8).cell (i := 0) (by omega)
      have x1 : (w8).cell? ⟨xb, 1, none⟩ = some (.int .i64 (((⟨t1, 0, 0, [], 0, t2⟩ : Seen)).st)) := (hx8).cell (i := 1) (by omega)
      have x2 : (w8).cell? ⟨xb, 2, none⟩ = some (.int .i64 (((⟨t1, 0, 0, [], 0, t2⟩ : Seen)).wv)) := (hx8).cell (i := 2) (by omega)
      have x3 : (w8).cell? ⟨xb, 3, none⟩ = some ((.slice none 0 0)) := (hx8).cell (i := 3) (by omega)
      have x4 : (w8).cell? ⟨xb, 4, none⟩ = some (.int .i64 (((⟨t1, 0, 0, [], 0, t2⟩ : Seen)).oe)) := (hx8).cell (i := 4) (by omega)
      have x5 : (w8).cell? ⟨xb, 5, none⟩ = some (.int .i64 (((⟨t1, 0, 0, [], 0, t2⟩ : Seen)).er)) := (hx8).cell (i := 5) (by omega)
      have lx : LtW xb w8 := (hx8).lt
      simp only at x0 x1 x2 x4 x5
      have fx1 := hx8.frozen 1; have fx2 := hx8.frozen 2
      clear hb8 HPM7 HX7 hx8
      go_wp2_with fail
      have HPM9 := Lib.hid ((HPM8.out.set (i := 1) (u := .int .i64 ((t3.at_ : Nat))) HX8.out HMX.out HX0.out).set (i := 2) (u := .int .i64 ((t3.wv : Nat))) (HX8.out.set 1 (.int .i64 ((t3.at_ : Nat)))) HMX.out HX0.out)
      have hx9 := ((HX8.out.set 1 (.int .i64 ((t3.at_ : Nat)))).set 2 (.int .i64 ((t3.wv : Nat)))).congr (g := xF (.slice none 0 0) ⟨t1, t3.at_, t3.wv, [], 0, t2⟩) fun i hi => by
        have hi2 : i = 0 ∨ i = 1 ∨ i = 2 ∨ i = 3 ∨ i = 4 ∨ i = 5 := by omega
        rcases hi2 with rfl | rfl | rfl | rfl | rfl | rfl <;> rfl
      have HX9 := Lib.hid hx9
      clear x0 x1 x2 x3 x4 x5 lx fx1 fx2 HPM8 HX8 hx9
      generalize (w8.setCell ⟨xb, 1, none⟩ (.int .i64 ((t3.at_ : Nat)))).setCell ⟨xb, 2, none⟩ (.int .i64 ((t3.wv : Nat))) = w9 at *
      obtain ⟨q2, r2, eq2, hbits⟩ := HPM9.out.bits.bools
      rw [HBL.out] at eq2 hbits
      injection eq2 with eq21 _ eq22
      subst eq21 eq22
      refine (Row_any a2 bd W H A2 n c2 bs t3 w9 HPM9.out.lm hbits HPM9.out.cc HNN.out hW hH HOKT.out.lt).mono ?_
      generalize (if 1 ≤ t3.at_ ∧ t3.at_ ≤ 4 then (0 : Int) else 9) = er
      rintro r w10 ⟨A10, c10, rfl, ho10, hb10⟩
      have hbr := BoolRow.of_own ho10
      have HPM10 := Lib.hid (HPM9.out.grow hb10); have hx10 := rowBelow HX9.out hb10 HX9.out.lt
      have HX10 := Lib.hid hx10; have HBR := Lib.hid hbr
      have x0 : (w10).cell? ⟨xb, 0, none⟩ = some (.int .i64 (((⟨t1, t3.at_, t3.wv, [], 0, t2⟩ : Seen)).do_)) := (hx10).cell (i := 0) (by omega)
      have x1 : (w10).cell? ⟨xb, 1, none⟩ = some (.int .i64 (((⟨t1, t3.at_, t3.wv, [], 0, t2⟩ : Seen)).st)) := (hx10).cell (i := 1) (by omega)
      have x2 : (w10).cell? ⟨xb, 2, none⟩ = some (.int .i64 (((⟨t1, t3.at_, t3.wv, [], 0, t2⟩ : Seen)).wv)) := (hx10).cell (i := 2) (by omega)
      have x3 : (w10).cell? ⟨xb, 3, none⟩ = some ((.slice none 0 0)) := (hx10).cell (i := 3) (by omega)
      have x4 : (w10).cell? ⟨xb, 4, none⟩ = some (.int .i64 (((⟨t1, t3.at_, t3.wv, [], 0, t2⟩ : Seen)).oe)) := (hx10).cell (i := 4) (by omega)
      have x5 : (w10).cell? ⟨xb, 5, none⟩ = some (.int .i64 (((⟨t1, t3.at_, t3.wv, [], 0, t2⟩ : Seen)).er)) := (hx10).cell (i := 5) (by omega)
      have lx : LtW xb w10 := (hx10).lt
      simp only at x0 x1 x2 x4 x5
      have fx3 := hx10.frozen 3
      clear hb10 HPM9 HX9 hx10 ho10 hbr hbits
      obtain ⟨ROW, hROW⟩ : ∃ R, rowOf W bs t3 = R := ⟨_, rfl⟩
      rw [hROW] at HBR HSTEP ⊢
      clear hROW
      go_upto_region 17 with fail
      have HPM11 := Lib.hid (HPM10.out.set (i := 3) (u := .slice A10 ROW.length c10) HX10.out HMX.out HX0.out)
      have hx11 := (HX10.out.set 3 (.slice A10 ROW.length c10)).congr (g := xF (.slice A10 ROW.length c10) ⟨t1, t3.at_, t3.wv, ROW, 0, t2⟩) fun i hi => by
        have hi2 : i = 0 ∨ i = 1 ∨ i = 2 ∨ i = 3 ∨ i = 4 ∨ i = 5 := by omega
        rcases hi2 with rfl | rfl | rfl | rfl | rfl | rfl <;> rfl
      have HBR11 := Lib.hid (HBR.out.of_block (w' := w10.setCell ⟨xb, 3, none⟩ (.slice A10 ROW.length c10)) fun q cap f hq => Below.heap_setCell _ _ _ q (fun e => by
        have e : q = xb := e
        subst e
        obtain ⟨c1, e1, _⟩ := hq
        exact absurd (ty_ne HX10.out e1) (by decide)))
      clear x0 x1 x2 x3 x4 x5 lx fx3 HPM10 HX10 HBR
      generalize w10.setCell ⟨xb, 3, none⟩ (.slice A10 ROW.length c10) = w5 at *
      obtain ⟨vs, hvl, hvo, hvr⟩ := HPM11.out.out
      have HVO := Lib.hid hvo; have HVR := Lib.hid hvr; have HVL := Lib.hid hvl
      rw [HLEN.out] at hvo
      have HVO2 := Lib.hid hvo
      have hms := HPM11.out.pl.bel.size
      have hmb2 := HMBE.out
      have x0 : (w5).cell? ⟨xb, 0, none⟩ = some (.int .i64 (((⟨t1, t3.at_, t3.wv, ROW, 0, t2⟩ : Seen)).do_)) := (hx11).cell (i := 0) (by omega)
      have x1 : (w5).cell? ⟨xb, 1, none⟩ = some (.int .i64 (((⟨t1, t3.at_, t3.wv, ROW, 0, t2⟩ : Seen)).st)) := (hx11).cell (i := 1) (by omega)
      have x2 : (w5).cell? ⟨xb, 2, none⟩ = some (.int .i64 (((⟨t1, t3.at_, t3.wv, ROW, 0, t2⟩ : Seen)).wv)) := (hx11).cell (i := 2) (by omega)
      have x3 : (w5).cell? ⟨xb, 3, none⟩ = some ((.slice A10 ROW.length c10)) := (hx11).cell (i := 3) (by omega)
      have x4 : (w5).cell? ⟨xb, 4, none⟩ = some (.int .i64 (((⟨t1, t3.at_, t3.wv, ROW, 0, t2⟩ : Seen)).oe)) := (hx11).cell (i := 4) (by omega)
      have x5 : (w5).cell? ⟨xb, 5, none⟩ = some (.int .i64 (((⟨t1, t3.at_, t3.wv, ROW, 0, t2⟩ : Seen)).er)) := (hx11).cell (i := 5) (by omega)
      have lx : LtW xb w5 := (hx11).lt
      simp only at x0 x1 x2 x4 x5
      clear hvo hvr hvl hx11
      go_wp2_with (at_builtin; go_loud (refine wpAppG okSeen rfl (.tmp 80) (.tmp 82) rfl mb _ _ _ #[.int .i64 (t1), .int .i64 ((t3.at_ : Nat)), .int .i64 ((t3.wv : Nat)), .slice A10 ROW.length c10, .int .i64 (0), .int .i64 (t2)] w5.heap.size rfl (HVO2.out.alloc _) rfl ?_ rfl ?_ (by omega) (by omega) (by rw [World.size_alloc]; omega) ?_))
      · intro j u hj
        rw [World.cell?_alloc_new]; exact hj
      · simp [Value.oneCell']
      · intro v' w6 hown6 hg6
        obtain ⟨A6, c6, rfl⟩ := own_form hown6
        have hal : Below w5.heap.size w5 (w5.alloc (.cells #[.int .i64 (t1), .int .i64 ((t3.at_ : Nat)), .int .i64 ((t3.wv : Nat)), .slice A10 ROW.length c10, .int .i64 (0), .int .i64 (t2)] 34)) := (Below.refl _ _).alloc (Nat.le_refl _) _
        have hout6 := OutS.app (x := ⟨t1, t3.at_, t3.wv, ROW, 0, t2⟩) (xv := .slice A10 ROW.length c10) HVL.out HVO.out HVR.out HBR11.out hal (by rw [HLEN.out]; exact hown6) hg6
        have hpm6 := (HPM11.out.grow hal).grown hg6 hout6
        have HP6 : Hid (PM mb bd g cp a2 W H A n c A2 c2 bs (runT W H bs ws ST (k + 1)).2.1 (runT W H bs ws ST (k + 1)).2.2 (.slice A6 (k + 1) c6) (runT W H bs ws ST (k + 1)).1 w w6) := Lib.hid (by rw [HRUN.out, HSTEP.out]; exact hpm6)
        clear hown6 hg6 hal hout6 hpm6 HVO HVR HVL HVO2 HPM11 HBR11 x0 x1 x2 x3 x4 x5 lx
        go_wp2
        go_roundw
        case rel =>
          first
            | exact ⟨k + 1, a2, A2, c2, by omega, by go_num, rfl, rfl, HP6⟩
            | (repeat apply Exists.intro
               exact ⟨⟨k + 1, a2, A2, c2, by omega, by go_num, rfl, rfl, HP6⟩, rfl⟩)
        case measure => simp [intOf]; omega
    · obtain rfl : k = sn := by omega
      have d0 := HPM.out.pl.d.cells.1
      have d2 := HPM.out.pl.d.cells.2.2
      have ld : LtW bd wr := HPM.out.pl.d.row.lt
      have dk : decide ((k : Int) < (k : Int)) = false := by simp
      go_wp2_with fail
      (refine wp_region_ext (by kernel_rfl) (by kernel_rfl) ?_; (repeat (first | ((with_reducible refine ext_step (fun K hK => ?_)); go_simp; first | (refine hK _ ?_; clear hK K) | (apply Exists.intro; refine ⟨fun _ _ => ?_, hK _ ?_⟩; fail; clear hK K)))); refine wpQuiet_nil ?_; intro E d)
      go_wp2
      go_ret3
      have hbe : Below wr.heap.size wr (extW wr E d) := bExtW (Below.refl _ _) (Nat.le_refl _)
      have hd9 := HPM.out.pl.d.keep (a1 := 0) hbe
      refine ⟨_, some ⟨g, 0, none⟩, cp, rfl, ?_, DK.ints hd9, ?_⟩
      · rw [HMBE.out]; exact HPM.out.out.below hbe
      · exact HPM.out.pl.bel.trans (hbe.mono HPM.out.pl.bel.size)
end Go.Proofs.Ytefmlepogpjhmaa
