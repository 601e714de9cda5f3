/- Lemmas and contracts of functions (what each call returns, and that it changes nothing that was there) that the proof of a law of this seat uses; each lemma states its own conditions. -/
import Derived.Test.YticplgjpflaelaaEf14
import Derived.Test.YticplgjpflaelaaTfM
namespace Go.Proofs.Yticplgjpflaelaa
open Go.RowKit
set_option linter.unusedVariables false
set_option linter.unusedSimpArgs false
open Ef
theorem CB.grow {G W H : Int} {mb base n : Nat} {W3 w w' : World} {p : List Int} {v : Value} (h : CB G W H mb base W3 n p v w) (hb : Below w.heap.size w w') : CB G W H mb base W3 n p v w' :=
  ⟨rowBelow h.row hb h.row.lt, ownBelow h.own hb, h.bel.trans (BelowX.of_below h.bel.size (hb.mono h.bel.size))⟩
set_option maxRecDepth 100000 in
set_option maxHeartbeats 8000000 in
theorem rSh_ok (W H : Nat) (ea : Option Addr) (ec : Nat) (es : List Int) (pa : Option Addr) (pc : Nat) (ps : List Int) (a : Option Addr) (n c : Nat) (bs : List Bool) (w : World) (hS : SArg ea W ec es pa H pc ps w) (z1 : ea = none → ec = 0) (z2 : pa = none → pc = 0) (h0 : stE W H es ps = 0) (hT : OkT w a n c bs) (h1 : W ≤ 64) (h2 : H ≤ 64) (hn : n = W * H) :
    Calls Try.prog 31 #[.agg #[.slice ea W ec, .slice pa H pc], .agg #[.int .i64 (W), .int .i64 (H), .slice a n c]] w (ChPost 4 W H n (shL W es ps bs n) 0 w) := by
  have hn4 : n ≤ 4096 := by rw [hn]; exact mul64n h1 h2
  have hW1 := (stE_zero h0).1
  have HW := Lib.hid (fun w (h : SArg ea W ec es pa H pc ps w) => r19Wrong_any ea W ec es pa H pc ps w h (by omega) (by omega))
  have HT := Lib.hid (fun w => r5Wrong_any W H a n c w (by omega) (by omega) (by omega))
  rw [hn, wrT_ok h1 h2] at HT
  rw [← hn] at HT
  rw [h0] at HW
  have HS := Lib.hid hS; have HB := Lib.hid hT; have HN := Lib.hid hn
  clear hS h0 hn hT
  go_enter Try.func31, Try.ntmps31
  go_wp2_with fail
  refine (HW.out _ (HS.out.below (by repeat (first | exact Below.refl _ _ | refine Below.drew ?_ | refine below_drewN ?_ _ | refine Below.alloc ?_ (by first | exact Nat.le_refl _ | (simp; done) | (simp; omega) | omega) _ | refine Below.setCell ?_ (by first | exact Nat.le_refl _ | (simp; done) | (simp; omega) | omega) _ | refine bExtW ?_ (by first | exact Nat.le_refl _ | (simp; done) | (simp; omega) | omega) | refine Below.trans ?_ (Below.mono (by assumption) (by first | exact Nat.le_refl _ | (simp; done) | (simp; omega) | omega)))))).mono ?_
  rintro r w1 ⟨rfl, hb⟩
  obtain ⟨E1, d1, rfl⟩ := bExt hb
  clear hb
  go_wp2_with fail
  refine (HT.out _).mono ?_
  rintro r w1 ⟨rfl, hb⟩
  obtain ⟨E2, d2, rfl⟩ := bExt hb
  clear hb
  go_upto_region 9 with fail
  have hS1 := ((sF_alloc w (.slice ea W ec) (.slice pa H pc)).alloc (.cells #[.int .i64 (W), .int .i64 (H), .slice a n c] 24)).alloc (.cells #[.int .i64 (0), .int .i64 (0), .int .i64 (0), .slice none 0 0] 50)
  have hM1 := (tF_alloc (w.alloc (.cells #[.slice ea W ec, .slice pa H pc] 48)) W H (.slice a n c) rfl).alloc (.cells #[.int .i64 (0), .int .i64 (0), .int .i64 (0), .slice none 0 0] 50)
  have hR1 := chG_alloc ((w.alloc (.cells #[.slice ea W ec, .slice pa H pc] 48)).alloc (.cells #[.int .i64 (W), .int .i64 (H), .slice a n c] 24)) 0 0 0 (.slice none 0 0)
  rw [World.size_alloc] at hM1
  rw [World.size_alloc, World.size_alloc] at hR1
  have hbb : Below (w.heap.size + 3) (((w.alloc (.cells #[.slice ea W ec, .slice pa H pc] 48)).alloc (.cells #[.int .i64 (W), .int .i64 (H), .slice a n c] 24)).alloc (.cells #[.int .i64 (0), .int .i64 (0), .int .i64 (0), .slice none 0 0] 50)) (extW (extW (((w.alloc (.cells #[.slice ea W ec, .slice pa H pc] 48)).alloc (.cells #[.int .i64 (W), .int .i64 (H), .slice a n c] 24)).alloc (.cells #[.int .i64 (0), .int .i64 (0), .int .i64 (0), .slice none 0 0] 50)) E1 d1) E2 d2) := (by repeat (first | exact Below.refl _ _ | refine Below.drew ?_ | refine below_drewN ?_ _ | refine Below.alloc ?_ (by first | exact Nat.le_refl _ | (simp; done) | (simp; omega) | omega) _ | refine Below.setCell ?_ (by first | exact Nat.le_refl _ | (simp; done) | (simp; omega) | omega) _ | refine bExtW ?_ (by first | exact Nat.le_refl _ | (simp; done) | (simp; omega) | omega) | refine Below.trans ?_ (Below.mono (by assumption) (by first | exact Nat.le_refl _ | (simp; done) | (simp; omega) | omega))))
  have hb0 : Below w.heap.size w (extW (extW (((w.alloc (.cells #[.slice ea W ec, .slice pa H pc] 48)).alloc (.cells #[.int .i64 (W), .int .i64 (H), .slice a n c] 24)).alloc (.cells #[.int .i64 (0), .int .i64 (0), .int .i64 (0), .slice none 0 0] 50)) E1 d1) E2 d2) := (by repeat (first | exact Below.refl _ _ | refine Below.drew ?_ | refine below_drewN ?_ _ | refine Below.alloc ?_ (by first | exact Nat.le_refl _ | (simp; done) | (simp; omega) | omega) _ | refine Below.setCell ?_ (by first | exact Nat.le_refl _ | (simp; done) | (simp; omega) | omega) _ | refine bExtW ?_ (by first | exact Nat.le_refl _ | (simp; done) | (simp; omega) | omega) | refine Below.trans ?_ (Below.mono (by assumption) (by first | exact Nat.le_refl _ | (simp; done) | (simp; omega) | omega))))
  have hS2 := rowBelow hS1 hbb (by omega)
  have hM2 := rowBelow hM1 hbb (by omega)
  have hR2 := rowBelow hR1 hbb (by omega)
  have hszb : w.heap.size + 3 ≤ (extW (extW (((w.alloc (.cells #[.slice ea W ec, .slice pa H pc] 48)).alloc (.cells #[.int .i64 (W), .int .i64 (H), .slice a n c] 24)).alloc (.cells #[.int .i64 (0), .int .i64 (0), .int .i64 (0), .slice none 0 0] 50)) E1 d1) E2 d2).heap.size := by simp; omega
  clear hS1 hM1 hR1 hbb
  generalize extW (extW (((w.alloc (.cells #[.slice ea W ec, .slice pa H pc] 48)).alloc (.cells #[.int .i64 (W), .int .i64 (H), .slice a n c] 24)).alloc (.cells #[.int .i64 (0), .int .i64 (0), .int .i64 (0), .slice none 0 0] 50)) E1 d1) E2 d2 = wb at *
  obtain ⟨q, hq⟩ : ∃ q, w.heap.size = q := ⟨_, rfl⟩
  have HQ := Lib.hid hq
  rw [hq] at hS2 hM2 hR2 hszb ⊢
  have m0 : wb.cell? ⟨q + 1, 0, none⟩ = some (.int .i64 (W)) := hM2.cell (i := 0) (by omega)
  have m1 : wb.cell? ⟨q + 1, 1, none⟩ = some (.int .i64 (H)) := hM2.cell (i := 1) (by omega)
  have m2 : wb.cell? ⟨q + 1, 2, none⟩ = some (.slice a n c) := hM2.cell (i := 2) (by omega)
  have lm : LtW (q + 1) wb := hM2.lt
  go_wp2_with fail
  have hC3 := chG_alloc wb 4 W H (.slice none 0 0)
  have hS3 := hS2.alloc (.cells #[.int .i64 (4), .int .i64 (W), .int .i64 (H), .slice none 0 0] 50)
  have hM3 := hM2.alloc (.cells #[.int .i64 (4), .int .i64 (W), .int .i64 (H), .slice none 0 0] 50)
  have hR3 := hR2.alloc (.cells #[.int .i64 (4), .int .i64 (W), .int .i64 (H), .slice none 0 0] 50)
  have hb3 : Below w.heap.size w (wb.alloc (.cells #[.int .i64 (4), .int .i64 (W), .int .i64 (H), .slice none 0 0] 50)) := hb0.alloc hb0.size _
  have hsz3 : (wb.alloc (.cells #[.int .i64 (4), .int .i64 (W), .int .i64 (H), .slice none 0 0] 50)).heap.size = wb.heap.size + 1 := by simp
  generalize wb.alloc (.cells #[.int .i64 (4), .int .i64 (W), .int .i64 (H), .slice none 0 0] 50) = W3 at *
  obtain ⟨mb, hmb⟩ : ∃ mb, wb.heap.size = mb := ⟨_, rfl⟩
  rw [hmb] at hC3 hsz3 hszb ⊢
  obtain ⟨base, hbase⟩ : ∃ b, b = W3.heap.size := ⟨_, rfl⟩
  have hmbb : mb < base := by omega
  have HBS := Lib.hid hbase
  have HS3 := Lib.hid hS3; have HM3 := Lib.hid hM3; have HR3 := Lib.hid hR3; have HC3 := Lib.hid hC3
  have HB3 : Hid (Below q w W3) := Lib.hid (by rw [← hq]; exact hb3)
  clear hS2 hM2 hR2 hC3 hS3 hM3 hR3 hb0 hb3 hsz3 hmb hbase m0 m1 m2 lm hq
  go_loopw [9] (fun yv wr => ∃ (y : Nat) (v : Value), y ≤ H ∧ yv = .int .i64 y ∧ CB 4 W H mb base W3 (y * W) (shL W es ps bs (y * W)) v wr) (fun yv _ => H - (intOf yv).toNat)
  case atStart => exact ⟨0, _, by omega, rfl, ⟨HC3.out, by rw [Nat.zero_mul]; exact World.ownsRow_nil _ _ _ _, BelowX.refl (by have := HBS.out; omega)⟩⟩
  case round =>
    obtain ⟨y, v, hy, rfl, hcb⟩ := hrel
    have hbx := hcb.bel
    have HBW : Hid (Below q w wr) := Lib.hid (HB3.out.trans (hbx.below HBS.out.symm (by omega) hmbb))
    have rs := hbx.rowIs HS3.out (by omega) (by omega)
    have rm := hbx.rowIs HM3.out (by omega) (by omega)
    have HRR := Lib.hid (hbx.rowIs HR3.out (by omega) (by omega))
    have s0 : (wr).cell? ⟨q, 0, none⟩ = some (.slice ea W ec) := rs.cell (i := 0) (by omega)
    have s1 : (wr).cell? ⟨q, 1, none⟩ = some (.slice pa H pc) := rs.cell (i := 1) (by omega)
    have m0 : (wr).cell? ⟨q + 1, 0, none⟩ = some (.int .i64 (W)) := rm.cell (i := 0) (by omega)
    have m1 : (wr).cell? ⟨q + 1, 1, none⟩ = some (.int .i64 (H)) := rm.cell (i := 1) (by omega)
    have m2 : (wr).cell? ⟨q + 1, 2, none⟩ = some (.slice a n c) := rm.cell (i := 2) (by omega)
    have ls : LtW q wr := rs.lt
    have lm : LtW (q + 1) wr := rm.lt
    have HCB := Lib.hid hcb
    have c3 : (wr).cell? ⟨mb, 3, none⟩ = some v := hcb.row.cell (i := 3) (by omega)
    have f3 := hcb.row.frozen 3
    have lc : LtW mb wr := hcb.row.lt
    have hsb := hbx.size
    clear rs rm hcb hbx
    by_cases hyH : y < H
    · go_upto_region 14 with fail
      obtain ⟨wo, hwo⟩ : ∃ wo : World, wo = wr := ⟨_, rfl⟩
      subst hwo
      clear s0 s1 m0 m1 m2 ls lm c3 f3 lc HBW HRR hsb
      have HCO := HCB
      clear HCB
      go_loopw [10] (fun xv wr => ∃ (x : Nat) (v : Value), x ≤ W ∧ xv = .int .i64 x ∧ CB 4 W H mb base W3 (y * W + x) (shL W es ps bs (y * W + x)) v wr) (fun xv _ => W - (intOf xv).toNat)
      case atStart => exact ⟨0, _, by omega, rfl, HCO.out⟩
      case round =>
        obtain ⟨x, v, hx, rfl, hcb⟩ := hrel
        have hbx := hcb.bel
        have HBW : Hid (Below q w wr) := Lib.hid (HB3.out.trans (hbx.below HBS.out.symm (by omega) hmbb))
        have rs := hbx.rowIs HS3.out (by omega) (by omega)
        have rm := hbx.rowIs HM3.out (by omega) (by omega)
        have HRR := Lib.hid (hbx.rowIs HR3.out (by omega) (by omega))
        have s0 : (wr).cell? ⟨q, 0, none⟩ = some (.slice ea W ec) := rs.cell (i := 0) (by omega)
        have s1 : (wr).cell? ⟨q, 1, none⟩ = some (.slice pa H pc) := rs.cell (i := 1) (by omega)
        have m0 : (wr).cell? ⟨q + 1, 0, none⟩ = some (.int .i64 (W)) := rm.cell (i := 0) (by omega)
        have m1 : (wr).cell? ⟨q + 1, 1, none⟩ = some (.int .i64 (H)) := rm.cell (i := 1) (by omega)
        have m2 : (wr).cell? ⟨q + 1, 2, none⟩ = some (.slice a n c) := rm.cell (i := 2) (by omega)
        have ls : LtW q wr := rs.lt
        have lm : LtW (q + 1) wr := rm.lt
        have HCB := Lib.hid hcb
        have c3 : (wr).cell? ⟨mb, 3, none⟩ = some v := hcb.row.cell (i := 3) (by omega)
        have f3 := hcb.row.frozen 3
        have lc : LtW mb wr := hcb.row.lt
        have hsb := hbx.size
        clear rs rm hcb hbx
        by_cases hxW : x < W
        · obtain ⟨k, hk⟩ : ∃ k, y * W + x = k := ⟨_, rfl⟩
          have HKE := Lib.hid hk
          have hkn : k < n := by
            have h3 : (y + 1) * W ≤ H * W := Nat.mul_le_mul_right W (by omega)
            have h4 : (y + 1) * W = y * W + W := Nat.succ_mul y W
            rw [HN.out, Nat.mul_comm W H]; omega
          have HBT := Lib.hid (fun w hI => rBit_ok W H n a c bs w hI y x k hk hkn hn4 (by omega) (by omega) (by omega))
          have HSL := Lib.hid (shL_succ W es ps bs k)
          have hk1 : k % W = x := by rw [← hk]; exact dm1 hxW
          have hk2 : k / W = y := by rw [← hk]; exact dm2 hxW
          rw [hk1, hk2] at HSL
          rw [hk] at HCB
          clear hk hk1 hk2
          obtain ⟨bit, hbit⟩ : ∃ bit, bs.getD k false = bit := ⟨_, rfl⟩
          rw [hbit] at HBT HSL
          have HBB := Lib.hid (HB.out.bits.below (by rw [HQ.out]; exact HBW.out : Below w.heap.size w wr))
          clear hbit
          go_wp2_with fail
          refine (HBT.out _ HBB.out).mono ?_
          rintro r w1 ⟨rfl, hb1⟩
          have hcb := HCB.out.grow hb1
          clear HCB s0 s1 m0 m1 m2 ls lm c3 f3 lc HBW HRR hsb HBB hb1
          obtain ⟨wr', hwr'⟩ : ∃ wr' : World, wr' = w1 := ⟨_, rfl⟩
          subst hwr'
          generalize wr' = wr at *
          have hbx := hcb.bel
          have HBW : Hid (Below q w wr) := Lib.hid (HB3.out.trans (hbx.below HBS.out.symm (by omega) hmbb))
          have rs := hbx.rowIs HS3.out (by omega) (by omega)
          have rm := hbx.rowIs HM3.out (by omega) (by omega)
          have HRR := Lib.hid (hbx.rowIs HR3.out (by omega) (by omega))
          have s0 : (wr).cell? ⟨q, 0, none⟩ = some (.slice ea W ec) := rs.cell (i := 0) (by omega)
          have s1 : (wr).cell? ⟨q, 1, none⟩ = some (.slice pa H pc) := rs.cell (i := 1) (by omega)
          have m0 : (wr).cell? ⟨q + 1, 0, none⟩ = some (.int .i64 (W)) := rm.cell (i := 0) (by omega)
          have m1 : (wr).cell? ⟨q + 1, 1, none⟩ = some (.int .i64 (H)) := rm.cell (i := 1) (by omega)
          have m2 : (wr).cell? ⟨q + 1, 2, none⟩ = some (.slice a n c) := rm.cell (i := 2) (by omega)
          have ls : LtW q wr := rs.lt
          have lm : LtW (q + 1) wr := rm.lt
          have HCB := Lib.hid hcb
          have c3 : (wr).cell? ⟨mb, 3, none⟩ = some v := hcb.row.cell (i := 3) (by omega)
          have f3 := hcb.row.frozen 3
          have lc : LtW mb wr := hcb.row.lt
          have hsb := hbx.size
          clear rs rm hcb hbx
          have hSA := HS.out.below (by rw [HQ.out]; exact HBW.out : Below w.heap.size w wr)
          obtain ⟨p1, o1, rfl, hp1, hpc1⟩ := hSA.e.2 (by omega)
          obtain ⟨p2, o2, rfl, hp2, hpc2⟩ := hSA.p.2 (by omega)
          have x1 := hpc1 x hxW
          have x2 := hpc2 y hyH
          have lp1 : LtW p1 wr := hp1
          have lp2 : LtW p2 wr := hp2
          obtain ⟨ex, hex⟩ : ∃ ex, es.getD x 0 = ex := ⟨_, rfl⟩
          rw [hex] at x1 HSL
          obtain ⟨px, hpx⟩ : ∃ px, ps.getD y 0 = px := ⟨_, rfl⟩
          rw [hpx] at x2 HSL
          clear hpc1 hpc2 hp1 hp2 hSA hex hpx
          cases bit with
          | false =>
            go_wp2_with fail
            (refine wp_region_ext_build 7 _ mkOne (.cells #[.int .i64 (px)] 3) (by kernel_rfl) (by kernel_rfl) rfl rfl ?_; simp only [List.take_succ_cons, List.take_zero, List.drop_succ_cons, List.drop_zero]; (repeat (first | ((with_reducible refine wpV_step (fun K hK => ?_)); go_simp; first | (refine hK _ ?_; clear hK K) | (apply Exists.intro; refine ⟨fun _ _ => ?_, hK _ ?_⟩; fail; clear hK K)))); refine wpV_nil ?_; refine ⟨fun W => by go_simp; rfl, fun E d E' d' => ?_⟩)
            have hbE := built_below wr E d (.cells #[.int .i64 (px)] 3) E' d'
            have HCS := Lib.hid (built_cell wr E d #[.int .i64 (px)] 3 E' d')
            have HCE := Lib.hid (HCB.out.grow hbE)
            have c3' := bCs hbE c3
            have f3' := (hbE.frozen (p := ⟨mb, 3, none⟩) lc).trans f3
            have lc' : LtW mb (extW ((extW wr E d).alloc (.cells #[.int .i64 (px)] 3)) E' d') := HCE.out.row.lt
            clear hbE c3 f3 lc HCB s0 s1 m0 m1 m2 ls lm x1 x2 lp1 lp2
            generalize extW ((extW wr E d).alloc (.cells #[.int .i64 (px)] 3)) E' d' = WE at *
            generalize (extW wr E d).heap.size = BB at *
            have hsx := HCE.out.bel.size
            go_wp2_with (at_builtin; go_loud (refine wpAppV okI8 rfl (.tmp 70) (.tmp 76) rfl base _ k ((shL W es ps bs k).map i64v) (some ⟨BB, 0, none⟩) 1 1 [.int .i64 (px)] rfl HCE.out.own rfl (fun e => by cases e) rfl (fun _ => ⟨BB, 0, rfl, fun j u hju => ?_⟩) (fun u hu => by simp at hu; subst hu; rfl) (by omega) (by omega) hsx ?_))
            · have hj0 : j = 0 := by
                have := (List.getElem?_eq_some_iff.1 hju).1
                simpa using this
              subst hj0
              exact HCS.out 0 u hju
            intro v' w2 hown2 hg2 hat2
            have hb2 : Below base WE w2 := belowGrown hg2 hsx (fun k hk => (HCE.out.own.lt k hk).1)
            have c4' : w2.cell? ⟨mb, 3, none⟩ = some v := (hb2.cell (p := ⟨mb, 3, none⟩) hmbb).trans c3'
            have f4' : w2.frozen? ⟨mb, 3, none⟩ = false := (hb2.frozen (p := ⟨mb, 3, none⟩) hmbb).trans f3'
            have l4' : LtW mb w2 := Nat.lt_of_lt_of_le lc' (hg2.size)
            obtain ⟨A', cp', rfl⟩ := own_form hown2
            have HNB := Lib.hid (HCE.out.app (x := px) hmbb hown2 hb2)
            clear hown2 hg2 hat2 hb2 c3' f3' lc'
            go_wp2
            go_roundw
            case rel => exact ⟨x + 1, _, by omega, by go_num, by rw [← Nat.add_assoc, HKE.out, HSL.out]; exact HNB.out⟩
            case measure => simp [intOf]; omega
          | true =>
            go_wp2_with fail
            (refine wp_region_ext_build 7 _ mkOne (.cells #[.int .i64 (ex)] 3) (by kernel_rfl) (by kernel_rfl) rfl rfl ?_; simp only [List.take_succ_cons, List.take_zero, List.drop_succ_cons, List.drop_zero]; (repeat (first | ((with_reducible refine wpV_step (fun K hK => ?_)); go_simp; first | (refine hK _ ?_; clear hK K) | (apply Exists.intro; refine ⟨fun _ _ => ?_, hK _ ?_⟩; fail; clear hK K)))); refine wpV_nil ?_; refine ⟨fun W => by go_simp; rfl, fun E d E' d' => ?_⟩)
            have hbE := built_below wr E d (.cells #[.int .i64 (ex)] 3) E' d'
            have HCS := Lib.hid (built_cell wr E d #[.int .i64 (ex)] 3 E' d')
            have HCE := Lib.hid (HCB.out.grow hbE)
            have c3' := bCs hbE c3
            have f3' := (hbE.frozen (p := ⟨mb, 3, none⟩) lc).trans f3
            have lc' : LtW mb (extW ((extW wr E d).alloc (.cells #[.int .i64 (ex)] 3)) E' d') := HCE.out.row.lt
            clear hbE c3 f3 lc HCB s0 s1 m0 m1 m2 ls lm x1 x2 lp1 lp2
            generalize extW ((extW wr E d).alloc (.cells #[.int .i64 (ex)] 3)) E' d' = WE at *
            generalize (extW wr E d).heap.size = BB at *
            have hsx := HCE.out.bel.size
            go_wp2_with (at_builtin; go_loud (refine wpAppV okI8 rfl (.tmp 60) (.tmp 66) rfl base _ k ((shL W es ps bs k).map i64v) (some ⟨BB, 0, none⟩) 1 1 [.int .i64 (ex)] rfl HCE.out.own rfl (fun e => by cases e) rfl (fun _ => ⟨BB, 0, rfl, fun j u hju => ?_⟩) (fun u hu => by simp at hu; subst hu; rfl) (by omega) (by omega) hsx ?_))
            · have hj0 : j = 0 := by
                have := (List.getElem?_eq_some_iff.1 hju).1
                simpa using this
              subst hj0
              exact HCS.out 0 u hju
            intro v' w2 hown2 hg2 hat2
            have hb2 : Below base WE w2 := belowGrown hg2 hsx (fun k hk => (HCE.out.own.lt k hk).1)
            have c4' : w2.cell? ⟨mb, 3, none⟩ = some v := (hb2.cell (p := ⟨mb, 3, none⟩) hmbb).trans c3'
            have f4' : w2.frozen? ⟨mb, 3, none⟩ = false := (hb2.frozen (p := ⟨mb, 3, none⟩) hmbb).trans f3'
            have l4' : LtW mb w2 := Nat.lt_of_lt_of_le lc' (hg2.size)
            obtain ⟨A', cp', rfl⟩ := own_form hown2
            have HNB := Lib.hid (HCE.out.app (x := ex) hmbb hown2 hb2)
            clear hown2 hg2 hat2 hb2 c3' f3' lc'
            go_wp2
            go_roundw
            case rel => exact ⟨x + 1, _, by omega, by go_num, by rw [← Nat.add_assoc, HKE.out, HSL.out]; exact HNB.out⟩
            case measure => simp [intOf]; omega
        · obtain rfl : W = x := by omega
          go_wp2
          go_roundw
          case rel => exact ⟨y + 1, v, by omega, by go_num, by rw [Nat.add_mul, Nat.one_mul]; exact HCB.out⟩
          case measure => simp [intOf]; omega
    · obtain rfl : H = y := by omega
      have hHW : H * W = n := by rw [HN.out, Nat.mul_comm]
      rw [hHW] at HCB
      obtain ⟨a9, c9, e9, h9, z9, g9⟩ := ints_owns (L := shL W es ps bs n) (by rw [shL_len]; exact HCB.out.own)
      rw [shL_len] at e9 h9
      subst e9
      have rm := HCB.out.row
      have n0 : wr.cell? ⟨mb, 0, none⟩ = some (.int .i64 (4)) := rm.cell (i := 0) (by omega)
      have n1 : wr.cell? ⟨mb, 1, none⟩ = some (.int .i64 (W)) := rm.cell (i := 1) (by omega)
      have n2 : wr.cell? ⟨mb, 2, none⟩ = some (.int .i64 (H)) := rm.cell (i := 2) (by omega)
      have r0 : wr.cell? ⟨q + 1 + 1, 0, none⟩ = some (.int .i64 (0)) := HRR.out.cell (i := 0) (by omega)
      have r1 : wr.cell? ⟨q + 1 + 1, 1, none⟩ = some (.int .i64 (0)) := HRR.out.cell (i := 1) (by omega)
      have r2 : wr.cell? ⟨q + 1 + 1, 2, none⟩ = some (.int .i64 (0)) := HRR.out.cell (i := 2) (by omega)
      have r3 : wr.cell? ⟨q + 1 + 1, 3, none⟩ = some (.slice none 0 0) := HRR.out.cell (i := 3) (by omega)
      have g0 := HRR.out.frozen 0; have g1 := HRR.out.frozen 1; have g2 := HRR.out.frozen 2; have g3 := HRR.out.frozen 3
      have lr : LtW (q + 1 + 1) wr := HRR.out.lt
      have H9 := Lib.hid h9; have Z9 := Lib.hid z9; have G9 := Lib.hid g9
      clear h9 z9 g9 rm hHW
      go_wp2
      refine bodyPost_ret (v := .tuple #[.agg #[.int .i64 (4), .int .i64 (W), .int .i64 (H), .slice a9 n c9], .int .i64 (0)]) (by simp [results, Try.results31, go_sem, r0, r1, r2, r3]) rfl ?_
      unfold ChPost
      refine ⟨a9, c9, rfl, ?_, Z9.out, ?_⟩
      · exact ints_set (ints_set (ints_set (ints_set H9.out fun b o e => by have := G9.out b o e; omega) fun b o e => by have := G9.out b o e; omega) fun b o e => by have := G9.out b o e; omega) fun b o e => by have := G9.out b o e; omega
      · rw [HQ.out]
        exact (((HBW.out.setCell (by show q ≤ q + 1 + 1; omega) _).setCell (by show q ≤ q + 1 + 1; omega) _).setCell (by show q ≤ q + 1 + 1; omega) _).setCell (by show q ≤ q + 1 + 1; omega) _
end Go.Proofs.Yticplgjpflaelaa
