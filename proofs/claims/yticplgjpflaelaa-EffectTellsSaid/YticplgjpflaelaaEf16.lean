/- Lemmas and contracts of functions (what each call returns, and that it changes nothing that was there) that the proof of a law of this seat uses; each lemma states its own conditions. -/
import Derived.Test.YticplgjpflaelaaEf15
namespace Go.Proofs.Yticplgjpflaelaa
open Go.RowKit
set_option linter.unusedVariables false
set_option linter.unusedSimpArgs false
open Ef
theorem FB.growE {base mb : Nat} {W H : Int} {L : List Bool} {W1 w w' : World} {v : Value} (h : FB base mb W H L W1 v w) (hb : Below w.heap.size w w') : FB base mb W H L W1 v w' :=
  ⟨rowBelow h.row hb h.row.lt, ownBelow h.own hb, h.bel.trans (BelowX.of_below h.bel.size (hb.mono h.bel.size))⟩
set_option maxRecDepth 100000 in
set_option maxHeartbeats 8000000 in
theorem rCl_ok (W H : Nat) (ea : Option Addr) (ec : Nat) (es : List Int) (pa : Option Addr) (pc : Nat) (ps : List Int) (a : Option Addr) (n c : Nat) (cs : List Int) (w : World) (hS : SArg ea W ec es pa H pc ps w) (z1 : ea = none → ec = 0) (z2 : pa = none → pc = 0) (h0 : stE W H es ps = 0) (hI : IsInts w a n cs) (h1 : W ≤ 64) (h2 : H ≤ 64) (hn : n = W * H) (hCR : ∀ x ∈ cs, 0 ≤ x ∧ x < 62) :
    Calls Try.prog 35 #[.agg #[.slice ea W ec, .slice pa H pc], .agg #[.int .i64 (4), .int .i64 (W), .int .i64 (H), .slice a n c]] w (ClPost W H n es ps cs w) := by
  have hn4 : n ≤ 4096 := by rw [hn]; exact mul64n h1 h2
  have hW1 := (stE_zero h0).1
  have HW := Lib.hid (fun w (h : SArg ea W ec es pa H pc ps w) => r19Wrong_any ea W ec es pa H pc ps w h (by omega) (by omega))
  have HT := Lib.hid (fun w h => r2Wrong_any 4 W H a n c cs w h (by omega) (by omega) (by omega) (by omega))
  rw [chE_ok (.inl rfl) hW1 h1 (stE_zero h0).2.2.1 h2 hn hCR] at HT
  rw [h0] at HW
  have HS := Lib.hid hS; have HB := Lib.hid hI; have HN := Lib.hid hn
  clear hS h0 hn hI hCR
  go_enter Try.func35, Try.ntmps35
  go_wp2_with fail
  refine (HW.out _ (HS.out.below (by repeat (first | exact Below.refl _ _ | refine Below.drew ?_ | refine below_drewN ?_ _ | refine Below.alloc ?_ (by first | exact Nat.le_refl _ | (simp; done) | (simp; omega) | omega) _ | refine Below.setCell ?_ (by first | exact Nat.le_refl _ | (simp; done) | (simp; omega) | omega) _ | refine bExtW ?_ (by first | exact Nat.le_refl _ | (simp; done) | (simp; omega) | omega) | refine Below.trans ?_ (Below.mono (by assumption) (by first | exact Nat.le_refl _ | (simp; done) | (simp; omega) | omega)))))).mono ?_
  rintro r w1 ⟨rfl, hb⟩
  obtain ⟨E1, d1, rfl⟩ := bExt hb
  clear hb
  go_wp2_with fail
  refine (HT.out _ (HB.out.below (by repeat (first | exact Below.refl _ _ | refine Below.drew ?_ | refine below_drewN ?_ _ | refine Below.alloc ?_ (by first | exact Nat.le_refl _ | (simp; done) | (simp; omega) | omega) _ | refine Below.setCell ?_ (by first | exact Nat.le_refl _ | (simp; done) | (simp; omega) | omega) _ | refine bExtW ?_ (by first | exact Nat.le_refl _ | (simp; done) | (simp; omega) | omega) | refine Below.trans ?_ (Below.mono (by assumption) (by first | exact Nat.le_refl _ | (simp; done) | (simp; omega) | omega)))))).mono ?_
  rintro r w1 ⟨rfl, hb⟩
  obtain ⟨E2, d2, rfl⟩ := bExt hb
  clear hb
  go_upto_region 9 with fail
  have hS1 := ((sF_alloc w (.slice ea W ec) (.slice pa H pc)).alloc (.cells #[.int .i64 (4), .int .i64 (W), .int .i64 (H), .slice a n c] 50)).alloc (.cells #[.int .i64 (0), .int .i64 (0), .slice none 0 0] 24)
  have hM1 := (chG_alloc (w.alloc (.cells #[.slice ea W ec, .slice pa H pc] 48)) 4 W H (.slice a n c)).alloc (.cells #[.int .i64 (0), .int .i64 (0), .slice none 0 0] 24)
  have hR1 := tF_alloc ((w.alloc (.cells #[.slice ea W ec, .slice pa H pc] 48)).alloc (.cells #[.int .i64 (4), .int .i64 (W), .int .i64 (H), .slice a n c] 50)) 0 0 (.slice none 0 0) rfl
  rw [World.size_alloc] at hM1
  rw [World.size_alloc, World.size_alloc] at hR1
  have hbb : Below (w.heap.size + 3) (((w.alloc (.cells #[.slice ea W ec, .slice pa H pc] 48)).alloc (.cells #[.int .i64 (4), .int .i64 (W), .int .i64 (H), .slice a n c] 50)).alloc (.cells #[.int .i64 (0), .int .i64 (0), .slice none 0 0] 24)) (extW (extW (((w.alloc (.cells #[.slice ea W ec, .slice pa H pc] 48)).alloc (.cells #[.int .i64 (4), .int .i64 (W), .int .i64 (H), .slice a n c] 50)).alloc (.cells #[.int .i64 (0), .int .i64 (0), .slice none 0 0] 24)) E1 d1) E2 d2) := (by repeat (first | exact Below.refl _ _ | refine Below.drew ?_ | refine below_drewN ?_ _ | refine Below.alloc ?_ (by first | exact Nat.le_refl _ | (simp; done) | (simp; omega) | omega) _ | refine Below.setCell ?_ (by first | exact Nat.le_refl _ | (simp; done) | (simp; omega) | omega) _ | refine bExtW ?_ (by first | exact Nat.le_refl _ | (simp; done) | (simp; omega) | omega) | refine Below.trans ?_ (Below.mono (by assumption) (by first | exact Nat.le_refl _ | (simp; done) | (simp; omega) | omega))))
  have hb0 : Below w.heap.size w (extW (extW (((w.alloc (.cells #[.slice ea W ec, .slice pa H pc] 48)).alloc (.cells #[.int .i64 (4), .int .i64 (W), .int .i64 (H), .slice a n c] 50)).alloc (.cells #[.int .i64 (0), .int .i64 (0), .slice none 0 0] 24)) E1 d1) E2 d2) := (by repeat (first | exact Below.refl _ _ | refine Below.drew ?_ | refine below_drewN ?_ _ | refine Below.alloc ?_ (by first | exact Nat.le_refl _ | (simp; done) | (simp; omega) | omega) _ | refine Below.setCell ?_ (by first | exact Nat.le_refl _ | (simp; done) | (simp; omega) | omega) _ | refine bExtW ?_ (by first | exact Nat.le_refl _ | (simp; done) | (simp; omega) | omega) | refine Below.trans ?_ (Below.mono (by assumption) (by first | exact Nat.le_refl _ | (simp; done) | (simp; omega) | omega))))
  have hS2 := rowBelow hS1 hbb (by omega)
  have hM2 := rowBelow hM1 hbb (by omega)
  have hR2 := rowBelow hR1 hbb (by omega)
  have hszb : w.heap.size + 3 ≤ (extW (extW (((w.alloc (.cells #[.slice ea W ec, .slice pa H pc] 48)).alloc (.cells #[.int .i64 (4), .int .i64 (W), .int .i64 (H), .slice a n c] 50)).alloc (.cells #[.int .i64 (0), .int .i64 (0), .slice none 0 0] 24)) E1 d1) E2 d2).heap.size := by simp; omega
  clear hS1 hM1 hR1 hbb
  generalize extW (extW (((w.alloc (.cells #[.slice ea W ec, .slice pa H pc] 48)).alloc (.cells #[.int .i64 (4), .int .i64 (W), .int .i64 (H), .slice a n c] 50)).alloc (.cells #[.int .i64 (0), .int .i64 (0), .slice none 0 0] 24)) E1 d1) E2 d2 = wb at *
  obtain ⟨q, hq⟩ : ∃ q, w.heap.size = q := ⟨_, rfl⟩
  have HQ := Lib.hid hq
  rw [hq] at hS2 hM2 hR2 hszb ⊢
  have m0 : wb.cell? ⟨q + 1, 1, none⟩ = some (.int .i64 (W)) := hM2.cell (i := 1) (by omega)
  have m1 : wb.cell? ⟨q + 1, 2, none⟩ = some (.int .i64 (H)) := hM2.cell (i := 2) (by omega)
  have m2 : wb.cell? ⟨q + 1, 3, none⟩ = some (.slice a n c) := hM2.cell (i := 3) (by omega)
  have lm : LtW (q + 1) wb := hM2.lt
  go_wp2_with fail
  have hC3 := tF_alloc wb W H (.slice none 0 0) rfl
  have hS3 := hS2.alloc (.cells #[.int .i64 (W), .int .i64 (H), .slice none 0 0] 24)
  have hM3 := hM2.alloc (.cells #[.int .i64 (W), .int .i64 (H), .slice none 0 0] 24)
  have hR3 := hR2.alloc (.cells #[.int .i64 (W), .int .i64 (H), .slice none 0 0] 24)
  have hb3 : Below w.heap.size w (wb.alloc (.cells #[.int .i64 (W), .int .i64 (H), .slice none 0 0] 24)) := hb0.alloc hb0.size _
  have hsz3 : (wb.alloc (.cells #[.int .i64 (W), .int .i64 (H), .slice none 0 0] 24)).heap.size = wb.heap.size + 1 := by simp
  generalize wb.alloc (.cells #[.int .i64 (W), .int .i64 (H), .slice none 0 0] 24) = W3 at *
  obtain ⟨mb, hmb⟩ : ∃ mb, wb.heap.size = mb := ⟨_, rfl⟩
  rw [hmb] at hC3 hsz3 hszb ⊢
  obtain ⟨base, hbase⟩ : ∃ b, b = W3.heap.size := ⟨_, rfl⟩
  have hmbb : mb < base := by omega
  have HBS := Lib.hid hbase
  have HS3 := Lib.hid hS3; have HM3 := Lib.hid hM3; have HR3 := Lib.hid hR3; have HC3 := Lib.hid hC3
  have HB3 : Hid (Below q w W3) := Lib.hid (by rw [← hq]; exact hb3)
  clear hS2 hM2 hR2 hC3 hS3 hM3 hR3 hb0 hb3 hsz3 hmb hbase m0 m1 m2 lm hq
  go_loopw [9] (fun yv wr => ∃ (y : Nat) (v : Value), y ≤ H ∧ yv = .int .i64 y ∧ FB base mb W H (clB W es cs (y * W)) W3 v wr ∧ Hid (clOk W es ps cs (y * W))) (fun yv _ => H - (intOf yv).toNat)
  case atStart => exact ⟨0, _, by omega, rfl, ⟨HC3.out, by rw [Nat.zero_mul]; exact World.ownsRow_nil _ _ _ _, BelowX.refl (by have := HBS.out; omega)⟩, Lib.hid fun i h => absurd h (by omega)⟩
  case round =>
    obtain ⟨y, v, hy, rfl, hcb, HOK⟩ := hrel
    have hbx := hcb.bel
    have HBW : Hid (Below q w wr) := Lib.hid (HB3.out.trans (hbx.below HBS.out.symm (by omega) hmbb))
    have rs := hbx.rowIs HS3.out (by omega) (by omega)
    have rm := hbx.rowIs HM3.out (by omega) (by omega)
    have HRR := Lib.hid (hbx.rowIs HR3.out (by omega) (by omega))
    have s0 : (wr).cell? ⟨q, 0, none⟩ = some (.slice ea W ec) := rs.cell (i := 0) (by omega)
    have s1 : (wr).cell? ⟨q, 1, none⟩ = some (.slice pa H pc) := rs.cell (i := 1) (by omega)
    have m1 : (wr).cell? ⟨q + 1, 1, none⟩ = some (.int .i64 (W)) := rm.cell (i := 1) (by omega)
    have m2 : (wr).cell? ⟨q + 1, 2, none⟩ = some (.int .i64 (H)) := rm.cell (i := 2) (by omega)
    have m3 : (wr).cell? ⟨q + 1, 3, none⟩ = some (.slice a n c) := rm.cell (i := 3) (by omega)
    have ls : LtW q wr := rs.lt
    have lm : LtW (q + 1) wr := rm.lt
    have HCB := Lib.hid hcb
    have c3 : (wr).cell? ⟨mb, 2, none⟩ = some v := hcb.row.cell (i := 2) (by omega)
    have f3 := hcb.row.frozen 2
    have lc : LtW mb wr := hcb.row.lt
    have hsb := hbx.size
    clear rs rm hcb hbx
    by_cases hyH : y < H
    · go_upto_region 14 with fail
      obtain ⟨wo, hwo⟩ : ∃ wo : World, wo = wr := ⟨_, rfl⟩
      subst hwo
      clear s0 s1 m1 m2 m3 ls lm c3 f3 lc HBW HRR hsb
      have HCO := HCB
      have HOKO := HOK
      clear HCB HOK
      go_loopw [10] (fun xv wr => ∃ (x : Nat) (v : Value), x ≤ W ∧ xv = .int .i64 x ∧ FB base mb W H (clB W es cs (y * W + x)) W3 v wr ∧ Hid (clOk W es ps cs (y * W + x))) (fun xv _ => W - (intOf xv).toNat)
      case atStart => exact ⟨0, _, by omega, rfl, HCO.out, HOKO⟩
      case round =>
        obtain ⟨x, v, hx, rfl, hcb, HOK⟩ := hrel
        have hbx := hcb.bel
        have HBW : Hid (Below q w wr) := Lib.hid (HB3.out.trans (hbx.below HBS.out.symm (by omega) hmbb))
        have rs := hbx.rowIs HS3.out (by omega) (by omega)
        have rm := hbx.rowIs HM3.out (by omega) (by omega)
        have HRR := Lib.hid (hbx.rowIs HR3.out (by omega) (by omega))
        have s0 : (wr).cell? ⟨q, 0, none⟩ = some (.slice ea W ec) := rs.cell (i := 0) (by omega)
        have s1 : (wr).cell? ⟨q, 1, none⟩ = some (.slice pa H pc) := rs.cell (i := 1) (by omega)
        have m1 : (wr).cell? ⟨q + 1, 1, none⟩ = some (.int .i64 (W)) := rm.cell (i := 1) (by omega)
        have m2 : (wr).cell? ⟨q + 1, 2, none⟩ = some (.int .i64 (H)) := rm.cell (i := 2) (by omega)
        have m3 : (wr).cell? ⟨q + 1, 3, none⟩ = some (.slice a n c) := rm.cell (i := 3) (by omega)
        have ls : LtW q wr := rs.lt
        have lm : LtW (q + 1) wr := rm.lt
        have HCB := Lib.hid hcb
        have c3 : (wr).cell? ⟨mb, 2, none⟩ = some v := hcb.row.cell (i := 2) (by omega)
        have f3 := hcb.row.frozen 2
        have lc : LtW mb wr := hcb.row.lt
        have hsb := hbx.size
        clear rs rm hcb hbx
        by_cases hxW : x < W
        · obtain ⟨M, hM⟩ : ∃ M, y * W = M := ⟨_, rfl⟩
          obtain ⟨k, hk⟩ : ∃ k, M + x = k := ⟨_, rfl⟩
          have hkn : k < n := by
            have h3 : (y + 1) * W ≤ H * W := Nat.mul_le_mul_right W (by omega)
            have h4 : (y + 1) * W = y * W + W := Nat.succ_mul y W
            rw [HN.out, Nat.mul_comm W H]; omega
          have hMi : (y : Int) * (W : Int) = (M : Int) := by rw [← hM]; push_cast; rfl
          have hMk : (M : Int) + (x : Int) = (k : Int) := by rw [← hk]; push_cast; rfl
          have HSL := Lib.hid (clB_succ W es cs k)
          have hk1 : k % W = x := by rw [← hk, ← hM]; exact dm1 hxW
          have hk2 : k / W = y := by rw [← hk, ← hM]; exact dm2 hxW
          have hKE : y * W + x = k := by rw [hM, hk]
          have HKE := Lib.hid hKE
          rw [hKE] at HCB HOK
          have HOS : Hid (es.getD (k % W) 0 = cs.getD k 0 ∨ ps.getD (k / W) 0 = cs.getD k 0 → clOk W es ps cs (k + 1)) := Lib.hid fun h i hi => by
            by_cases e : i = k
            · subst e; exact h
            · exact HOK.out i (by omega)
          have HNO : Hid (¬ (es.getD (k % W) 0 = cs.getD k 0 ∨ ps.getD (k / W) 0 = cs.getD k 0) → ¬ clOk W es ps cs n) := Lib.hid fun h g => h (g k hkn)
          rw [hk1, hk2] at HOS HNO
          rw [hk1] at HSL
          clear hk hM hk1 hk2 hKE
          have HBB := HB.out.below (by rw [HQ.out]; exact HBW.out : Below w.heap.size w wr)
          obtain ⟨bb, bo, rfl, hbl, hbc⟩ := HBB.2 (by omega)
          have b0 := hbc k hkn
          have lb : LtW bb wr := hbl
          have hSA := HS.out.below (by rw [HQ.out]; exact HBW.out : Below w.heap.size w wr)
          obtain ⟨p1, o1, rfl, hp1, hpc1⟩ := hSA.e.2 (by omega)
          obtain ⟨p2, o2, rfl, hp2, hpc2⟩ := hSA.p.2 (by omega)
          have x1 := hpc1 x hxW
          have x2 := hpc2 y hyH
          have lp1 : LtW p1 wr := hp1
          have lp2 : LtW p2 wr := hp2
          obtain ⟨cx, hcx⟩ : ∃ cx, cs.getD k 0 = cx := ⟨_, rfl⟩
          rw [hcx] at b0 HSL HOS HNO
          obtain ⟨ex, hex⟩ : ∃ ex, es.getD x 0 = ex := ⟨_, rfl⟩
          rw [hex] at x1 HSL HOS HNO
          obtain ⟨px, hpx⟩ : ∃ px, ps.getD y 0 = px := ⟨_, rfl⟩
          rw [hpx] at x2 HOS HNO
          clear hbc hbl hpc1 hpc2 hp1 hp2 hcx hex hpx hSA HBB
          by_cases hec : ex = cx
          · have t1 : (ex != cx) = false := by simpa using hec
            have t3 : (ex == cx) = true := by simpa using hec
            have HOK2 := Lib.hid (HOS.out (.inl hec))
            rw [decide_eq_true hec] at HSL
            clear hec
            go_wp2_with fail
            (refine wp_region_ext_build 9 _ mkOne (.cells #[.bool (true)] 4) (by kernel_rfl) (by kernel_rfl) rfl rfl ?_; simp only [List.take_succ_cons, List.take_zero, List.drop_succ_cons, List.drop_zero]; (repeat (first | ((with_reducible refine wpV_step (fun K hK => ?_)); go_simp; first | (refine hK _ ?_; clear hK K) | (apply Exists.intro; refine ⟨fun _ _ => ?_, hK _ ?_⟩; fail; clear hK K)))); refine wpV_nil ?_; refine ⟨fun W => by go_simp; rfl, fun E d E' d' => ?_⟩)
            have hbE := built_below wr E d (.cells #[.bool (true)] 4) E' d'
            have HCS := Lib.hid (built_cell wr E d #[.bool (true)] 4 E' d')
            have HCE := Lib.hid (HCB.out.growE hbE)
            have c3' := bCs hbE c3
            have f3' := (hbE.frozen (p := ⟨mb, 2, none⟩) lc).trans f3
            have lc' : LtW mb (extW ((extW wr E d).alloc (.cells #[.bool (true)] 4)) E' d') := HCE.out.row.lt
            clear hbE c3 f3 lc HCB s0 s1 m1 m2 m3 ls lm x1 x2 lp1 lp2 b0 lb
            generalize extW ((extW wr E d).alloc (.cells #[.bool (true)] 4)) E' d' = WE at *
            generalize (extW wr E d).heap.size = BB at *
            have hsx := HCE.out.bel.size
            have hoE := HCE.out.own
            rw [clB_len] at hoE
            have HOE := Lib.hid hoE
            clear hoE
            go_wp2_with (at_builtin; go_loud (refine wpAppV okBools rfl (.tmp 89) (.tmp 97) rfl base _ k ((clB W es cs k).map Value.bool) (some ⟨BB, 0, none⟩) 1 1 [.bool (true)] rfl HOE.out rfl (fun e => by cases e) rfl (fun _ => ⟨BB, 0, rfl, fun j u hju => ?_⟩) (fun u hu => by simp at hu; subst hu; rfl) (by omega) (by omega) hsx ?_))
            · have hj0 : j = 0 := by
                have := (List.getElem?_eq_some_iff.1 hju).1
                simpa using this
              subst hj0
              exact HCS.out 0 u hju
            intro v' w2 hown2 hg2 hat2
            have hb2 : Below base WE w2 := belowGrown hg2 hsx (fun k hk => (HOE.out.lt k hk).1)
            have c4' : w2.cell? ⟨mb, 2, none⟩ = some v := (hb2.cell (p := ⟨mb, 2, none⟩) hmbb).trans c3'
            have f4' : w2.frozen? ⟨mb, 2, none⟩ = false := (hb2.frozen (p := ⟨mb, 2, none⟩) hmbb).trans f3'
            have l4' : LtW mb w2 := Nat.lt_of_lt_of_le lc' (hg2.size)
            obtain ⟨A', cp', rfl⟩ := own_form hown2
            have HNB := Lib.hid (HCE.out.appK (clB_len W es cs k) hmbb hown2 hb2)
            clear hown2 hg2 hat2 hb2 c3' f3' lc'
            go_wp2
            go_roundw
            case rel => exact ⟨x + 1, _, by omega, by go_num, by rw [← Nat.add_assoc, HKE.out, HSL.out]; exact HNB.out, by rw [← Nat.add_assoc, HKE.out]; exact HOK2⟩
            case measure => simp [intOf]; omega
          · have t1 : (ex != cx) = true := by simpa using hec
            have t3 : (ex == cx) = false := by simpa using hec
            rw [decide_eq_false hec] at HSL
            by_cases hpc : px = cx
            · have t2 : (px != cx) = false := by simpa using hpc
              have HOK2 := Lib.hid (HOS.out (.inr hpc))
              clear hec hpc
              go_wp2_with fail
              (refine wp_region_ext_build 9 _ mkOne (.cells #[.bool (false)] 4) (by kernel_rfl) (by kernel_rfl) rfl rfl ?_; simp only [List.take_succ_cons, List.take_zero, List.drop_succ_cons, List.drop_zero]; (repeat (first | ((with_reducible refine wpV_step (fun K hK => ?_)); go_simp; first | (refine hK _ ?_; clear hK K) | (apply Exists.intro; refine ⟨fun _ _ => ?_, hK _ ?_⟩; fail; clear hK K)))); refine wpV_nil ?_; refine ⟨fun W => by go_simp; rfl, fun E d E' d' => ?_⟩)
              have hbE := built_below wr E d (.cells #[.bool (false)] 4) E' d'
              have HCS := Lib.hid (built_cell wr E d #[.bool (false)] 4 E' d')
              have HCE := Lib.hid (HCB.out.growE hbE)
              have c3' := bCs hbE c3
              have f3' := (hbE.frozen (p := ⟨mb, 2, none⟩) lc).trans f3
              have lc' : LtW mb (extW ((extW wr E d).alloc (.cells #[.bool (false)] 4)) E' d') := HCE.out.row.lt
              clear hbE c3 f3 lc HCB s0 s1 m1 m2 m3 ls lm x1 x2 lp1 lp2 b0 lb
              generalize extW ((extW wr E d).alloc (.cells #[.bool (false)] 4)) E' d' = WE at *
              generalize (extW wr E d).heap.size = BB at *
              have hsx := HCE.out.bel.size
              have hoE := HCE.out.own
              rw [clB_len] at hoE
              have HOE := Lib.hid hoE
              clear hoE
              go_wp2_with (at_builtin; go_loud (refine wpAppV okBools rfl (.tmp 89) (.tmp 97) rfl base _ k ((clB W es cs k).map Value.bool) (some ⟨BB, 0, none⟩) 1 1 [.bool (false)] rfl HOE.out rfl (fun e => by cases e) rfl (fun _ => ⟨BB, 0, rfl, fun j u hju => ?_⟩) (fun u hu => by simp at hu; subst hu; rfl) (by omega) (by omega) hsx ?_))
              · have hj0 : j = 0 := by
                  have := (List.getElem?_eq_some_iff.1 hju).1
                  simpa using this
                subst hj0
                exact HCS.out 0 u hju
              intro v' w2 hown2 hg2 hat2
              have hb2 : Below base WE w2 := belowGrown hg2 hsx (fun k hk => (HOE.out.lt k hk).1)
              have c4' : w2.cell? ⟨mb, 2, none⟩ = some v := (hb2.cell (p := ⟨mb, 2, none⟩) hmbb).trans c3'
              have f4' : w2.frozen? ⟨mb, 2, none⟩ = false := (hb2.frozen (p := ⟨mb, 2, none⟩) hmbb).trans f3'
              have l4' : LtW mb w2 := Nat.lt_of_lt_of_le lc' (hg2.size)
              obtain ⟨A', cp', rfl⟩ := own_form hown2
              have HNB := Lib.hid (HCE.out.appK (clB_len W es cs k) hmbb hown2 hb2)
              clear hown2 hg2 hat2 hb2 c3' f3' lc'
              go_wp2
              go_roundw
              case rel => exact ⟨x + 1, _, by omega, by go_num, by rw [← Nat.add_assoc, HKE.out, HSL.out]; exact HNB.out, by rw [← Nat.add_assoc, HKE.out]; exact HOK2⟩
              case measure => simp [intOf]; omega
            · have t2 : (px != cx) = true := by simpa using hpc
              have HNN := Lib.hid (HNO.out (by rintro (h | h); exact hec h; exact hpc h))
              clear hec hpc
              have r0 : wr.cell? ⟨q + 1 + 1, 0, none⟩ = some (.int .i64 (0)) := HRR.out.cell (i := 0) (by omega)
              have r1 : wr.cell? ⟨q + 1 + 1, 1, none⟩ = some (.int .i64 (0)) := HRR.out.cell (i := 1) (by omega)
              have r2 : wr.cell? ⟨q + 1 + 1, 2, none⟩ = some (.slice none 0 0) := HRR.out.cell (i := 2) (by omega)
              have g0 := HRR.out.frozen 0; have g1 := HRR.out.frozen 1; have g2 := HRR.out.frozen 2
              have lr : LtW (q + 1 + 1) wr := HRR.out.lt
              go_wp2
              refine bodyPost_ret (v := .tuple #[.agg #[.int .i64 0, .int .i64 0, .slice none 0 0], .int .i64 (6)]) (by simp [results, Try.results35, go_sem, r0, r1, r2]) rfl ?_
              unfold ClPost
              refine .inr ⟨HNN.out, none, 0, rfl, okT_none _, ?_⟩
              rw [HQ.out]
              exact ((HBW.out.setCell (by show q ≤ q + 1 + 1; omega) _).setCell (by show q ≤ q + 1 + 1; omega) _).setCell (by show q ≤ q + 1 + 1; omega) _
        · obtain rfl : W = x := by omega
          go_wp2
          go_roundw
          case rel => exact ⟨y + 1, v, by omega, by go_num, by rw [Nat.add_mul, Nat.one_mul]; exact HCB.out, by rw [Nat.add_mul, Nat.one_mul]; exact HOK⟩
          case measure => simp [intOf]; omega
    · obtain rfl : H = y := by omega
      have hHW : H * W = n := by rw [HN.out, Nat.mul_comm]
      rw [hHW] at HCB HOK
      obtain ⟨a9, c9, e9, h9, g9⟩ := OkT.of_owns HCB.out.own
      rw [clB_len] at e9 h9
      subst e9
      have rm := HCB.out.row
      have n0 : wr.cell? ⟨mb, 0, none⟩ = some (.int .i64 (W)) := rm.cell (i := 0) (by omega)
      have n1 : wr.cell? ⟨mb, 1, none⟩ = some (.int .i64 (H)) := rm.cell (i := 1) (by omega)
      have n2 : wr.cell? ⟨mb, 2, none⟩ = some (.slice a9 n c9) := rm.cell (i := 2) (by omega)
      have r0 : wr.cell? ⟨q + 1 + 1, 0, none⟩ = some (.int .i64 (0)) := HRR.out.cell (i := 0) (by omega)
      have r1 : wr.cell? ⟨q + 1 + 1, 1, none⟩ = some (.int .i64 (0)) := HRR.out.cell (i := 1) (by omega)
      have r2 : wr.cell? ⟨q + 1 + 1, 2, none⟩ = some (.slice none 0 0) := HRR.out.cell (i := 2) (by omega)
      have g0 := HRR.out.frozen 0; have g1 := HRR.out.frozen 1; have g2 := HRR.out.frozen 2
      have lr : LtW (q + 1 + 1) wr := HRR.out.lt
      have H9 := Lib.hid h9; have G9 := Lib.hid g9
      clear h9 g9 rm hHW f3
      go_wp2
      refine bodyPost_ret (v := .tuple #[.agg #[.int .i64 (W), .int .i64 (H), .slice a9 n c9], .int .i64 (0)]) (by simp [results, Try.results35, go_sem, r0, r1, r2]) rfl ?_
      unfold ClPost
      refine .inl ⟨HOK.out, a9, c9, rfl, ?_, ?_⟩
      · exact okT_setK (okT_setK (okT_setK H9.out fun b o e => by have := G9.out b o e; omega) fun b o e => by have := G9.out b o e; omega) fun b o e => by have := G9.out b o e; omega
      · rw [HQ.out]
        exact ((HBW.out.setCell (by show q ≤ q + 1 + 1; omega) _).setCell (by show q ≤ q + 1 + 1; omega) _).setCell (by show q ≤ q + 1 + 1; omega) _
end Go.Proofs.Yticplgjpflaelaa
