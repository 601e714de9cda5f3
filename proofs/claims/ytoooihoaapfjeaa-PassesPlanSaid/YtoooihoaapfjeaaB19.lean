/- Lemmas and contracts of functions (what each call returns, and that it changes nothing that was there) that the proof of a law of this seat uses; each lemma states its own conditions. -/
import Derived.Test.YtoooihoaapfjeaaB14
import Derived.Test.YtoooihoaapfjeaaB18
namespace Go.Proofs.Ytoooihoaapfjeaa
open Go.RowKit
set_option linter.unusedVariables false
set_option linter.unusedSimpArgs false
open Ps
set_option maxRecDepth 100000 in
set_option maxHeartbeats 8000000 in
theorem rsame_any (a1 : Option Addr) (n1 c1 : Nat) (b1 : List Int) (a2 : Option Addr) (n2 c2 : Nat) (b2 : List Int) (w : World) (hi : IsInts w a1 n1 b1) (hj : IsInts w a2 n2 b2) (m1 : n1 ≤ 9223372036854775807) (m2 : n2 ≤ 9223372036854775807) :
    Calls Try.prog 26 #[.slice a1 n1 c1, .slice a2 n2 c2] w fun e w' => e = .returned (.bool (decide (b1 = b2))) ∧ Below w.heap.size w w' := by
  by_cases hn : n1 = n2
  · subst hn
    have L1 := Lib.hid hi.1; have L2 := Lib.hid hj.1
    have HI := Lib.hid hi; have HJ := Lib.hid hj
    have hb0 : ((n1 : Int) != (n1 : Int)) = false := by simp
    clear hi hj
    go_enter Try.func26, Try.ntmps26
    go_wp2_with fail
    clear hb0
    go_loopw [13] (fun i wr => ∃ k : Nat, k ≤ n1 ∧ i = .int .i64 k ∧ Hid (∀ j, j < k → b1.getD j 0 = b2.getD j 0) ∧ ∃ E d, wr = extW w E d) (fun i _ => n1 - (intOf i).toNat)
    case atStart => exact ⟨0, Nat.zero_le _, rfl, Lib.hid (by omega), _, _, extW_zero _⟩
    case round =>
      obtain ⟨k, hk, rfl, HK, E, d, rfl⟩ := hrel
      by_cases hkn : k < n1
      · obtain ⟨p1, o1, rfl, hp1, hc1⟩ := HI.out.2 (by omega)
        obtain ⟨p2, o2, rfl, hp2, hc2⟩ := HJ.out.2 (by omega)
        have k1 := hc1 k hkn
        have k2 := hc2 k hkn
        have l1 : LtW p1 w := hp1
        have l2 : LtW p2 w := hp2
        obtain ⟨x, hx⟩ : ∃ x, b1.getD k 0 = x := ⟨_, rfl⟩
        obtain ⟨y, hy⟩ : ∃ y, b2.getD k 0 = y := ⟨_, rfl⟩
        rw [hx] at k1
        rw [hy] at k2
        have HX := Lib.hid hx; have HY := Lib.hid hy
        clear hc1 hc2 hp1 hp2 hx hy
        have HK1 : Hid (x = y → ∀ j, j < k + 1 → b1.getD j 0 = b2.getD j 0) := Lib.hid (by
          intro hxy j hj
          by_cases e : j = k
          · subst e; rw [HX.out, HY.out, hxy]
          · exact HK.out j (by omega))
        have HN : Hid (x ≠ y → b1 ≠ b2) := Lib.hid (by intro hxy e; subst e; exact hxy (HX.out.symm.trans HY.out))
        by_cases hxy : x = y
        · have HKE := Lib.hid (HK1.out hxy)
          have hb : (x != y) = false := by simpa using hxy
          clear hxy
          go_wp2_with fail
          (refine wp_region_ext (by kernel_rfl) (by kernel_rfl) ?_; (repeat (first | ((with_reducible refine ext_step (fun K hK => ?_)); go_simp; first | (refine hK _ ?_; clear hK K) | (apply Exists.intro; refine ⟨fun _ _ => ?_, hK _ ?_⟩; fail; clear hK K)))); refine wpQuiet_nil ?_; intro E d)
          go_wp2
          go_roundw
          case rel => exact ⟨k + 1, by omega, by go_num, HKE, _, _, extW_extW _ _ _ _ _⟩
          case measure => simp [intOf]; omega
        · have HNE := Lib.hid (HN.out hxy)
          have hb : (x != y) = true := by simpa using hxy
          clear hxy
          go_wp2_with fail
          (refine wp_region_ext (by kernel_rfl) (by kernel_rfl) ?_; (repeat (first | ((with_reducible refine ext_step (fun K hK => ?_)); go_simp; first | (refine hK _ ?_; clear hK K) | (apply Exists.intro; refine ⟨fun _ _ => ?_, hK _ ?_⟩; fail; clear hK K)))); refine wpQuiet_nil ?_; intro E d)
          go_wp2
          go_ret
          exact ⟨by rw [decide_eq_false HNE.out]; rfl, (by repeat (first | exact Below.refl _ _ | refine Below.drew ?_ | refine below_drewN ?_ _ | refine Below.alloc ?_ (by first | exact Nat.le_refl _ | (simp; done) | (simp; omega) | omega) _ | refine Below.setCell ?_ (by first | exact Nat.le_refl _ | (simp; done) | (simp; omega) | omega) _ | refine bExtW ?_ (by first | exact Nat.le_refl _ | (simp; done) | (simp; omega) | omega) | refine Below.trans ?_ (Below.mono (by assumption) (by first | exact Nat.le_refl _ | (simp; done) | (simp; omega) | omega))))⟩
      · have HE : Hid (b1 = b2) := Lib.hid (eq_getDI L1.out L2.out (fun j hj => HK.out j (by omega)))
        go_wp2
        go_ret
        exact ⟨by rw [decide_eq_true HE.out]; rfl, (by repeat (first | exact Below.refl _ _ | refine Below.drew ?_ | refine below_drewN ?_ _ | refine Below.alloc ?_ (by first | exact Nat.le_refl _ | (simp; done) | (simp; omega) | omega) _ | refine Below.setCell ?_ (by first | exact Nat.le_refl _ | (simp; done) | (simp; omega) | omega) _ | refine bExtW ?_ (by first | exact Nat.le_refl _ | (simp; done) | (simp; omega) | omega) | refine Below.trans ?_ (Below.mono (by assumption) (by first | exact Nat.le_refl _ | (simp; done) | (simp; omega) | omega))))⟩
  · have hb : ((n1 : Int) != (n2 : Int)) = true := by simp; omega
    have HN : Hid (b1 ≠ b2) := Lib.hid (by intro e; subst e; exact hn (hi.1.symm.trans hj.1))
    clear hn hi hj
    go_enter Try.func26, Try.ntmps26
    go_wp2
    go_ret
    exact ⟨by rw [decide_eq_false HN.out]; rfl, (by repeat (first | exact Below.refl _ _ | refine Below.drew ?_ | refine below_drewN ?_ _ | refine Below.alloc ?_ (by first | exact Nat.le_refl _ | (simp; done) | (simp; omega) | omega) _ | refine Below.setCell ?_ (by first | exact Nat.le_refl _ | (simp; done) | (simp; omega) | omega) _ | refine bExtW ?_ (by first | exact Nat.le_refl _ | (simp; done) | (simp; omega) | omega) | refine Below.trans ?_ (Below.mono (by assumption) (by first | exact Nat.le_refl _ | (simp; done) | (simp; omega) | omega))))⟩
set_option maxRecDepth 100000 in
set_option maxHeartbeats 8000000 in
theorem rSame_same (a1 : Option Addr) (n c1 : Nat) (a2 : Option Addr) (c2 : Nat) (L : List (Int × Int)) (w : World) (hi : IsPasses w a1 n L) (hj : IsPasses w a2 n L) (m1 : n ≤ 9223372036854775807) :
    Calls Try.prog 11 #[.slice a1 n c1, .slice a2 n c2] w fun e w' => e = .returned (.bool true) ∧ Below w.heap.size w w' := by
  have HI := Lib.hid hi; have HJ := Lib.hid hj
  have hb0 : ((n : Int) != (n : Int)) = false := by simp
  clear hi hj
  go_enter Try.func11, Try.ntmps11
  go_wp2_with fail
  clear hb0
  go_loopw [13] (fun i wr => ∃ k : Nat, k ≤ n ∧ i = .int .i64 k ∧ ∃ E d, wr = extW w E d) (fun i _ => n - (intOf i).toNat)
  case atStart => exact ⟨0, Nat.zero_le _, rfl, _, _, extW_zero _⟩
  case round =>
    obtain ⟨k, hk, rfl, E, d, rfl⟩ := hrel
    by_cases hkn : k < n
    · obtain ⟨p1, o1, rfl, hp1, hc1⟩ := HI.out.2 (by omega)
      obtain ⟨p2, o2, rfl, hp2, hc2⟩ := HJ.out.2 (by omega)
      obtain ⟨k1, k2⟩ := hc1 k hkn
      obtain ⟨k3, k4⟩ := hc2 k hkn
      have l1 : LtW p1 w := hp1
      have l2 : LtW p2 w := hp2
      generalize (L.getD k (0, 0)).1 = x at *
      generalize (L.getD k (0, 0)).2 = y at *
      have t1 : (x == x) = true := by simp
      have t2 : (y == y) = true := by simp
      clear hc1 hc2 hp1 hp2
      go_wp2_with fail
      (refine wp_region_ext (by kernel_rfl) (by kernel_rfl) ?_; (repeat (first | ((with_reducible refine ext_step (fun K hK => ?_)); go_simp; first | (refine hK _ ?_; clear hK K) | (apply Exists.intro; refine ⟨fun _ _ => ?_, hK _ ?_⟩; fail; clear hK K)))); refine wpQuiet_nil ?_; intro E d)
      go_wp2
      go_roundw
      case rel => exact ⟨k + 1, by omega, by go_num, _, _, extW_extW _ _ _ _ _⟩
      case measure => simp [intOf]; omega
    · go_wp2
      go_ret
      exact ⟨rfl, (by repeat (first | exact Below.refl _ _ | refine Below.drew ?_ | refine below_drewN ?_ _ | refine Below.alloc ?_ (by first | exact Nat.le_refl _ | (simp; done) | (simp; omega) | omega) _ | refine Below.setCell ?_ (by first | exact Nat.le_refl _ | (simp; done) | (simp; omega) | omega) _ | refine bExtW ?_ (by first | exact Nat.le_refl _ | (simp; done) | (simp; omega) | omega) | refine Below.trans ?_ (Below.mono (by assumption) (by first | exact Nat.le_refl _ | (simp; done) | (simp; omega) | omega))))⟩
end Go.Proofs.Ytoooihoaapfjeaa

namespace Go.Proofs.Ytoooihoaapfjeaa
open Go.RowKit
set_option linter.unusedVariables false
set_option linter.unusedSimpArgs false
open Ps
theorem rpowerB (n P : Nat) (hn : n ≤ 40) (hP : 2 ^ n = P) (w : World) : Calls Try.prog 25 #[.int .i64 (n)] w fun e w' => e = .returned (.int .i64 (P)) ∧ Below w.heap.size w w' := by
  subst hP
  exact (rpower_any n hn w).mono fun e w' h => ⟨h.1, by rw [h.2]; exact Below.refl _ _⟩
set_option maxRecDepth 100000 in
set_option maxHeartbeats 8000000 in
theorem rCheck_any (fa : Option Addr) (fn fc : Nat) (zs : List Int) (ta : Option Addr) (tn tc : Nat) (to : List Int) (sl : Int) (la : Option Addr) (ln lc : Nat) (l : List (Int × Int)) (w : World) (hI : IsInts w fa fn zs) (hT : IsInts w ta tn to) (hL : IsPasses w la ln l) (hfn : fn ≤ 9223372036854775807) (htn : tn ≤ 9223372036854775807) (hln : ln ≤ 9223372036854775807) (hs : (-9223372036854775808 ≤ sl ∧ sl ≤ 9223372036854775807)) (hl : ∀ p ∈ l, (-9223372036854775808 ≤ p.1 ∧ p.1 ≤ 9223372036854775807) ∧ (-9223372036854775808 ≤ p.2 ∧ p.2 ≤ 9223372036854775807)) :
    Calls Try.prog 13 #[.slice fa fn fc, .slice ta tn tc, .int .i64 sl, .slice la ln lc] w fun e w' => e = .returned (.tuple #[.bool (decide (wrP zs to sl = 0) && chk to sl to.length zs l), .int .i64 (wrP zs to sl)]) ∧ Below w.heap.size w w' := by
  have HI := Lib.hid hI; have HT := Lib.hid hT; have HL := Lib.hid hL; have HLW := Lib.hid hl
  have HWr := Lib.hid (rWrong_any fa fn fc zs ta tn tc to sl w hI hT hfn htn hs)
  obtain ⟨V, hV⟩ : ∃ V, (decide (wrP zs to sl = 0) && chk to sl to.length zs l) = V := ⟨_, rfl⟩
  obtain ⟨Er, hEr⟩ : ∃ Er, wrP zs to sl = Er := ⟨_, rfl⟩
  rw [hV, hEr]
  rw [hEr] at HWr hV
  have HV := Lib.hid hV; have HEr := Lib.hid hEr
  clear hI hT hL hl hV hEr
  go_enter Try.func13, Try.ntmps13
  go_wp2_with fail
  refine HWr.out.mono ?_
  rintro r w1 ⟨rfl, hb1⟩
  have HB1 := Lib.hid hb1
  clear hb1 HWr
  by_cases hw0 : Er = 0
  rotate_left
  · have hne : (Er != 0) = true := by simpa using hw0
    have HVF : Hid (V = false) := Lib.hid (by rw [← HV.out, decide_eq_false hw0]; rfl)
    clear hw0
    go_wp2
    refine bodyPost_ret (v := .tuple #[.bool false, .int .i64 (Er)]) (by simp [results, Try.results13, go_sem]) rfl ?_
    exact ⟨by rw [HVF.out], HB1.out⟩
  · subst hw0
    have hw0 := HEr.out
    obtain ⟨hz1, hz5, hzl, hs1, hs11, hoz, hot⟩ := wrP_zero hw0
    have hnf : fn = zs.length := HI.out.1.symm
    have hnt : tn = fn := by rw [hnf, ← hzl]; exact HT.out.1.symm
    subst hnt
    have hR : chk to sl tn zs l = V := by
      have := HV.out
      rw [decide_eq_true rfl, Bool.true_and, hzl, ← hnf] at this
      exact this
    have HR := Lib.hid hR; have HOZ := Lib.hid hoz; have HOT := Lib.hid hot; have HZL := Lib.hid hnf; have HTL := Lib.hid (hzl.trans hnf.symm)
    rw [← hnf] at hz1 hz5
    clear hw0 hoz hot hzl hnf hR
    go_wp2_with fail
    go_loopw [11, 24] (fun av iv wr => ∃ (k : Nat) (s : List Int) (A : Option Addr) (c : Nat), k ≤ ln ∧ iv = .int .i64 k ∧ av = .slice A tn c ∧ Hid (IsInts wr A tn s) ∧ Hid (okS to sl s) ∧ Hid (chk to sl tn s (l.drop k) = V) ∧ Hid (Below w.heap.size w wr)) (fun _ iv _ => ln - (intOf iv).toNat)
    case atStart => exact ⟨0, zs, fa, fc, by omega, rfl, rfl, Lib.hid (HI.out.below HB1.out), HOZ, HR, HB1⟩
    case round =>
      obtain ⟨k, s, A, c, hk, rfl, rfl, HS, HOS, HC, HBR⟩ := hrel
      have HBW := HBR
      by_cases hkn : k < ln
      · obtain ⟨pb, po, rfl, hbl, hc⟩ := (HL.out.below HBW.out).2 (by omega)
        obtain ⟨ca, cb⟩ := hc k hkn
        have hkl : k < l.length := by rw [HL.out.1]; exact hkn
        have hdr := chk_drop (to := to) (sl := sl) (n := tn) (s := s) hkl
        have hwf := HLW.out (l.getD k (0, 0)) (by rw [List.getD_eq_getElem?_getD, List.getElem?_eq_getElem hkl]; exact List.getElem_mem _)
        generalize l.getD k (0, 0) = p at *
        obtain ⟨b, wh⟩ := p
        simp only at ca cb hwf hdr
        have hdr2 := hdr.symm.trans HC.out
        have HDR := Lib.hid hdr2
        have lb : LtW pb wr := hbl
        have dk : decide ((k : Int) < (ln : Int)) = true := by simp; omega
        have dk' : decide (k < ln) = true := by simpa using hkn
        obtain ⟨P, hP⟩ : ∃ P : Nat, 2 ^ tn = P := ⟨_, rfl⟩
        have HPW := Lib.hid hP
        have h2n : ((2 : Int) ^ tn) = (P : Int) := by rw [← hP]; simp
        have hP32 : P ≤ 32 := by
          have : 2 ^ tn ≤ 2 ^ 5 := Nat.pow_le_pow_right (by omega) hz5
          omega
        have hP1 : 1 ≤ P := by rw [← hP]; exact Nat.one_le_two_pow
        have hwP : IntKind.i64.wrap (P : Int) = (P : Int) := IntWalk.i64_in _ (by omega)
        have HVI : Hid (vI tn (b, wh) ↔ ((b = -2 ∨ b = -1 ∨ b = 1 ∨ b = 2) ∧ 1 ≤ wh ∧ wh < (P : Nat))) := Lib.hid (by unfold vI; rw [hP])
        have HDN : Hid (¬ vI tn (b, wh) → V = false) := Lib.hid (fun h => by
          have := HDR.out
          rw [decide_eq_false (fun h2 => h h2.1)] at this
          exact this.symm)
        clear hdr hdr2 hc hbl hP hkl
        have hrow := psI_alloc wr b wh
        have HRW := Lib.hid hrow
        have hb3 : Below wr.heap.size wr (wr.alloc (.cells #[.int .i64 b, .int .i64 wh] 43)) := (by repeat (first | exact Below.refl _ _ | refine Below.drew ?_ | refine below_drewN ?_ _ | refine Below.alloc ?_ (by first | exact Nat.le_refl _ | (simp; done) | (simp; omega) | omega) _ | refine Below.setCell ?_ (by first | exact Nat.le_refl _ | (simp; done) | (simp; omega) | omega) _ | refine bExtW ?_ (by first | exact Nat.le_refl _ | (simp; done) | (simp; omega) | omega) | refine Below.trans ?_ (Below.mono (by assumption) (by first | exact Nat.le_refl _ | (simp; done) | (simp; omega) | omega))))
        have HB3 := Lib.hid hb3
        clear hrow hb3
        go_wp2_with fail
        have HBW3 : Hid (Below w.heap.size w (wr.alloc (.cells #[.int .i64 b, .int .i64 wh] 43))) := Lib.hid (HBW.out.trans (HB3.out.mono HBW.out.size))
        have HBR3 : Hid (Below w.heap.size w (wr.alloc (.cells #[.int .i64 b, .int .i64 wh] 43))) := Lib.hid (HBR.out.trans (HB3.out.mono HBR.out.size))
        have HS3 := Lib.hid (HS.out.below HB3.out)
        generalize wr.alloc (.cells #[.int .i64 b, .int .i64 wh] 43) = w3 at *
        obtain ⟨xb, hxb⟩ : ∃ xb, wr.heap.size = xb := ⟨_, rfl⟩
        rw [hxb] at HRW ⊢
        clear hxb
        have c0 : w3.cell? ⟨xb, 0, none⟩ = some (.int .i64 b) := HRW.out.cell (i := 0) (by omega)
        have c1 : w3.cell? ⟨xb, 1, none⟩ = some (.int .i64 wh) := HRW.out.cell (i := 1) (by omega)
        have lx : LtW xb w3 := HRW.out.lt
        clear ca cb lb HB3 HBR HBW HS
        by_cases h1 : b < -2
        · have HD : Hid (V = false) := Lib.hid (HDN.out (fun h => by have := (HVI.out.1 h).1; omega))
          have b1 : decide (b < -2) = true := by simpa using h1
          clear h1
          go_wp2_with fail
          (refine wp_region_ext (by kernel_rfl) (by kernel_rfl) ?_; (repeat (first | ((with_reducible refine ext_step (fun K hK => ?_)); go_simp; first | (refine hK _ ?_; clear hK K) | (apply Exists.intro; refine ⟨fun _ _ => ?_, hK _ ?_⟩; (go_at_call 25; exact extOf (rpowerB tn _ (by omega) HPW.out _)); clear hK K)))); refine wpQuiet_nil ?_; intro E d)
          have HBE : Hid (Below w3.heap.size w3 (extW w3 E d)) := Lib.hid (bExtW (Below.refl _ _) (Nat.le_refl _))
          go_wp2
          refine bodyPost_ret (v := .tuple #[.bool false, .int .i64 (0)]) (by simp [results, Try.results13, go_sem]) rfl ?_
          exact ⟨by rw [HD.out], HBW3.out.trans (HBE.out.mono HBW3.out.size)⟩
        · have b1 : decide (b < -2) = false := by simpa using h1
          by_cases h2 : 2 < b
          · have HD : Hid (V = false) := Lib.hid (HDN.out (fun h => by have := (HVI.out.1 h).1; omega))
            have b2 : decide (2 < b) = true := by simpa using h2
            clear h1 h2
            go_wp2_with fail
            (refine wp_region_ext (by kernel_rfl) (by kernel_rfl) ?_; (repeat (first | ((with_reducible refine ext_step (fun K hK => ?_)); go_simp; first | (refine hK _ ?_; clear hK K) | (apply Exists.intro; refine ⟨fun _ _ => ?_, hK _ ?_⟩; (go_at_call 25; exact extOf (rpowerB tn _ (by omega) HPW.out _)); clear hK K)))); refine wpQuiet_nil ?_; intro E d)
            have HBE : Hid (Below w3.heap.size w3 (extW w3 E d)) := Lib.hid (bExtW (Below.refl _ _) (Nat.le_refl _))
            go_wp2
            refine bodyPost_ret (v := .tuple #[.bool false, .int .i64 (0)]) (by simp [results, Try.results13, go_sem]) rfl ?_
            exact ⟨by rw [HD.out], HBW3.out.trans (HBE.out.mono HBW3.out.size)⟩
          · have b2 : decide (2 < b) = false := by simpa using h2
            by_cases h0 : b = 0
            · have HD : Hid (V = false) := Lib.hid (HDN.out (fun h => by have := (HVI.out.1 h).1; omega))
              have b0 : (b == 0) = true := by simpa using h0
              clear h0 h1 h2
              go_wp2_with fail
              (refine wp_region_ext (by kernel_rfl) (by kernel_rfl) ?_; (repeat (first | ((with_reducible refine ext_step (fun K hK => ?_)); go_simp; first | (refine hK _ ?_; clear hK K) | (apply Exists.intro; refine ⟨fun _ _ => ?_, hK _ ?_⟩; (go_at_call 25; exact extOf (rpowerB tn _ (by omega) HPW.out _)); clear hK K)))); refine wpQuiet_nil ?_; intro E d)
              have HBE : Hid (Below w3.heap.size w3 (extW w3 E d)) := Lib.hid (bExtW (Below.refl _ _) (Nat.le_refl _))
              go_wp2
              refine bodyPost_ret (v := .tuple #[.bool false, .int .i64 (0)]) (by simp [results, Try.results13, go_sem]) rfl ?_
              exact ⟨by rw [HD.out], HBW3.out.trans (HBE.out.mono HBW3.out.size)⟩
            · have b0 : (b == 0) = false := by simpa using h0
              by_cases h3 : wh < 1
              · have HD : Hid (V = false) := Lib.hid (HDN.out (fun h => by have := (HVI.out.1 h).2.1; omega))
                have b3 : decide (wh < 1) = true := by simpa using h3
                clear h0 h1 h2 h3
                go_wp2_with fail
                (refine wp_region_ext (by kernel_rfl) (by kernel_rfl) ?_; (repeat (first | ((with_reducible refine ext_step (fun K hK => ?_)); go_simp; first | (refine hK _ ?_; clear hK K) | (apply Exists.intro; refine ⟨fun _ _ => ?_, hK _ ?_⟩; (go_at_call 25; exact extOf (rpowerB tn _ (by omega) HPW.out _)); clear hK K)))); refine wpQuiet_nil ?_; intro E d)
                have HBE : Hid (Below w3.heap.size w3 (extW w3 E d)) := Lib.hid (bExtW (Below.refl _ _) (Nat.le_refl _))
                go_wp2
                refine bodyPost_ret (v := .tuple #[.bool false, .int .i64 (0)]) (by simp [results, Try.results13, go_sem]) rfl ?_
                exact ⟨by rw [HD.out], HBW3.out.trans (HBE.out.mono HBW3.out.size)⟩
              · have b3 : decide (wh < 1) = false := by simpa using h3
                by_cases h4 : (P : Int) ≤ wh
                · have HD : Hid (V = false) := Lib.hid (HDN.out (fun h => by have := (HVI.out.1 h).2.2; omega))
                  have b4 : decide ((P : Int) ≤ wh) = true := by simpa using h4
                  clear h0 h1 h2 h3 h4
                  go_wp2_with fail
                  (refine wp_region_ext (by kernel_rfl) (by kernel_rfl) ?_; (repeat (first | ((with_reducible refine ext_step (fun K hK => ?_)); go_simp; first | (refine hK _ ?_; clear hK K) | (apply Exists.intro; refine ⟨fun _ _ => ?_, hK _ ?_⟩; (go_at_call 25; exact extOf (rpowerB tn _ (by omega) HPW.out _)); clear hK K)))); refine wpQuiet_nil ?_; intro E d)
                  have HBE : Hid (Below w3.heap.size w3 (extW w3 E d)) := Lib.hid (bExtW (Below.refl _ _) (Nat.le_refl _))
                  go_wp2
                  refine bodyPost_ret (v := .tuple #[.bool false, .int .i64 (0)]) (by simp [results, Try.results13, go_sem]) rfl ?_
                  exact ⟨by rw [HD.out], HBW3.out.trans (HBE.out.mono HBW3.out.size)⟩
                · have b4 : decide ((P : Int) ≤ wh) = false := by simpa using h4
                  have HV9 : Hid (vI tn (b, wh)) := Lib.hid (HVI.out.2 ⟨by omega, by omega, by omega⟩)
                  obtain ⟨q, rfl⟩ : ∃ q : Nat, wh = (q : Int) := ⟨wh.toNat, by omega⟩
                  have hq : q < 32 := by omega
                  have b4' : decide (P ≤ q) = false := by simp; omega
                  have b3' : decide (q < 1) = false := by simp; omega
                  have b3'' : (q == 0) = false := by simp; omega
                  have hbb : -2 ≤ b ∧ b ≤ 2 := by omega
                  clear h0 h1 h2 h3 h4
                  go_wp2_with fail
                  (refine wp_region_ext (by kernel_rfl) (by kernel_rfl) ?_; (repeat (first | ((with_reducible refine ext_step (fun K hK => ?_)); go_simp; first | (refine hK _ ?_; clear hK K) | (apply Exists.intro; refine ⟨fun _ _ => ?_, hK _ ?_⟩; (go_at_call 25; exact extOf (rpowerB tn _ (by omega) HPW.out _)); clear hK K)))); refine wpQuiet_nil ?_; intro E d)
                  have HBE : Hid (Below w3.heap.size w3 (extW w3 E d)) := Lib.hid (bExtW (Below.refl _ _) (Nat.le_refl _))
                  have HBW4 := Lib.hid (HBW3.out.trans (HBE.out.mono HBW3.out.size))
                  have HBR4 := Lib.hid (HBR3.out.trans (HBE.out.mono HBR3.out.size))
                  have HS4 := Lib.hid (HS3.out.below HBE.out)
                  have c0' := bCs HBE.out c0
                  have c1' := bCs HBE.out c1
                  generalize extW w3 E d = w4 at *
                  have lx' : LtW xb w4 := World.block_lt_of_cell? _ _ c0'
                  clear c0 c1 lx
                  go_wp2_with fail
                  refine (rBehind_any A tn c s b q w4 HS4.out hz5 (fun y hy => by have := okS_bd HOS.out y hy; omega) hbb hq).mono ?_
                  rintro r w5 ⟨A2, C2, rfl, hown, hb5⟩
                  have hsl : s.length = tn := HS4.out.1
                  have hzl2 : (mv s b q).length = tn := by rw [mv_len]; exact hsl
                  obtain ⟨zb, hzb⟩ : ∃ zb, mv s b q = zb := ⟨_, rfl⟩
                  rw [Int.toNat_natCast, hzb] at HDR
                  rw [hzb] at hown hzl2 ⊢
                  have hzi : IsInts w5 A2 tn zb := by
                    obtain ⟨A3, C3, e3, h3⟩ := (IntRow.of_own hown).ints
                    rw [hzl2] at e3 h3
                    injection e3 with e4 e5 e6
                    rw [e4]; exact h3
                  rw [hzl2]
                  have HBW5 := Lib.hid (HBW4.out.trans (hb5.mono HBW4.out.size))
                  have hbr5 := HBR4.out.trans (hb5.mono HBR4.out.size)
                  have HBR5 := Lib.hid hbr5
                  have HZI := Lib.hid hzi
                  clear hown hb5 hzb hbr5 hzi hsl c0' c1' lx' hzl2
                  go_wp2_with fail
                  refine (rStands_any ta tn tc to sl A2 tn C2 zb w5 (HT.out.below HBW5.out) HZI.out rfl (by omega) ⟨hs1, hs11⟩).mono ?_
                  rintro r w6 ⟨rfl, hb6⟩
                  have HBW6 := Lib.hid (HBW5.out.trans (hb6.mono HBW5.out.size))
                  have HBR6 := Lib.hid (HBR5.out.trans (hb6.mono HBR5.out.size))
                  have HZI6 := Lib.hid (HZI.out.below hb6)
                  clear hb6
                  by_cases hzk : okS to sl zb
                  · rw [decide_eq_true hzk]
                    have HZK := Lib.hid hzk
                    have HC2 : Hid (chk to sl tn zb (l.drop (k + 1)) = V) := Lib.hid (by
                      have := HDR.out
                      rwa [decide_eq_true ⟨HV9.out, hzk⟩, Bool.true_and] at this)
                    clear hzk
                    go_wp2
                    go_roundw
                    case rel => exact ⟨k + 1, zb, A2, C2, by omega, by go_num, rfl, HZI6, HZK, HC2, HBR6⟩
                    case measure => simp [intOf]; omega
                  · rw [decide_eq_false hzk]
                    have HD : Hid (V = false) := Lib.hid (by
                      have := HDR.out
                      rw [decide_eq_false (fun h => hzk h.2)] at this
                      exact this.symm)
                    clear hzk
                    go_wp2
                    refine bodyPost_ret (v := .tuple #[.bool false, .int .i64 (0)]) (by simp [results, Try.results13, go_sem]) rfl ?_
                    exact ⟨by rw [HD.out], HBW6.out⟩
      · obtain rfl : k = ln := by omega
        have dk : decide ((k : Int) < (k : Int)) = false := by simp
        have HVE : Hid (decide (s = to) = V) := Lib.hid (by
          have := HC.out
          rw [List.drop_eq_nil_of_le (by rw [HL.out.1]; exact Nat.le_refl _)] at this
          exact this)
        go_wp2_with fail
        refine (rsame_any A tn c s ta tn tc to wr HS.out (HT.out.below HBW.out) (by omega) (by omega)).mono ?_
        rintro r w6 ⟨rfl, hb6⟩
        have HBW6 := Lib.hid (HBW.out.trans (hb6.mono HBW.out.size))
        rw [HVE.out]
        clear hb6
        go_wp2
        refine bodyPost_ret (v := .tuple #[.bool V, .int .i64 (0)]) (by simp [results, Try.results13, go_sem]) rfl ?_
        exact ⟨rfl, HBW6.out⟩
end Go.Proofs.Ytoooihoaapfjeaa
