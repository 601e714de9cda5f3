/- Chapter 10: the document's answer: what is wrong; how it begins; what may come. -/
import Derived.Test.YtefmlepogpjhmaaLm11
namespace Go.Proofs.Ytefmlepogpjhmaa
open Go.RowKit
set_option linter.unusedVariables false
set_option linter.unusedSimpArgs false
open Lm
set_option maxRecDepth 100000 in
set_option maxHeartbeats 8000000 in
theorem rWrong10_any (W H : Int) (A : Option Addr) (n c sz : Nat) (w : World) (h1 : (-9223372036854775808 ≤ W ∧ W ≤ 9223372036854775807)) (h2 : (-9223372036854775808 ≤ H ∧ H ≤ 9223372036854775807)) (h3 : n ≤ 9223372036854775807) :
    Calls Try.prog 17 #[.agg #[.int .i64 (W), .int .i64 (H), .slice A n c], .int .i64 (sz)] w fun e w' => e = .returned (.int .i64 (openE W H n sz)) ∧ Below w.heap.size w w' := by
  have HW := Lib.hid (fun w => r5Wrong_any W H A n c w h1 h2 h3)
  by_cases hw : wrT W H n = 0
  · rw [hw] at HW
    by_cases hn : n = 0
    · have hv : openE W H n sz = 5 := by unfold openE; rw [if_neg (by simp [hw]), if_pos hn]
      rw [hv]
      subst hn
      clear hv hw
      go_enter Try.func17, Try.ntmps17
      (go_wp2_with fail; refine (HW.out _).mono ?_; rintro r w1 ⟨rfl, hb⟩; obtain ⟨E, d, rfl⟩ := bExt hb; clear hb)
      go_wp2
      go_ret
      exact ⟨rfl, (by repeat (first | exact Below.refl _ _ | refine Below.drew ?_ | refine below_drewN ?_ _ | refine Below.alloc ?_ (by first | exact Nat.le_refl _ | (simp; done) | (simp; omega) | omega) _ | refine Below.setCell ?_ (by first | exact Nat.le_refl _ | (simp; done) | (simp; omega) | omega) _ | refine bExtW ?_ (by first | exact Nat.le_refl _ | (simp; done) | (simp; omega) | omega) | refine Below.trans ?_ (Below.mono (by assumption) (by first | exact Nat.le_refl _ | (simp; done) | (simp; omega) | omega))))⟩
    · have b1 : ((n : Int) == 0) = false := by simp; omega
      have b2 : (n == 0) = false := by simpa using hn
      by_cases hs : sz < 2
      · have hv : openE W H n sz = 4 := by unfold openE; rw [if_neg (by simp [hw]), if_neg hn, if_pos hs]
        have b3 : decide ((sz : Int) < 2) = true := by simp; omega
        have b4 : decide (sz < 2) = true := by simpa using hs
        rw [hv]
        clear hv hw hn hs
        go_enter Try.func17, Try.ntmps17
        (go_wp2_with fail; refine (HW.out _).mono ?_; rintro r w1 ⟨rfl, hb⟩; obtain ⟨E, d, rfl⟩ := bExt hb; clear hb)
        go_wp2
        go_ret
        exact ⟨rfl, (by repeat (first | exact Below.refl _ _ | refine Below.drew ?_ | refine below_drewN ?_ _ | refine Below.alloc ?_ (by first | exact Nat.le_refl _ | (simp; done) | (simp; omega) | omega) _ | refine Below.setCell ?_ (by first | exact Nat.le_refl _ | (simp; done) | (simp; omega) | omega) _ | refine bExtW ?_ (by first | exact Nat.le_refl _ | (simp; done) | (simp; omega) | omega) | refine Below.trans ?_ (Below.mono (by assumption) (by first | exact Nat.le_refl _ | (simp; done) | (simp; omega) | omega))))⟩
      · have hv : openE W H n sz = 0 := by unfold openE; rw [if_neg (by simp [hw]), if_neg hn, if_neg hs]
        have b3 : decide ((sz : Int) < 2) = false := by simp; omega
        have b4 : decide (sz < 2) = false := by simpa using hs
        rw [hv]
        clear hv hw hn hs
        go_enter Try.func17, Try.ntmps17
        (go_wp2_with fail; refine (HW.out _).mono ?_; rintro r w1 ⟨rfl, hb⟩; obtain ⟨E, d, rfl⟩ := bExt hb; clear hb)
        go_wp2
        go_ret
        exact ⟨rfl, (by repeat (first | exact Below.refl _ _ | refine Below.drew ?_ | refine below_drewN ?_ _ | refine Below.alloc ?_ (by first | exact Nat.le_refl _ | (simp; done) | (simp; omega) | omega) _ | refine Below.setCell ?_ (by first | exact Nat.le_refl _ | (simp; done) | (simp; omega) | omega) _ | refine bExtW ?_ (by first | exact Nat.le_refl _ | (simp; done) | (simp; omega) | omega) | refine Below.trans ?_ (Below.mono (by assumption) (by first | exact Nat.le_refl _ | (simp; done) | (simp; omega) | omega))))⟩
  · have hv : openE W H n sz = wrT W H n := by unfold openE; rw [if_pos hw]
    rw [hv]
    have b1 : (wrT W H n != 0) = true := by simpa using hw
    generalize wrT W H n = e at *
    clear hv hw
    go_enter Try.func17, Try.ntmps17
    (go_wp2_with fail; refine (HW.out _).mono ?_; rintro r w1 ⟨rfl, hb⟩; obtain ⟨E, d, rfl⟩ := bExt hb; clear hb)
    go_wp2
    go_ret
    exact ⟨rfl, (by repeat (first | exact Below.refl _ _ | refine Below.drew ?_ | refine below_drewN ?_ _ | refine Below.alloc ?_ (by first | exact Nat.le_refl _ | (simp; done) | (simp; omega) | omega) _ | refine Below.setCell ?_ (by first | exact Nat.le_refl _ | (simp; done) | (simp; omega) | omega) _ | refine bExtW ?_ (by first | exact Nat.le_refl _ | (simp; done) | (simp; omega) | omega) | refine Below.trans ?_ (Below.mono (by assumption) (by first | exact Nat.le_refl _ | (simp; done) | (simp; omega) | omega))))⟩
set_option maxRecDepth 100000 in
set_option maxHeartbeats 8000000 in
theorem Begin_ok (W H : Nat) (A : Option Addr) (n c g m cw : Nat) (ws : List Int) (w : World) (hI : IsInts w (some ⟨g, 0, none⟩) m ws) (hwf : ∀ x ∈ ws, (-9223372036854775808 ≤ x ∧ x ≤ 9223372036854775807)) (h2 : 2 ≤ m) (hm : m ≤ 1048576) (hH : H ≤ 64) :
    Calls Try.prog 18 #[.agg #[.int .i64 (W), .int .i64 (H), .slice A n c], .slice (some ⟨g, 0, none⟩) m cw] w fun e w' => e = .returned (.agg #[.int .i64 ((begin_ H ws).wv : Nat), .int .i64 ((begin_ H ws).at_ : Nat), .bool (begin_ H ws).stop, .bool (begin_ H ws).dead]) ∧ Below w.heap.size w w' := by
  obtain ⟨b, o, e, hb, hc⟩ := hI.2 (by omega)
  injection e with e
  injection e with e1 e2
  subst e1 e2
  have c0 := hc 0 (by omega)
  have c1 := hc 1 (by omega)
  rw [Nat.zero_add] at c0 c1
  have hl := hI.1
  have hx0 := hwf (ws.getD 0 0) (by rw [List.getD_eq_getElem?_getD, List.getElem?_eq_getElem (by omega)]; exact List.getElem_mem _)
  have lg : LtW g w := hb
  have i0 : (0 : Int) < (m : Int) := by omega
  have i1 : (1 : Int) < (m : Int) := by omega
  have i2 : 0 < m := by omega
  have i3 : 1 < m := by omega
  have i4 : decide (0 < m) = true := by simpa using i2
  have i5 : decide (1 < m) = true := by simpa using i3
  have i6 : decide ((0 : Int) < (m : Int)) = true := by simpa using i2
  have i7 : decide ((1 : Int) < (m : Int)) = true := by simp; omega
  obtain ⟨wv, hwv⟩ : ∃ x, wv0 H ws = x := ⟨_, rfl⟩
  have hbg : begin_ H ws = ⟨wv, if wv = H then 6 else if ws.getD 1 0 = (wv : Int) + 1 then 5 else 0, false, false⟩ := by unfold begin_; rw [hwv]
  rw [hbg]
  have hwe : wv = if 0 < ws.getD 0 0 ∧ ws.getD 0 0 ≤ H then (ws.getD 0 0).toNat else 0 := by rw [← hwv]; rfl
  obtain ⟨x0, hx0e⟩ : ∃ x, ws.getD 0 0 = x := ⟨_, rfl⟩
  obtain ⟨x1, hx1e⟩ : ∃ x, ws.getD 1 0 = x := ⟨_, rfl⟩
  rw [hx0e] at c0 hwe hx0
  rw [hx1e] at c1 ⊢
  obtain ⟨av, hav⟩ : ∃ y, (if wv = H then 6 else if x1 = (wv : Int) + 1 then 5 else 0) = y := ⟨_, rfl⟩
  rw [hav]
  have HAV := Lib.hid hav
  clear hI hc hb hwv hbg hl hx0e hx1e hav
  by_cases h0 : 0 ≤ x0
  · obtain ⟨k, rfl⟩ : ∃ k : Nat, x0 = k := ⟨x0.toNat, by omega⟩
    by_cases hk : k ≤ H
    · have hwk : wv = k := by
        rw [hwe]
        by_cases h9 : 0 < (k : Int)
        · rw [if_pos ⟨h9, by omega⟩]; omega
        · rw [if_neg (by omega)]; omega
      subst hwk
      have t1 : decide ((wv : Int) ≥ 0) = true := by simp
      have t3 : decide ((wv : Int) ≤ (H : Int)) = true := by simp; omega
      have t4 : decide (wv ≤ H) = true := by simpa using hk
      clear hwe
      by_cases hwH : wv = H
      · have z1 : (((wv : Nat) : Int) == (H : Int)) = true := by simp; omega
        have z2 : ((wv : Int) == (H : Int)) = true := by simp; omega
        have z3 : (wv == H) = true := by simp; omega
        have HA6 : Hid (av = 6) := Lib.hid (by rw [← HAV.out, if_pos hwH])
        clear hwH
        go_enter Try.func18, Try.ntmps18
        go_wp2_with fail
        (refine wp_region_ext (by kernel_rfl) (by kernel_rfl) ?_; (repeat (first | ((with_reducible refine ext_step (fun K hK => ?_)); go_simp; first | (refine hK _ ?_; clear hK K) | (apply Exists.intro; refine ⟨fun _ _ => ?_, hK _ ?_⟩; fail; clear hK K)))); refine wpQuiet_nil ?_; intro E d)
        go_wp2_with fail
        go_wp2
        refine bodyPost_ret (v := .agg #[.int .i64 ((wv : Int)), .int .i64 (6), .bool false, .bool false]) (by simp [results, Try.results18, go_sem]) rfl ?_
        exact ⟨by rw [HA6.out]; rfl, (by repeat (first | exact Below.refl _ _ | refine Below.drew ?_ | refine below_drewN ?_ _ | refine Below.alloc ?_ (by first | exact Nat.le_refl _ | (simp; done) | (simp; omega) | omega) _ | refine Below.setCell ?_ (by first | exact Nat.le_refl _ | (simp; done) | (simp; omega) | omega) _ | refine bExtW ?_ (by first | exact Nat.le_refl _ | (simp; done) | (simp; omega) | omega) | refine Below.trans ?_ (Below.mono (by assumption) (by first | exact Nat.le_refl _ | (simp; done) | (simp; omega) | omega))))⟩
      · have z1 : (((wv : Nat) : Int) == (H : Int)) = false := by simp; omega
        have z2 : ((wv : Int) == (H : Int)) = false := by simp; omega
        have z3 : (wv == H) = false := by simp; omega
        have vw : IntKind.i64.wrap (1 : Int) = 1 := IntWalk.i64_in _ (by omega)
        have vv : IntKind.i64.wrap ((wv : Int) + 1) = (wv : Int) + 1 := IntWalk.i64_in _ (by omega)
        by_cases hx : x1 = (wv : Int) + 1
        · have z4 : (x1 == (wv : Int) + 1) = true := by simpa using hx
          have z5 := z4
          first | (simp only [Int.zero_add] at z5) | clear z5
          have HA6 : Hid (av = 5) := Lib.hid (by rw [← HAV.out, if_neg hwH, if_pos (by first | exact hx | (simpa using hx))])
          clear hwH hx
          go_enter Try.func18, Try.ntmps18
          go_wp2_with fail
          (refine wp_region_ext (by kernel_rfl) (by kernel_rfl) ?_; (repeat (first | ((with_reducible refine ext_step (fun K hK => ?_)); go_simp; first | (refine hK _ ?_; clear hK K) | (apply Exists.intro; refine ⟨fun _ _ => ?_, hK _ ?_⟩; fail; clear hK K)))); refine wpQuiet_nil ?_; intro E d)
          go_wp2_with fail
          (refine wp_region_ext (by kernel_rfl) (by kernel_rfl) ?_; (repeat (first | ((with_reducible refine ext_step (fun K hK => ?_)); go_simp; first | (refine hK _ ?_; clear hK K) | (apply Exists.intro; refine ⟨fun _ _ => ?_, hK _ ?_⟩; fail; clear hK K)))); refine wpQuiet_nil ?_; intro E d)
          go_wp2
          refine bodyPost_ret (v := .agg #[.int .i64 ((wv : Int)), .int .i64 (5), .bool false, .bool false]) (by simp [results, Try.results18, go_sem]) rfl ?_
          exact ⟨by rw [HA6.out]; rfl, (by repeat (first | exact Below.refl _ _ | refine Below.drew ?_ | refine below_drewN ?_ _ | refine Below.alloc ?_ (by first | exact Nat.le_refl _ | (simp; done) | (simp; omega) | omega) _ | refine Below.setCell ?_ (by first | exact Nat.le_refl _ | (simp; done) | (simp; omega) | omega) _ | refine bExtW ?_ (by first | exact Nat.le_refl _ | (simp; done) | (simp; omega) | omega) | refine Below.trans ?_ (Below.mono (by assumption) (by first | exact Nat.le_refl _ | (simp; done) | (simp; omega) | omega))))⟩
        · have z4 : (x1 == (wv : Int) + 1) = false := by simpa using hx
          have z5 := z4
          first | (simp only [Int.zero_add] at z5) | clear z5
          have HA6 : Hid (av = 0) := Lib.hid (by rw [← HAV.out, if_neg hwH, if_neg (by first | exact hx | (simpa using hx))])
          clear hwH hx
          go_enter Try.func18, Try.ntmps18
          go_wp2_with fail
          (refine wp_region_ext (by kernel_rfl) (by kernel_rfl) ?_; (repeat (first | ((with_reducible refine ext_step (fun K hK => ?_)); go_simp; first | (refine hK _ ?_; clear hK K) | (apply Exists.intro; refine ⟨fun _ _ => ?_, hK _ ?_⟩; fail; clear hK K)))); refine wpQuiet_nil ?_; intro E d)
          go_wp2_with fail
          (refine wp_region_ext (by kernel_rfl) (by kernel_rfl) ?_; (repeat (first | ((with_reducible refine ext_step (fun K hK => ?_)); go_simp; first | (refine hK _ ?_; clear hK K) | (apply Exists.intro; refine ⟨fun _ _ => ?_, hK _ ?_⟩; fail; clear hK K)))); refine wpQuiet_nil ?_; intro E d)
          go_wp2
          refine bodyPost_ret (v := .agg #[.int .i64 ((wv : Int)), .int .i64 (0), .bool false, .bool false]) (by simp [results, Try.results18, go_sem]) rfl ?_
          exact ⟨by rw [HA6.out]; rfl, (by repeat (first | exact Below.refl _ _ | refine Below.drew ?_ | refine below_drewN ?_ _ | refine Below.alloc ?_ (by first | exact Nat.le_refl _ | (simp; done) | (simp; omega) | omega) _ | refine Below.setCell ?_ (by first | exact Nat.le_refl _ | (simp; done) | (simp; omega) | omega) _ | refine bExtW ?_ (by first | exact Nat.le_refl _ | (simp; done) | (simp; omega) | omega) | refine Below.trans ?_ (Below.mono (by assumption) (by first | exact Nat.le_refl _ | (simp; done) | (simp; omega) | omega))))⟩
    · have hwk : wv = 0 := by rw [hwe, if_neg (by omega)]
      subst hwk
      have t1 : decide ((k : Int) ≥ 0) = true := by simp
      have t3 : decide ((k : Int) ≤ (H : Int)) = false := by simp; omega
      have t4 : decide (k ≤ H) = false := by simpa using hk
      clear hwe
      by_cases hwH : 0 = H
      · have z1 : (((0 : Nat) : Int) == (H : Int)) = true := by simp; omega
        have z2 : ((0 : Int) == (H : Int)) = true := by simp; omega
        have z3 : (0 == H) = true := by simp; omega
        have HA6 : Hid (av = 6) := Lib.hid (by rw [← HAV.out, if_pos hwH])
        clear hwH
        go_enter Try.func18, Try.ntmps18
        go_wp2_with fail
        (refine wp_region_ext (by kernel_rfl) (by kernel_rfl) ?_; (repeat (first | ((with_reducible refine ext_step (fun K hK => ?_)); go_simp; first | (refine hK _ ?_; clear hK K) | (apply Exists.intro; refine ⟨fun _ _ => ?_, hK _ ?_⟩; fail; clear hK K)))); refine wpQuiet_nil ?_; intro E d)
        go_wp2_with fail
        go_wp2
        refine bodyPost_ret (v := .agg #[.int .i64 ((0 : Int)), .int .i64 (6), .bool false, .bool false]) (by simp [results, Try.results18, go_sem]) rfl ?_
        exact ⟨by rw [HA6.out]; rfl, (by repeat (first | exact Below.refl _ _ | refine Below.drew ?_ | refine below_drewN ?_ _ | refine Below.alloc ?_ (by first | exact Nat.le_refl _ | (simp; done) | (simp; omega) | omega) _ | refine Below.setCell ?_ (by first | exact Nat.le_refl _ | (simp; done) | (simp; omega) | omega) _ | refine bExtW ?_ (by first | exact Nat.le_refl _ | (simp; done) | (simp; omega) | omega) | refine Below.trans ?_ (Below.mono (by assumption) (by first | exact Nat.le_refl _ | (simp; done) | (simp; omega) | omega))))⟩
      · have z1 : (((0 : Nat) : Int) == (H : Int)) = false := by simp; omega
        have z2 : ((0 : Int) == (H : Int)) = false := by simp; omega
        have z3 : (0 == H) = false := by simp; omega
        have vw : IntKind.i64.wrap (1 : Int) = 1 := IntWalk.i64_in _ (by omega)
        have vv : IntKind.i64.wrap ((0 : Int) + 1) = (0 : Int) + 1 := IntWalk.i64_in _ (by omega)
        by_cases hx : x1 = (0 : Int) + 1
        · have z4 : (x1 == (0 : Int) + 1) = true := by simpa using hx
          have z5 := z4
          first | (simp only [Int.zero_add] at z5) | clear z5
          have HA6 : Hid (av = 5) := Lib.hid (by rw [← HAV.out, if_neg hwH, if_pos (by first | exact hx | (simpa using hx))])
          clear hwH hx
          go_enter Try.func18, Try.ntmps18
          go_wp2_with fail
          (refine wp_region_ext (by kernel_rfl) (by kernel_rfl) ?_; (repeat (first | ((with_reducible refine ext_step (fun K hK => ?_)); go_simp; first | (refine hK _ ?_; clear hK K) | (apply Exists.intro; refine ⟨fun _ _ => ?_, hK _ ?_⟩; fail; clear hK K)))); refine wpQuiet_nil ?_; intro E d)
          go_wp2_with fail
          (refine wp_region_ext (by kernel_rfl) (by kernel_rfl) ?_; (repeat (first | ((with_reducible refine ext_step (fun K hK => ?_)); go_simp; first | (refine hK _ ?_; clear hK K) | (apply Exists.intro; refine ⟨fun _ _ => ?_, hK _ ?_⟩; fail; clear hK K)))); refine wpQuiet_nil ?_; intro E d)
          go_wp2
          refine bodyPost_ret (v := .agg #[.int .i64 ((0 : Int)), .int .i64 (5), .bool false, .bool false]) (by simp [results, Try.results18, go_sem]) rfl ?_
          exact ⟨by rw [HA6.out]; rfl, (by repeat (first | exact Below.refl _ _ | refine Below.drew ?_ | refine below_drewN ?_ _ | refine Below.alloc ?_ (by first | exact Nat.le_refl _ | (simp; done) | (simp; omega) | omega) _ | refine Below.setCell ?_ (by first | exact Nat.le_refl _ | (simp; done) | (simp; omega) | omega) _ | refine bExtW ?_ (by first | exact Nat.le_refl _ | (simp; done) | (simp; omega) | omega) | refine Below.trans ?_ (Below.mono (by assumption) (by first | exact Nat.le_refl _ | (simp; done) | (simp; omega) | omega))))⟩
        · have z4 : (x1 == (0 : Int) + 1) = false := by simpa using hx
          have z5 := z4
          first | (simp only [Int.zero_add] at z5) | clear z5
          have HA6 : Hid (av = 0) := Lib.hid (by rw [← HAV.out, if_neg hwH, if_neg (by first | exact hx | (simpa using hx))])
          clear hwH hx
          go_enter Try.func18, Try.ntmps18
          go_wp2_with fail
          (refine wp_region_ext (by kernel_rfl) (by kernel_rfl) ?_; (repeat (first | ((with_reducible refine ext_step (fun K hK => ?_)); go_simp; first | (refine hK _ ?_; clear hK K) | (apply Exists.intro; refine ⟨fun _ _ => ?_, hK _ ?_⟩; fail; clear hK K)))); refine wpQuiet_nil ?_; intro E d)
          go_wp2_with fail
          (refine wp_region_ext (by kernel_rfl) (by kernel_rfl) ?_; (repeat (first | ((with_reducible refine ext_step (fun K hK => ?_)); go_simp; first | (refine hK _ ?_; clear hK K) | (apply Exists.intro; refine ⟨fun _ _ => ?_, hK _ ?_⟩; fail; clear hK K)))); refine wpQuiet_nil ?_; intro E d)
          go_wp2
          refine bodyPost_ret (v := .agg #[.int .i64 ((0 : Int)), .int .i64 (0), .bool false, .bool false]) (by simp [results, Try.results18, go_sem]) rfl ?_
          exact ⟨by rw [HA6.out]; rfl, (by repeat (first | exact Below.refl _ _ | refine Below.drew ?_ | refine below_drewN ?_ _ | refine Below.alloc ?_ (by first | exact Nat.le_refl _ | (simp; done) | (simp; omega) | omega) _ | refine Below.setCell ?_ (by first | exact Nat.le_refl _ | (simp; done) | (simp; omega) | omega) _ | refine bExtW ?_ (by first | exact Nat.le_refl _ | (simp; done) | (simp; omega) | omega) | refine Below.trans ?_ (Below.mono (by assumption) (by first | exact Nat.le_refl _ | (simp; done) | (simp; omega) | omega))))⟩
  · have hwk : wv = 0 := by rw [hwe, if_neg (by omega)]
    subst hwk
    have t1 : decide (x0 ≥ 0) = false := by simp; omega
    have t2 : decide (0 ≤ x0) = false := by simp; omega
    clear hwe
    by_cases hwH : 0 = H
    · have z1 : (((0 : Nat) : Int) == (H : Int)) = true := by simp; omega
      have z2 : ((0 : Int) == (H : Int)) = true := by simp; omega
      have z3 : (0 == H) = true := by simp; omega
      have HA6 : Hid (av = 6) := Lib.hid (by rw [← HAV.out, if_pos hwH])
      clear hwH
      go_enter Try.func18, Try.ntmps18
      go_wp2_with fail
      (refine wp_region_ext (by kernel_rfl) (by kernel_rfl) ?_; (repeat (first | ((with_reducible refine ext_step (fun K hK => ?_)); go_simp; first | (refine hK _ ?_; clear hK K) | (apply Exists.intro; refine ⟨fun _ _ => ?_, hK _ ?_⟩; fail; clear hK K)))); refine wpQuiet_nil ?_; intro E d)
      go_wp2_with fail
      go_wp2
      refine bodyPost_ret (v := .agg #[.int .i64 ((0 : Int)), .int .i64 (6), .bool false, .bool false]) (by simp [results, Try.results18, go_sem]) rfl ?_
      exact ⟨by rw [HA6.out]; rfl, (by repeat (first | exact Below.refl _ _ | refine Below.drew ?_ | refine below_drewN ?_ _ | refine Below.alloc ?_ (by first | exact Nat.le_refl _ | (simp; done) | (simp; omega) | omega) _ | refine Below.setCell ?_ (by first | exact Nat.le_refl _ | (simp; done) | (simp; omega) | omega) _ | refine bExtW ?_ (by first | exact Nat.le_refl _ | (simp; done) | (simp; omega) | omega) | refine Below.trans ?_ (Below.mono (by assumption) (by first | exact Nat.le_refl _ | (simp; done) | (simp; omega) | omega))))⟩
    · have z1 : (((0 : Nat) : Int) == (H : Int)) = false := by simp; omega
      have z2 : ((0 : Int) == (H : Int)) = false := by simp; omega
      have z3 : (0 == H) = false := by simp; omega
      have vw : IntKind.i64.wrap (1 : Int) = 1 := IntWalk.i64_in _ (by omega)
      have vv : IntKind.i64.wrap ((0 : Int) + 1) = (0 : Int) + 1 := IntWalk.i64_in _ (by omega)
      by_cases hx : x1 = (0 : Int) + 1
      · have z4 : (x1 == (0 : Int) + 1) = true := by simpa using hx
        have z5 := z4
        first | (simp only [Int.zero_add] at z5) | clear z5
        have HA6 : Hid (av = 5) := Lib.hid (by rw [← HAV.out, if_neg hwH, if_pos (by first | exact hx | (simpa using hx))])
        clear hwH hx
        go_enter Try.func18, Try.ntmps18
        go_wp2_with fail
        (refine wp_region_ext (by kernel_rfl) (by kernel_rfl) ?_; (repeat (first | ((with_reducible refine ext_step (fun K hK => ?_)); go_simp; first | (refine hK _ ?_; clear hK K) | (apply Exists.intro; refine ⟨fun _ _ => ?_, hK _ ?_⟩; fail; clear hK K)))); refine wpQuiet_nil ?_; intro E d)
        go_wp2_with fail
        (refine wp_region_ext (by kernel_rfl) (by kernel_rfl) ?_; (repeat (first | ((with_reducible refine ext_step (fun K hK => ?_)); go_simp; first | (refine hK _ ?_; clear hK K) | (apply Exists.intro; refine ⟨fun _ _ => ?_, hK _ ?_⟩; fail; clear hK K)))); refine wpQuiet_nil ?_; intro E d)
        go_wp2
        refine bodyPost_ret (v := .agg #[.int .i64 ((0 : Int)), .int .i64 (5), .bool false, .bool false]) (by simp [results, Try.results18, go_sem]) rfl ?_
        exact ⟨by rw [HA6.out]; rfl, (by repeat (first | exact Below.refl _ _ | refine Below.drew ?_ | refine below_drewN ?_ _ | refine Below.alloc ?_ (by first | exact Nat.le_refl _ | (simp; done) | (simp; omega) | omega) _ | refine Below.setCell ?_ (by first | exact Nat.le_refl _ | (simp; done) | (simp; omega) | omega) _ | refine bExtW ?_ (by first | exact Nat.le_refl _ | (simp; done) | (simp; omega) | omega) | refine Below.trans ?_ (Below.mono (by assumption) (by first | exact Nat.le_refl _ | (simp; done) | (simp; omega) | omega))))⟩
      · have z4 : (x1 == (0 : Int) + 1) = false := by simpa using hx
        have z5 := z4
        first | (simp only [Int.zero_add] at z5) | clear z5
        have HA6 : Hid (av = 0) := Lib.hid (by rw [← HAV.out, if_neg hwH, if_neg (by first | exact hx | (simpa using hx))])
        clear hwH hx
        go_enter Try.func18, Try.ntmps18
        go_wp2_with fail
        (refine wp_region_ext (by kernel_rfl) (by kernel_rfl) ?_; (repeat (first | ((with_reducible refine ext_step (fun K hK => ?_)); go_simp; first | (refine hK _ ?_; clear hK K) | (apply Exists.intro; refine ⟨fun _ _ => ?_, hK _ ?_⟩; fail; clear hK K)))); refine wpQuiet_nil ?_; intro E d)
        go_wp2_with fail
        (refine wp_region_ext (by kernel_rfl) (by kernel_rfl) ?_; (repeat (first | ((with_reducible refine ext_step (fun K hK => ?_)); go_simp; first | (refine hK _ ?_; clear hK K) | (apply Exists.intro; refine ⟨fun _ _ => ?_, hK _ ?_⟩; fail; clear hK K)))); refine wpQuiet_nil ?_; intro E d)
        go_wp2
        refine bodyPost_ret (v := .agg #[.int .i64 ((0 : Int)), .int .i64 (0), .bool false, .bool false]) (by simp [results, Try.results18, go_sem]) rfl ?_
        exact ⟨by rw [HA6.out]; rfl, (by repeat (first | exact Below.refl _ _ | refine Below.drew ?_ | refine below_drewN ?_ _ | refine Below.alloc ?_ (by first | exact Nat.le_refl _ | (simp; done) | (simp; omega) | omega) _ | refine Below.setCell ?_ (by first | exact Nat.le_refl _ | (simp; done) | (simp; omega) | omega) _ | refine bExtW ?_ (by first | exact Nat.le_refl _ | (simp; done) | (simp; omega) | omega) | refine Below.trans ?_ (Below.mono (by assumption) (by first | exact Nat.le_refl _ | (simp; done) | (simp; omega) | omega))))⟩
end Go.Proofs.Ytefmlepogpjhmaa
