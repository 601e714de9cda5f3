/- Chapter 13: puzzle.ok. -/
import Derived.Test.YtoooihoaapfjeaaPs2
namespace Go.Proofs.Ytoooihoaapfjeaa
open Go.RowKit
set_option linter.unusedVariables false
set_option linter.unusedSimpArgs false
open Ps
def pzF (ta : Option Addr) (tn tc : Nat) (sl : Int) : Nat → Value := fun j => if j = 0 then .slice ta tn tc else .int .i64 sl
theorem pzF_alloc (w : World) (ta : Option Addr) (tn tc : Nat) (sl : Int) : (w.alloc (.cells #[.slice ta tn tc, .int .i64 sl] 35)).rowIs w.heap.size 35 2 (pzF ta tn tc sl) :=
  World.rowIs_alloc w #[.slice ta tn tc, .int .i64 sl] 35 _ (by
    intro i hi
    have hi2 : i = 0 ∨ i = 1 := by simp at hi; omega
    rcases hi2 with rfl | rfl <;> rfl)
set_option maxRecDepth 100000 in
set_option maxHeartbeats 8000000 in
theorem ok_any (ta : Option Addr) (tn tc : Nat) (to : List Int) (sl : Int) (a : Option Addr) (n c : Nat) (zs : List Int) (w : World) (hT : IsInts w ta tn to) (hI : IsInts w a n zs) (hl : tn = n) (hn : n ≤ 100) (hs : 1 ≤ sl ∧ sl ≤ 11) :
    Calls Try.prog 18 #[.agg #[.slice ta tn tc, .int .i64 sl], .slice a n c] w fun e w' => e = .returned (.bool (decide (okS to sl zs))) ∧ Below w.heap.size w w' := by
  subst hl
  have HI := Lib.hid hI; have HT := Lib.hid hT; have HL := Lib.hid hI.1
  obtain ⟨R, hR⟩ : ∃ R, decide (okS to sl zs) = R := ⟨_, rfl⟩
  rw [hR]
  have HR := Lib.hid hR
  clear hI hT hR
  go_enter Try.func18, Try.ntmps18
  have hp := pzF_alloc w ta tn tc sl
  have hb0 : Below w.heap.size w (w.alloc (.cells #[.slice ta tn tc, .int .i64 sl] 35)) := (by repeat (first | exact Below.refl _ _ | refine Below.drew ?_ | refine below_drewN ?_ _ | refine Below.alloc ?_ (by first | exact Nat.le_refl _ | (simp; done) | (simp; omega) | omega) _ | refine Below.setCell ?_ (by first | exact Nat.le_refl _ | (simp; done) | (simp; omega) | omega) _ | refine bExtW ?_ (by first | exact Nat.le_refl _ | (simp; done) | (simp; omega) | omega) | refine Below.trans ?_ (Below.mono (by assumption) (by first | exact Nat.le_refl _ | (simp; done) | (simp; omega) | omega))))
  have HP := Lib.hid hp; have HB0 := Lib.hid hb0
  clear hp hb0
  go_wp2_with fail
  generalize w.alloc (.cells #[.slice ta tn tc, .int .i64 sl] 35) = w1 at *
  go_loopw [10] (fun iv wr => ∃ k : Nat, k ≤ tn ∧ iv = .int .i64 k ∧ Hid (∀ i, i < k → okAt to sl zs i) ∧ Hid (Below w1.heap.size w1 wr)) (fun iv _ => tn - (intOf iv).toNat)
  case atStart => exact ⟨0, by omega, rfl, Lib.hid (fun i hi => absurd hi (by omega)), Lib.hid (Below.refl _ _)⟩
  case round =>
    obtain ⟨k, hk, rfl, HK, HBR⟩ := hrel
    have HBW : Hid (Below w.heap.size w wr) := Lib.hid (HB0.out.trans (HBR.out.mono HB0.out.size))
    by_cases hkn : k < tn
    · obtain ⟨b, o, rfl, hbl, hc⟩ := (HI.out.below HBW.out).2 (by omega)
      obtain ⟨b2, o2, rfl, hbl2, hc2⟩ := (HT.out.below HBW.out).2 (by omega)
      have hp := rowBelow HP.out HBR.out HP.out.lt
      have p0 : wr.cell? ⟨w.heap.size, 0, none⟩ = some (.slice (some ⟨b2, o2, none⟩) tn tc) := hp.cell (i := 0) (by omega)
      have p1 : wr.cell? ⟨w.heap.size, 1, none⟩ = some (.int .i64 (sl)) := hp.cell (i := 1) (by omega)
      have lp : LtW w.heap.size wr := hp.lt
      have lb : LtW b wr := hbl
      have lb2 : LtW b2 wr := hbl2
      have dk : decide ((k : Int) < (tn : Int)) = true := by simp; omega
      have dk' : decide (k < tn) = true := by simpa using hkn
      have c0 := hc k hkn
      have HDEF : Hid (okAt to sl zs k ↔ (0 ≤ zs.getD k 0 ∧ zs.getD k 0 < 12 ∧ (0 < k → zs.getD (k - 1) 0 ≤ zs.getD k 0 ∧ zs.getD k 0 - zs.getD (k - 1) 0 ≤ sl ∧ (zs.getD k 0 = zs.getD (k - 1) 0 → to.getD k 0 = to.getD (k - 1) 0)))) := Lib.hid Iff.rfl
      have HNO : Hid (¬ okAt to sl zs k → R = false) := Lib.hid (fun h => by
        rw [← HR.out]
        exact decide_eq_false fun h9 => h (h9 k (by rw [HL.out]; exact hkn)))
      have HYES : Hid (okAt to sl zs k → ∀ i, i < k + 1 → okAt to sl zs i) := Lib.hid (fun h i hi => by
        by_cases e : i = k
        · subst e; exact h
        · exact HK.out i (by omega))
      clear hp hbl hbl2
      obtain ⟨x, hx⟩ : ∃ x, zs.getD k 0 = x := ⟨_, rfl⟩
      rw [hx] at c0 HDEF
      by_cases h0 : x < 0
      · have HD : Hid (R = false) := Lib.hid (HNO.out (fun h => by have := HDEF.out.1 h; omega))
        have b0 : decide (x < 0) = true := by simpa using h0
        clear h0 hx hc hc2
        go_wp2
        go_ret
        exact ⟨by rw [HD.out] <;> rfl, HBW.out⟩
      · have b0 : decide (x < 0) = false := by simpa using h0
        by_cases h12 : 12 ≤ x
        · have HD : Hid (R = false) := Lib.hid (HNO.out (fun h => by have := HDEF.out.1 h; omega))
          have b1 : decide (12 ≤ x) = true := by simpa using h12
          clear h0 h12 hx hc hc2
          go_wp2
          go_ret
          exact ⟨by rw [HD.out] <;> rfl, HBW.out⟩
        · have b1 : decide (12 ≤ x) = false := by simpa using h12
          rcases Nat.eq_zero_or_pos k with hk0 | hk0
          · subst hk0
            have HOK : Hid (∀ i, i < 0 + 1 → okAt to sl zs i) := Lib.hid (HYES.out (HDEF.out.2 ⟨by omega, by omega, fun h => absurd h (by omega)⟩))
            simp only [Nat.add_zero] at c0
            clear h0 h12 hx hc hc2
            go_wp2
            go_roundw
            case rel => exact ⟨_, by omega, by go_num, HOK, HBR⟩
            case measure => simp [intOf]; omega
          · obtain ⟨j, rfl⟩ : ∃ j, k = j + 1 := ⟨k - 1, by omega⟩
            have cp := hc j (by omega)
            have ct := hc2 (j + 1) hkn
            have ct1 := hc2 j (by omega)
            have hy := (HK.out j (by omega))
            have hy0 : 0 ≤ zs.getD j 0 ∧ zs.getD j 0 < 12 := ⟨hy.1, hy.2.1⟩
            simp only [Nat.add_sub_cancel] at HDEF
            obtain ⟨y, hyy⟩ : ∃ y, zs.getD j 0 = y := ⟨_, rfl⟩
            rw [hyy] at cp HDEF hy0
            generalize to.getD (j + 1) 0 = t1 at *
            generalize to.getD j 0 = t0 at *
            have v1 : IntKind.i64.wrap (x - y) = x - y := IntWalk.i64_in _ (by omega)
            have v2 : IntKind.i64.wrap (j : Int) = (j : Int) := IntWalk.i64_in _ (by omega)
            have v3 : IntKind.i64.wrap ((j : Int) + 1 - 1) = (j : Int) := by rw [Int.add_sub_cancel]; exact v2
            have e0 : ((j : Int) + 1 == 0) = false := by simp; omega
            have g1 : (j : Int) < (tn : Int) := by omega
            have g2 : (j : Int) + 1 < (tn : Int) := by omega
            have g3 : (0 : Int) ≤ (j : Int) + 1 := by omega
            have g4 : ((j : Int) + 1).toNat = j + 1 := by omega
            have g5 : ¬ ((j : Int) + 1 < 0) := by omega
            have hb12 : 0 ≤ x ∧ x < 12 := by omega
            clear h0 h12 hx hc hc2 hyy hy
            by_cases hd : x - y < 0
            · have HD : Hid (R = false) := Lib.hid (HNO.out (fun h => by have := (HDEF.out.1 h).2.2 (by omega); omega))
              have d0 : decide (x - y < 0) = true := by simpa using hd
              clear hd
              go_wp2_with fail
              (refine wp_region_ext (by kernel_rfl) (by kernel_rfl) ?_; (repeat (first | ((with_reducible refine ext_step (fun K hK => ?_)); go_simp; first | (refine hK _ ?_; clear hK K) | (apply Exists.intro; refine ⟨fun _ _ => ?_, hK _ ?_⟩; fail; clear hK K)))); refine wpQuiet_nil ?_; intro E d)
              have HBR2 : Hid (Below w1.heap.size w1 (extW wr E d)) := Lib.hid (bExtW HBR.out HBR.out.size)
              have HBW2 : Hid (Below w.heap.size w (extW wr E d)) := Lib.hid (bExtW HBW.out HBW.out.size)
              clear HBR HBW c0 cp ct ct1 p0 p1 lp lb lb2
              have HBR := HBR2
              have HBW := HBW2
              generalize extW wr E d = w5 at *
              go_wp2
              go_ret
              exact ⟨by rw [HD.out] <;> rfl, HBW.out⟩
            · have d0 : decide (x - y < 0) = false := by simpa using hd
              by_cases hsl : sl < x - y
              · have HD : Hid (R = false) := Lib.hid (HNO.out (fun h => by have := (HDEF.out.1 h).2.2 (by omega); omega))
                have d1 : decide (sl < x - y) = true := by simpa using hsl
                clear hd hsl
                go_wp2_with fail
                (refine wp_region_ext (by kernel_rfl) (by kernel_rfl) ?_; (repeat (first | ((with_reducible refine ext_step (fun K hK => ?_)); go_simp; first | (refine hK _ ?_; clear hK K) | (apply Exists.intro; refine ⟨fun _ _ => ?_, hK _ ?_⟩; fail; clear hK K)))); refine wpQuiet_nil ?_; intro E d)
                have HBR2 : Hid (Below w1.heap.size w1 (extW wr E d)) := Lib.hid (bExtW HBR.out HBR.out.size)
                have HBW2 : Hid (Below w.heap.size w (extW wr E d)) := Lib.hid (bExtW HBW.out HBW.out.size)
                clear HBR HBW c0 cp ct ct1 p0 p1 lp lb lb2
                have HBR := HBR2
                have HBW := HBW2
                generalize extW wr E d = w5 at *
                go_wp2
                go_ret
                exact ⟨by rw [HD.out] <;> rfl, HBW.out⟩
              · have d1 : decide (sl < x - y) = false := by simpa using hsl
                by_cases hz : x - y = 0
                · have hxy : y = x := by omega
                  subst hxy
                  have hs0 : decide (sl < 0) = false := by simp; omega
                  clear v1 d0 d1 hd hsl hz
                  by_cases ht : t1 = t0
                  · have d3 : (t1 == t0) = true := by simpa using ht
                    have d4 : (t1 != t0) = false := by simpa using ht
                    have HOK : Hid (∀ i, i < j + 1 + 1 → okAt to sl zs i) := Lib.hid (HYES.out (HDEF.out.2 ⟨by have := hb12; omega, by have := hb12; omega, fun _ => ⟨by omega, by omega, fun _ => ht⟩⟩))
                    clear ht hb12
                    go_wp2_with fail
                    (refine wp_region_ext (by kernel_rfl) (by kernel_rfl) ?_; (repeat (first | ((with_reducible refine ext_step (fun K hK => ?_)); go_simp; first | (refine hK _ ?_; clear hK K) | (apply Exists.intro; refine ⟨fun _ _ => ?_, hK _ ?_⟩; fail; clear hK K)))); refine wpQuiet_nil ?_; intro E d)
                    have HBR2 : Hid (Below w1.heap.size w1 (extW wr E d)) := Lib.hid (bExtW HBR.out HBR.out.size)
                    have HBW2 : Hid (Below w.heap.size w (extW wr E d)) := Lib.hid (bExtW HBW.out HBW.out.size)
                    clear HBR HBW c0 cp ct ct1 p0 p1 lp lb lb2
                    have HBR := HBR2
                    have HBW := HBW2
                    generalize extW wr E d = w5 at *
                    go_wp2
                    go_roundw
                    case rel => exact ⟨_, by omega, by go_num, HOK, HBR⟩
                    case measure => simp [intOf]; omega
                  · have d4 : (t1 != t0) = true := by simpa using ht
                    have d3 : (t1 == t0) = false := by simpa using ht
                    have HD : Hid (R = false) := Lib.hid (HNO.out (fun h => ht (((HDEF.out.1 h).2.2 (by omega)).2.2 (by omega))))
                    clear ht hb12
                    go_wp2_with fail
                    (refine wp_region_ext (by kernel_rfl) (by kernel_rfl) ?_; (repeat (first | ((with_reducible refine ext_step (fun K hK => ?_)); go_simp; first | (refine hK _ ?_; clear hK K) | (apply Exists.intro; refine ⟨fun _ _ => ?_, hK _ ?_⟩; fail; clear hK K)))); refine wpQuiet_nil ?_; intro E d)
                    have HBR2 : Hid (Below w1.heap.size w1 (extW wr E d)) := Lib.hid (bExtW HBR.out HBR.out.size)
                    have HBW2 : Hid (Below w.heap.size w (extW wr E d)) := Lib.hid (bExtW HBW.out HBW.out.size)
                    clear HBR HBW c0 cp ct ct1 p0 p1 lp lb lb2
                    have HBR := HBR2
                    have HBW := HBW2
                    generalize extW wr E d = w5 at *
                    go_wp2
                    go_ret
                    exact ⟨by rw [HD.out] <;> rfl, HBW.out⟩
                · have d2 : (x - y == 0) = false := by simpa using hz
                  have HOK : Hid (∀ i, i < j + 1 + 1 → okAt to sl zs i) := Lib.hid (HYES.out (HDEF.out.2 ⟨by have := hb12; omega, by have := hb12; omega, fun _ => ⟨by omega, by omega, fun h => absurd h (by omega)⟩⟩))
                  clear hd hsl hz hb12
                  go_wp2_with fail
                  (refine wp_region_ext (by kernel_rfl) (by kernel_rfl) ?_; (repeat (first | ((with_reducible refine ext_step (fun K hK => ?_)); go_simp; first | (refine hK _ ?_; clear hK K) | (apply Exists.intro; refine ⟨fun _ _ => ?_, hK _ ?_⟩; fail; clear hK K)))); refine wpQuiet_nil ?_; intro E d)
                  have HBR2 : Hid (Below w1.heap.size w1 (extW wr E d)) := Lib.hid (bExtW HBR.out HBR.out.size)
                  have HBW2 : Hid (Below w.heap.size w (extW wr E d)) := Lib.hid (bExtW HBW.out HBW.out.size)
                  clear HBR HBW c0 cp ct ct1 p0 p1 lp lb lb2
                  have HBR := HBR2
                  have HBW := HBW2
                  generalize extW wr E d = w5 at *
                  go_wp2
                  go_roundw
                  case rel => exact ⟨_, by omega, by go_num, HOK, HBR⟩
                  case measure => simp [intOf]; omega
    · obtain rfl : k = tn := by omega
      have dk : decide ((k : Int) < (k : Int)) = false := by simp
      have HD : Hid (R = true) := Lib.hid (by
        rw [← HR.out]
        exact decide_eq_true fun i hi => HK.out i (by rw [HL.out] at hi; exact hi))
      go_wp2
      go_ret
      exact ⟨by rw [HD.out] <;> rfl, HBW.out⟩
end Go.Proofs.Ytoooihoaapfjeaa
