/- Lemmas and contracts of functions (what each call returns, and that it changes nothing that was there) that the proof of a law of this seat uses; each lemma states its own conditions. -/
import Derived.Test.YtoooihoaapfjeaaB07
namespace Go.Proofs.Ytoooihoaapfjeaa
open Go.RowKit
set_option linter.unusedVariables false
set_option linter.unusedSimpArgs false
open Ps
def pzF (ta : Option Addr) (tn tc : Nat) (sl : Int) : Nat → Value := fun j => if j = 0 then .slice ta tn tc else .int .i64 sl
theorem pzF_alloc (w : World) (ta : Option Addr) (tn tc : Nat) (sl : Int) : (w.alloc (.cells #[.slice ta tn tc, .int .i64 sl] 35)).rowIs w.heap.size 35 2 (pzF ta tn tc sl) :=
  World.rowIs_alloc w #[.slice ta tn tc, .int .i64 sl] 35 _ (by
    intro i hi
    have hi2 : i = 0 ∨ i = 1 := by simp at hi; omega
    rcases hi2 with rfl | rfl <;> rfl)
set_option maxRecDepth 100000 in
set_option maxHeartbeats 8000000 in
theorem ok_any (ta : Option Addr) (tn tc : Nat) (to : List Int) (sl : Int) (a : Option Addr) (n c : Nat) (zs : List Int) (w : World) (hT : IsInts w ta tn to) (hI : IsInts w a n zs) (hl : tn = n) (hn : n ≤ 100) (hs : 1 ≤ sl ∧ sl ≤ 11) :
    Calls Try.prog 18 #[.agg #[.slice ta tn tc, .int .i64 sl], .slice a n c] w fun e w' => e = .returned (.bool (decide (okS to sl zs))) ∧ Below w.heap.size w w' := by
  subst hl
  have HI := Lib.hid hI; have HT := Lib.hid hT; have HL := Lib.hid hI.1
  obtain ⟨R, hR⟩ : ∃ R, decide (okS to sl zs) = R := ⟨_, rfl⟩
  rw [hR]
  have HR := Lib.hid hR
  clear hI hT hR
  go_enter Try.func18, Try.ntmps18
  have hp := pzF_alloc w ta tn tc sl
  have hb0 : Below w.heap.size w (w.alloc (.cells #[.slice ta tn tc, .int .i64 sl] 35)) := (by repeat (first | exact Below.refl _ _ | refine Below.drew ?_ | refine below_drewN ?_ _ | refine Below.alloc ?_ (by first | exact Nat.le_refl _ | (simp; done) | (simp; omega) | omega) _ | refine Below.setCell ?_ (by first | exact Nat.le_refl _ | (simp; done) | (simp; omega) | omega) _ | refine bExtW ?_ (by first | exact Nat.le_refl _ | (simp; done) | (simp; omega) | omega) | refine Below.trans ?_ (Below.mono (by assumption) (by first | exact Nat.le_refl _ | (simp; done) | (simp; omega) | omega))))
  have HP := Lib.hid hp; have HB0 := Lib.hid hb0
  clear hp hb0
  go_wp2_with fail
  generalize w.alloc (.cells #[.slice ta tn tc, .int .i64 sl] 35) = w1 at *
  go_loopw [10] (fun iv wr => ∃ k : Nat, k ≤ tn ∧ iv = .int .i64 k ∧ Hid (∀ i, i < k → okAt to sl zs i) ∧ Hid (Below w1.heap.size w1 wr)) (fun iv _ => tn - (intOf iv).toNat)
  case atStart => exact ⟨0, by omega, rfl, Lib.hid (fun i hi => absurd hi (by omega)), Lib.hid (Below.refl _ _)⟩
  case round =>
    obtain ⟨k, hk, rfl, HK, HBR⟩ := hrel
    have HBW : Hid (Below w.heap.size w wr) := Lib.hid (HB0.out.trans (HBR.out.mono HB0.out.size))
    by_cases hkn : k < tn
    · obtain ⟨b, o, rfl, hbl, hc⟩ := (HI.out.below HBW.out).2 (by omega)
      obtain ⟨b2, o2, rfl, hbl2, hc2⟩ := (HT.out.below HBW.out).2 (by omega)
      have hp := rowBelow HP.out HBR.out HP.out.lt
      have p0 : wr.cell? ⟨w.heap.size, 0, none⟩ = some (.slice (some ⟨b2, o2, none⟩) tn tc) := hp.cell (i := 0) (by omega)
      have p1 : wr.cell? ⟨w.heap.size, 1, none⟩ = some (.int .i64 (sl)) := hp.cell (i := 1) (by omega)
      have lp : LtW w.heap.size wr := hp.lt
      have lb : LtW b wr := hbl
      have lb2 : LtW b2 wr := hbl2
      have dk : decide ((k : Int) < (tn : Int)) = true := by simp; omega
      have dk' : decide (k < tn) = true := by simpa using hkn
      have c0 := hc k hkn
      have HDEF : Hid (okAt to sl zs k ↔ (0 ≤ zs.getD k 0 ∧ zs.getD k 0 < 12 ∧ (0 < k → zs.getD (k - 1) 0 ≤ zs.getD k 0 ∧ zs.getD k 0 - zs.getD (k - 1) 0 ≤ sl ∧ (zs.getD k 0 = zs.getD (k - 1) 0 → to.getD k 0 = to.getD (k - 1) 0)))) := Lib.hid Iff.rfl
      have HNO : Hid (¬ okAt to sl zs k → R = false) := Lib.hid (fun h => by
        rw [← HR.out]
        exact decide_eq_false fun h9 => h (h9 k (by rw [HL.out]; exact hkn)))
      have HYES : Hid (okAt to sl zs k → ∀ i, i < k + 1 → okAt to sl zs i) := Lib.hid (fun h i hi => by
        by_cases e : i = k
        · subst e; exact h
        · exact HK.out i (by omega))
      clear hp hbl hbl2
      obtain ⟨x, hx⟩ : ∃ x, zs.getD k 0 = x := ⟨_, rfl⟩
      rw [hx] at c0 HDEF
      by_cases h0 : x < 0
      · have HD : Hid (R = false) := Lib.hid (HNO.out (fun h => by have := HDEF.out.1 h; omega))
        have b0 : decide (x < 0) = true := by simpa using h0
        clear h0 hx hc hc2
        go_wp2
        go_ret
        exact ⟨by rw [HD.out] <;> rfl, HBW.out⟩
      · have b0 : decide (x < 0) = false := by simpa using h0
        by_cases h12 : 12 ≤ x
        · have HD : Hid (R = false) := Lib.hid (HNO.out (fun h => by have := HDEF.out.1 h; omega))
          have b1 : decide (12 ≤ x) = true := by simpa using h12
          clear h0 h12 hx hc hc2
          go_wp2
          go_ret
          exact ⟨by rw [HD.out] <;> rfl, HBW.out⟩
        · have b1 : decide (12 ≤ x) = false := by simpa using h12
          rcases Nat.eq_zero_or_pos k with hk0 | hk0
          · subst hk0
            have HOK : Hid (∀ i, i < 0 + 1 → okAt to sl zs i) := Lib.hid (HYES.out (HDEF.out.2 ⟨by omega, by omega, fun h => absurd h (by omega)⟩))
            simp only [Nat.add_zero] at c0
            clear h0 h12 hx hc hc2
            go_wp2
            go_roundw
            case rel => exact ⟨_, by omega, by go_num, HOK, HBR⟩
            case measure => simp [intOf]; omega
          · obtain ⟨j, rfl⟩ : ∃ j, k = j + 1 := ⟨k - 1, by omega⟩
            have cp := hc j (by omega)
            have ct := hc2 (j + 1) hkn
            have ct1 := hc2 j (by omega)
            have hy := (HK.out j (by omega))
            have hy0 : 0 ≤ zs.getD j 0 ∧ zs.getD j 0 < 12 := ⟨hy.1, hy.2.1⟩
            simp only [Nat.add_sub_cancel] at HDEF
            obtain ⟨y, hyy⟩ : ∃ y, zs.getD j 0 = y := ⟨_, rfl⟩
            rw [hyy] at cp HDEF hy0
            generalize to.getD (j + 1) 0 = t1 at *
            generalize to.getD j 0 = t0 at *
            have v1 : IntKind.i64.wrap (x - y) = x - y := IntWalk.i64_in _ (by omega)
            have v2 : IntKind.i64.wrap (j : Int) = (j : Int) := IntWalk.i64_in _ (by omega)
            have v3 : IntKind.i64.wrap ((j : Int) + 1 - 1) = (j : Int) := by rw [Int.add_sub_cancel]; exact v2
            have e0 : ((j : Int) + 1 == 0) = false := by simp; omega
            have g1 : (j : Int) < (tn : Int) := by omega
            have g2 : (j : Int) + 1 < (tn : Int) := by omega
            have g3 : (0 : Int) ≤ (j : Int) + 1 := by omega
            have g4 : ((j : Int) + 1).toNat = j + 1 := by omega
            have g5 : ¬ ((j : Int) + 1 < 0) := by omega
            have hb12 : 0 ≤ x ∧ x < 12 := by omega
            clear h0 h12 hx hc hc2 hyy hy
            by_cases hd : x - y < 0
            · have HD : Hid (R = false) := Lib.hid (HNO.out (fun h => by have := (HDEF.out.1 h).2.2 (by omega); omega))
              have d0 : decide (x - y < 0) = true := by simpa using hd
              clear hd
              go_wp2_with fail
              (refine wp_region_ext (by kernel_rfl) (by kernel_rfl) ?_; (repeat (first | ((with_reducible refine ext_step (fun K hK => ?_)); go_simp; first | (refine hK _ ?_; clear hK K) | (apply Exists.intro; refine ⟨fun _ _ => ?_, hK _ ?_⟩; fail; clear hK K)))); refine wpQuiet_nil ?_; intro E d)
              have HBR2 : Hid (Below w1.heap.size w1 (extW wr E d)) := Lib.hid (bExtW HBR.out HBR.out.size)
              have HBW2 : Hid (Below w.heap.size w (extW wr E d)) := Lib.hid (bExtW HBW.out HBW.out.size)
              clear HBR HBW c0 cp ct ct1 p0 p1 lp lb lb2
              have HBR := HBR2
              have HBW := HBW2
              generalize extW wr E d = w5 at *
              go_wp2
              go_ret
              exact ⟨by rw [HD.out] <;> rfl, HBW.out⟩
            · have d0 : decide (x - y < 0) = false := by simpa using hd
              by_cases hsl : sl < x - y
              · have HD : Hid (R = false) := Lib.hid (HNO.out (fun h => by have := (HDEF.out.1 h).2.2 (by omega); omega))
                have d1 : decide (sl < x - y) = true := by simpa using hsl
                clear hd hsl
                go_wp2_with fail
                (refine wp_region_ext (by kernel_rfl) (by kernel_rfl) ?_; (repeat (first | ((with_reducible refine ext_step (fun K hK => ?_)); go_simp; first | (refine hK _ ?_; clear hK K) | (apply Exists.intro; refine ⟨fun _ _ => ?_, hK _ ?_⟩; fail; clear hK K)))); refine wpQuiet_nil ?_; intro E d)
                have HBR2 : Hid (Below w1.heap.size w1 (extW wr E d)) := Lib.hid (bExtW HBR.out HBR.out.size)
                have HBW2 : Hid (Below w.heap.size w (extW wr E d)) := Lib.hid (bExtW HBW.out HBW.out.size)
                clear HBR HBW c0 cp ct ct1 p0 p1 lp lb lb2
                have HBR := HBR2
                have HBW := HBW2
                generalize extW wr E d = w5 at *
                go_wp2
                go_ret
                exact ⟨by rw [HD.out] <;> rfl, HBW.out⟩
              · have d1 : decide (sl < x - y) = false := by simpa using hsl
                by_cases hz : x - y = 0
                · have hxy : y = x := by omega
                  subst hxy
                  have hs0 : decide (sl < 0) = false := by simp; omega
                  clear v1 d0 d1 hd hsl hz
                  by_cases ht : t1 = t0
                  · have d3 : (t1 == t0) = true := by simpa using ht
                    have d4 : (t1 != t0) = false := by simpa using ht
                    have HOK : Hid (∀ i, i < j + 1 + 1 → okAt to sl zs i) := Lib.hid (HYES.out (HDEF.out.2 ⟨by have := hb12; omega, by have := hb12; omega, fun _ => ⟨by omega, by omega, fun _ => ht⟩⟩))
                    clear ht hb12
                    go_wp2_with fail
                    (refine wp_region_ext (by kernel_rfl) (by kernel_rfl) ?_; (repeat (first | ((with_reducible refine ext_step (fun K hK => ?_)); go_simp; first | (refine hK _ ?_; clear hK K) | (apply Exists.intro; refine ⟨fun _ _ => ?_, hK _ ?_⟩; fail; clear hK K)))); refine wpQuiet_nil ?_; intro E d)
                    have HBR2 : Hid (Below w1.heap.size w1 (extW wr E d)) := Lib.hid (bExtW HBR.out HBR.out.size)
                    have HBW2 : Hid (Below w.heap.size w (extW wr E d)) := Lib.hid (bExtW HBW.out HBW.out.size)
                    clear HBR HBW c0 cp ct ct1 p0 p1 lp lb lb2
                    have HBR := HBR2
                    have HBW := HBW2
                    generalize extW wr E d = w5 at *
                    go_wp2
                    go_roundw
                    case rel => exact ⟨_, by omega, by go_num, HOK, HBR⟩
                    case measure => simp [intOf]; omega
                  · have d4 : (t1 != t0) = true := by simpa using ht
                    have d3 : (t1 == t0) = false := by simpa using ht
                    have HD : Hid (R = false) := Lib.hid (HNO.out (fun h => ht (((HDEF.out.1 h).2.2 (by omega)).2.2 (by omega))))
                    clear ht hb12
                    go_wp2_with fail
                    (refine wp_region_ext (by kernel_rfl) (by kernel_rfl) ?_; (repeat (first | ((with_reducible refine ext_step (fun K hK => ?_)); go_simp; first | (refine hK _ ?_; clear hK K) | (apply Exists.intro; refine ⟨fun _ _ => ?_, hK _ ?_⟩; fail; clear hK K)))); refine wpQuiet_nil ?_; intro E d)
                    have HBR2 : Hid (Below w1.heap.size w1 (extW wr E d)) := Lib.hid (bExtW HBR.out HBR.out.size)
                    have HBW2 : Hid (Below w.heap.size w (extW wr E d)) := Lib.hid (bExtW HBW.out HBW.out.size)
                    clear HBR HBW c0 cp ct ct1 p0 p1 lp lb lb2
                    have HBR := HBR2
                    have HBW := HBW2
                    generalize extW wr E d = w5 at *
                    go_wp2
                    go_ret
                    exact ⟨by rw [HD.out] <;> rfl, HBW.out⟩
                · have d2 : (x - y == 0) = false := by simpa using hz
                  have HOK : Hid (∀ i, i < j + 1 + 1 → okAt to sl zs i) := Lib.hid (HYES.out (HDEF.out.2 ⟨by have := hb12; omega, by have := hb12; omega, fun _ => ⟨by omega, by omega, fun h => absurd h (by omega)⟩⟩))
                  clear hd hsl hz hb12
                  go_wp2_with fail
                  (refine wp_region_ext (by kernel_rfl) (by kernel_rfl) ?_; (repeat (first | ((with_reducible refine ext_step (fun K hK => ?_)); go_simp; first | (refine hK _ ?_; clear hK K) | (apply Exists.intro; refine ⟨fun _ _ => ?_, hK _ ?_⟩; fail; clear hK K)))); refine wpQuiet_nil ?_; intro E d)
                  have HBR2 : Hid (Below w1.heap.size w1 (extW wr E d)) := Lib.hid (bExtW HBR.out HBR.out.size)
                  have HBW2 : Hid (Below w.heap.size w (extW wr E d)) := Lib.hid (bExtW HBW.out HBW.out.size)
                  clear HBR HBW c0 cp ct ct1 p0 p1 lp lb lb2
                  have HBR := HBR2
                  have HBW := HBW2
                  generalize extW wr E d = w5 at *
                  go_wp2
                  go_roundw
                  case rel => exact ⟨_, by omega, by go_num, HOK, HBR⟩
                  case measure => simp [intOf]; omega
    · obtain rfl : k = tn := by omega
      have dk : decide ((k : Int) < (k : Int)) = false := by simp
      have HD : Hid (R = true) := Lib.hid (by
        rw [← HR.out]
        exact decide_eq_true fun i hi => HK.out i (by rw [HL.out] at hi; exact hi))
      go_wp2
      go_ret
      exact ⟨by rw [HD.out] <;> rfl, HBW.out⟩
end Go.Proofs.Ytoooihoaapfjeaa

namespace Go.Proofs.Ytoooihoaapfjeaa
open Go.RowKit
set_option linter.unusedVariables false
set_option linter.unusedSimpArgs false
open Ps
namespace Ps
def twice (fr : List Int) : Prop := ∃ i, i < fr.length ∧ 0 < i ∧ fr.getD i 0 = fr.getD (i - 1) 0
instance (fr : List Int) : Decidable (twice fr) := by
  unfold twice
  infer_instance
/-- What is wrong with what is to be moved. -/
def wrP (fr to : List Int) (sl : Int) : Int :=
  if fr.length < 1 ∨ 5 < fr.length ∨ fr.length ≠ to.length then 5 else if sl < 1 ∨ 12 ≤ sl then 3 else if twice fr then 8 else if ¬ okS to sl fr ∨ ¬ okS to sl to then 8 else 0
theorem wrP_zero {fr to : List Int} {sl : Int} (h : wrP fr to sl = 0) : 1 ≤ fr.length ∧ fr.length ≤ 5 ∧ to.length = fr.length ∧ 1 ≤ sl ∧ sl ≤ 11 ∧ okS to sl fr ∧ okS to sl to := by
  unfold wrP at h
  split at h
  · omega
  · split at h
    · omega
    · split at h
      · omega
      · split at h
        · omega
        · rename_i h1 h2 h3 h4
          refine ⟨by omega, by omega, by omega, by omega, by omega, ?_, ?_⟩
          · by_cases h5 : okS to sl fr
            · exact h5
            · exact absurd (.inl h5) h4
          · by_cases h5 : okS to sl to
            · exact h5
            · exact absurd (.inr h5) h4
end Ps
set_option maxRecDepth 100000 in
set_option maxHeartbeats 8000000 in
theorem Wrong_any (fa : Option Addr) (fn fc : Nat) (fr : List Int) (ta : Option Addr) (tn tc : Nat) (to : List Int) (sl : Int) (w : World) (hI : IsInts w fa fn fr) (hT : IsInts w ta tn to) (hfn : fn ≤ 9223372036854775807) (htn : tn ≤ 9223372036854775807) (hs : (-9223372036854775808 ≤ sl ∧ sl ≤ 9223372036854775807)) :
    Calls Try.prog 8 #[.slice fa fn fc, .slice ta tn tc, .int .i64 sl] w fun e w' => e = .returned (.int .i64 (wrP fr to sl)) ∧ Below w.heap.size w w' := by
  have HI := Lib.hid hI; have HT := Lib.hid hT
  have HLF := Lib.hid hI.1; have HLT := Lib.hid hT.1
  obtain ⟨R, hR⟩ : ∃ R, wrP fr to sl = R := ⟨_, rfl⟩
  rw [hR]
  have HDF : Hid (R = if fr.length < 1 ∨ 5 < fr.length ∨ fr.length ≠ to.length then 5 else if sl < 1 ∨ 12 ≤ sl then 3 else if twice fr then 8 else if ¬ okS to sl fr ∨ ¬ okS to sl to then 8 else 0) := Lib.hid (by rw [← hR]; rfl)
  have HBW : Hid (Below w.heap.size w w) := Lib.hid (Below.refl _ _)
  clear hI hT hR
  rw [HLF.out, HLT.out] at HDF
  go_enter Try.func8, Try.ntmps8
  by_cases h1 : fn < 1
  · have HD : Hid (R = 5) := Lib.hid (by rw [HDF.out, if_pos (.inl h1)])
    obtain rfl : fn = 0 := by omega
    clear h1
    go_wp2
    go_ret
    exact ⟨by rw [HD.out] <;> rfl, HBW.out⟩
  · have b1 : decide ((fn : Int) < 1) = false := by simp; omega
    have b1' : decide (fn < 1) = false := by simp; omega
    have b1'' : (fn == 0) = false := by simp; omega
    by_cases h5 : 5 < fn
    · have HD : Hid (R = 5) := Lib.hid (by rw [HDF.out, if_pos (.inr (.inl h5))])
      have b2 : decide ((5 : Int) < (fn : Int)) = true := by simp; omega
      have b2' : decide (5 < fn) = true := by simp; omega
      clear h1 h5
      go_wp2
      go_ret
      exact ⟨by rw [HD.out] <;> rfl, HBW.out⟩
    · have b2 : decide ((5 : Int) < (fn : Int)) = false := by simp; omega
      have b2' : decide (5 < fn) = false := by simp; omega
      by_cases hne : fn = tn
      · subst hne
        by_cases hsl : sl < 1
        · have HD : Hid (R = 3) := Lib.hid (by rw [HDF.out, if_neg (by omega), if_pos (.inl hsl)])
          have b4 : decide (sl < 1) = true := by simpa using hsl
          clear h1 h5 hsl
          go_wp2
          go_ret
          exact ⟨by rw [HD.out] <;> rfl, HBW.out⟩
        · have b4 : decide (sl < 1) = false := by simpa using hsl
          by_cases hsl2 : 12 ≤ sl
          · have HD : Hid (R = 3) := Lib.hid (by rw [HDF.out, if_neg (by omega), if_pos (.inr hsl2)])
            have b5 : decide (12 ≤ sl) = true := by simpa using hsl2
            clear h1 h5 hsl hsl2
            go_wp2
            go_ret
            exact ⟨by rw [HD.out] <;> rfl, HBW.out⟩
          · have b5 : decide (12 ≤ sl) = false := by simpa using hsl2
            have HDF2 : Hid (R = if twice fr then 8 else if ¬ okS to sl fr ∨ ¬ okS to sl to then 8 else 0) := Lib.hid (by rw [HDF.out, if_neg (by omega), if_neg (by omega)])
            have hp := pzF_alloc w ta fn tc sl
            have hb0 : Below w.heap.size w (w.alloc (.cells #[.slice ta fn tc, .int .i64 sl] 35)) := (by repeat (first | exact Below.refl _ _ | refine Below.drew ?_ | refine below_drewN ?_ _ | refine Below.alloc ?_ (by first | exact Nat.le_refl _ | (simp; done) | (simp; omega) | omega) _ | refine Below.setCell ?_ (by first | exact Nat.le_refl _ | (simp; done) | (simp; omega) | omega) _ | refine bExtW ?_ (by first | exact Nat.le_refl _ | (simp; done) | (simp; omega) | omega) | refine Below.trans ?_ (Below.mono (by assumption) (by first | exact Nat.le_refl _ | (simp; done) | (simp; omega) | omega))))
            have HP := Lib.hid hp; have HB0 := Lib.hid hb0
            clear hp hb0 HBW HDF
            go_wp2_with fail
            generalize w.alloc (.cells #[.slice ta fn tc, .int .i64 sl] 35) = w1 at *
            go_loopw [8] (fun iv wr => ∃ k : Nat, k + 1 ≤ fn ∧ iv = .int .i64 ((k : Int) + 1) ∧ Hid (∀ i, i < k + 1 → 0 < i → fr.getD i 0 ≠ fr.getD (i - 1) 0) ∧ Hid (Below w1.heap.size w1 wr)) (fun iv _ => fn - (intOf iv).toNat)
            case atStart => exact ⟨0, by omega, rfl, Lib.hid (fun i h1 h2 => absurd h1 (by omega)), Lib.hid (Below.refl _ _)⟩
            case round =>
              obtain ⟨k, hk, rfl, HK, HBR⟩ := hrel
              have HBW : Hid (Below w.heap.size w wr) := Lib.hid (HB0.out.trans (HBR.out.mono HB0.out.size))
              by_cases hkn : k + 1 < fn
              · obtain ⟨b, o, rfl, hbl, hc⟩ := (HI.out.below HBW.out).2 (by omega)
                have c0 := hc k (by omega)
                have c1 := hc (k + 1) hkn
                have lb : LtW b wr := hbl
                have dk : decide ((k : Int) + 1 < (fn : Int)) = true := by simp; omega
                have dk' : decide (k + 1 < fn) = true := by simpa using hkn
                have v2 : IntKind.i64.wrap (k : Int) = (k : Int) := IntWalk.i64_in _ (by omega)
                have v3 : IntKind.i64.wrap ((k : Int) + 1 - 1) = (k : Int) := by rw [Int.add_sub_cancel]; exact v2
                have v4 : IntKind.i64.wrap ((k : Int) + 1 + 1) = (k : Int) + 1 + 1 := IntWalk.i64_in _ (by omega)
                have g1 : (k : Int) < (fn : Int) := by omega
                have g1' : k < fn := by omega
                have g2 : (k : Int) + 1 < (fn : Int) := by omega
                have g3 : (0 : Int) ≤ (k : Int) + 1 := by omega
                have g4 : ((k : Int) + 1).toNat = k + 1 := by omega
                have g5 : ¬ ((k : Int) + 1 < 0) := by omega
                have HEQ : Hid (fr.getD (k + 1) 0 = fr.getD k 0 → R = 8) := Lib.hid (fun h => by
                  rw [HDF2.out, if_pos ⟨k + 1, by rw [HLF.out]; exact hkn, by omega, by rw [Nat.add_sub_cancel]; exact h⟩])
                have HNE : Hid (fr.getD (k + 1) 0 ≠ fr.getD k 0 → ∀ i, i < k + 1 + 1 → 0 < i → fr.getD i 0 ≠ fr.getD (i - 1) 0) := Lib.hid (fun h i hi h0 => by
                  by_cases e : i = k + 1
                  · subst e; rw [Nat.add_sub_cancel]; exact h
                  · exact HK.out i (by omega) h0)
                obtain ⟨x, hx⟩ : ∃ x, fr.getD (k + 1) 0 = x := ⟨_, rfl⟩
                obtain ⟨y, hy⟩ : ∃ y, fr.getD k 0 = y := ⟨_, rfl⟩
                rw [hx] at c1 HEQ HNE
                rw [hy] at c0 HEQ HNE
                clear hx hy hc hbl
                obtain ⟨bb, hbb⟩ : ∃ b, (x == y) = b := ⟨_, rfl⟩
                have HBB := Lib.hid hbb
                go_wp2_with fail
                (refine wp_region_ext (by kernel_rfl) (by kernel_rfl) ?_; (repeat (first | ((with_reducible refine ext_step (fun K hK => ?_)); go_simp; first | (refine hK _ ?_; clear hK K) | (apply Exists.intro; refine ⟨fun _ _ => ?_, hK _ ?_⟩; fail; clear hK K)))); refine wpQuiet_nil ?_; intro E d)
                have HBR2 : Hid (Below w1.heap.size w1 (extW wr E d)) := Lib.hid (bExtW HBR.out HBR.out.size)
                have HBW2 : Hid (Below w.heap.size w (extW wr E d)) := Lib.hid (bExtW HBW.out HBW.out.size)
                clear HBR HBW c0 c1 lb
                have HBR := HBR2
                have HBW := HBW2
                generalize extW wr E d = w5 at *
                cases bb with
                | true =>
                  have HD : Hid (R = 8) := Lib.hid (HEQ.out (by have := HBB.out; simpa using this))
                  clear hbb
                  go_wp2
                  go_ret
                  exact ⟨by rw [HD.out] <;> rfl, HBW.out⟩
                | false =>
                  have HNX := Lib.hid (HNE.out (by have := HBB.out; simpa using this))
                  clear hbb
                  go_wp2
                  go_roundw
                  case rel => exact ⟨k + 1, by omega, by go_num, HNX, HBR⟩
                  case measure => simp [intOf]; omega
              · obtain rfl : k + 1 = fn := by omega
                have dk : decide ((k : Int) + 1 < (k : Int) + 1) = false := by simp
                have HNT : Hid (¬ twice fr) := Lib.hid (by
                  rintro ⟨i, h1, h2, h3⟩
                  exact HK.out i (by rw [HLF.out] at h1; exact h1) h2 h3)
                have HDF3 : Hid (R = if ¬ okS to sl fr ∨ ¬ okS to sl to then 8 else 0) := Lib.hid (by rw [HDF2.out, if_neg HNT.out])
                have hp := rowBelow HP.out HBR.out HP.out.lt
                have p0 : wr.cell? ⟨w.heap.size, 0, none⟩ = some (.slice ta (k + 1) tc) := hp.cell (i := 0) (by omega)
                have p1 : wr.cell? ⟨w.heap.size, 1, none⟩ = some (.int .i64 (sl)) := hp.cell (i := 1) (by omega)
                have lp : LtW w.heap.size wr := hp.lt
                clear hp hk hkn HDF2 HK HNT
                go_wp2_with fail
                refine (ok_any ta (k + 1) tc to sl fa (k + 1) fc fr wr (HT.out.below HBW.out) (HI.out.below HBW.out) rfl (by omega) (by omega)).mono ?_
                rintro r w5 ⟨rfl, hb5⟩
                have hp := rowBelow (rowBelow HP.out HBR.out HP.out.lt) hb5 lp
                have HBW5 := Lib.hid (HBW.out.trans (hb5.mono HBW.out.size))
                clear p0 p1 lp hb5 HBW
                have HBW := HBW5
                have p0 : w5.cell? ⟨w.heap.size, 0, none⟩ = some (.slice ta (k + 1) tc) := hp.cell (i := 0) (by omega)
                have p1 : w5.cell? ⟨w.heap.size, 1, none⟩ = some (.int .i64 (sl)) := hp.cell (i := 1) (by omega)
                have lp : LtW w.heap.size w5 := hp.lt
                clear hp
                by_cases ho : okS to sl fr
                · have e1 : decide (okS to sl fr) = true := by simpa using ho
                  have HO1 := Lib.hid ho
                  rw [e1]
                  clear ho e1
                  go_wp2_with fail
                  refine (ok_any ta (k + 1) tc to sl ta (k + 1) tc to w5 (HT.out.below HBW.out) (HT.out.below HBW.out) rfl (by omega) (by omega)).mono ?_
                  rintro r w6 ⟨rfl, hb6⟩
                  have HBW6 := Lib.hid (HBW.out.trans (hb6.mono HBW.out.size))
                  clear hb6 HBW p0 p1 lp
                  have HBW := HBW6
                  by_cases ho2 : okS to sl to
                  · have e1 : decide (okS to sl to) = true := by simpa using ho2
                    have HD : Hid (R = 0) := Lib.hid (by
                      rw [HDF3.out, if_neg]
                      rintro (h | h)
                      · exact h HO1.out
                      · exact h ho2)
                    rw [e1]
                    clear ho2 e1
                    go_wp2
                    go_ret
                    exact ⟨by rw [HD.out] <;> rfl, HBW.out⟩
                  · have e1 : decide (okS to sl to) = false := by simpa using ho2
                    have HD : Hid (R = 8) := Lib.hid (by rw [HDF3.out, if_pos (.inr ho2)])
                    rw [e1]
                    clear ho2 e1
                    go_wp2
                    go_ret
                    exact ⟨by rw [HD.out] <;> rfl, HBW.out⟩
                · have e1 : decide (okS to sl fr) = false := by simpa using ho
                  have HD : Hid (R = 8) := Lib.hid (by rw [HDF3.out, if_pos (.inl ho)])
                  rw [e1]
                  clear ho e1
                  go_wp2
                  go_ret
                  exact ⟨by rw [HD.out] <;> rfl, HBW.out⟩
      · have HD : Hid (R = 5) := Lib.hid (by rw [HDF.out, if_pos (.inr (.inr hne))])
        have b3 : ((fn : Int) == (tn : Int)) = false := by simp; omega
        have b3' : ((fn : Int) != (tn : Int)) = true := by simp; omega
        have b3'' : (fn == tn) = false := by simpa using hne
        have b3''' : (fn != tn) = true := by simpa using hne
        clear h1 h5 hne
        go_wp2
        go_ret
        exact ⟨by rw [HD.out] <;> rfl, HBW.out⟩
end Go.Proofs.Ytoooihoaapfjeaa
