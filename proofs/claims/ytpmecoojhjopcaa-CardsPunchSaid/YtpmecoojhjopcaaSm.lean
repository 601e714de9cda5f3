/- Lemmas and contracts of functions (what each call returns, and that it changes nothing that was there) that the proof of a law of this seat uses; each lemma states its own conditions. -/
import Derived.Test.YtpmecoojhjopcaaTr
import Derived.IntWalk
namespace Go.Proofs.Ytpmecoojhjopcaa
open Go.RowKit
set_option linter.unusedVariables false
set_option linter.unusedSimpArgs false
theorem eq_of_getD {α : Type} {d : α} {l m : List α} {n : Nat} (h1 : l.length = n) (h2 : m.length = n) (h : ∀ j, j < n → l.getD j d = m.getD j d) : l = m := by
  apply List.ext_getElem (by omega)
  intro i hi hi2
  have := h i (by omega)
  rw [List.getD_eq_getElem?_getD, List.getD_eq_getElem?_getD, List.getElem?_eq_getElem hi, List.getElem?_eq_getElem hi2] at this
  simpa using this
set_option maxRecDepth 100000 in
set_option maxHeartbeats 8000000 in
theorem Equal_any (a1 : Option Addr) (n1 c1 : Nat) (b1 : List Bool) (a2 : Option Addr) (n2 c2 : Nat) (b2 : List Bool) (w : World) (hi : IsBools w a1 n1 b1) (hj : IsBools w a2 n2 b2) (m1 : n1 ≤ 9223372036854775807) (m2 : n2 ≤ 9223372036854775807) :
    Calls Try.prog 21 #[.slice a1 n1 c1, .slice a2 n2 c2] w fun e w' => e = .returned (.bool (decide (b1 = b2))) ∧ Below w.heap.size w w' := by
  by_cases hn : n1 = n2
  · subst hn
    have L1 := Lib.hid hi.1; have L2 := Lib.hid hj.1
    have HI := Lib.hid hi; have HJ := Lib.hid hj
    have hb0 : ((n1 : Int) != (n1 : Int)) = false := by simp
    clear hi hj
    go_enter Try.func21, Try.ntmps21
    go_wp2_with fail
    clear hb0
    go_loopw [13] (fun i wr => ∃ k : Nat, k ≤ n1 ∧ i = .int .i64 k ∧ Hid (∀ j, j < k → b1.getD j false = b2.getD j false) ∧ ∃ E d, wr = extW w E d) (fun i _ => n1 - (intOf i).toNat)
    case atStart => exact ⟨0, Nat.zero_le _, rfl, Lib.hid (by omega), _, _, extW_zero _⟩
    case round =>
      obtain ⟨k, hk, rfl, HK, E, d, rfl⟩ := hrel
      by_cases hkn : k < n1
      · obtain ⟨p1, o1, rfl, hp1, hc1⟩ := HI.out.2 (by omega)
        obtain ⟨p2, o2, rfl, hp2, hc2⟩ := HJ.out.2 (by omega)
        have k1 := hc1 k hkn
        have k2 := hc2 k hkn
        have l1 : LtW p1 w := hp1
        have l2 : LtW p2 w := hp2
        obtain ⟨x, hx⟩ : ∃ x, b1.getD k false = x := ⟨_, rfl⟩
        obtain ⟨y, hy⟩ : ∃ y, b2.getD k false = y := ⟨_, rfl⟩
        rw [hx] at k1
        rw [hy] at k2
        have HX := Lib.hid hx; have HY := Lib.hid hy
        clear hc1 hc2 hp1 hp2 hx hy
        have HK1 : Hid (x = y → ∀ j, j < k + 1 → b1.getD j false = b2.getD j false) := Lib.hid (by
          intro hxy j hj
          by_cases e : j = k
          · subst e; rw [HX.out, HY.out, hxy]
          · exact HK.out j (by omega))
        have HN : Hid (x ≠ y → b1 ≠ b2) := Lib.hid (by intro hxy e; subst e; exact hxy (HX.out.symm.trans HY.out))
        cases x <;> cases y
        all_goals
          go_wp2_with fail
          (refine wp_region_ext (by kernel_rfl) (by kernel_rfl) ?_; (repeat (first | ((with_reducible refine ext_step (fun K hK => ?_)); go_simp; first | (refine hK _ ?_; clear hK K) | (apply Exists.intro; refine ⟨fun _ _ => ?_, hK _ ?_⟩; fail; clear hK K)))); refine wpQuiet_nil ?_; intro E d)
          go_wp2
        · go_roundw
          case rel => exact ⟨k + 1, by omega, by go_num, Lib.hid (HK1.out (by first | rfl | trivial)), _, _, extW_extW _ _ _ _ _⟩
          case measure => simp [intOf]; omega
        · go_ret
          exact ⟨by rw [decide_eq_false (HN.out (by simp))]; rfl, (by repeat (first | exact Below.refl _ _ | refine Below.drew ?_ | refine below_drewN ?_ _ | refine Below.alloc ?_ (by first | exact Nat.le_refl _ | (simp; done) | (simp; omega) | omega) _ | refine Below.setCell ?_ (by first | exact Nat.le_refl _ | (simp; done) | (simp; omega) | omega) _ | refine bExtW ?_ (by first | exact Nat.le_refl _ | (simp; done) | (simp; omega) | omega) | refine Below.trans ?_ (Below.mono (by assumption) (by first | exact Nat.le_refl _ | (simp; done) | (simp; omega) | omega))))⟩
        · go_ret
          exact ⟨by rw [decide_eq_false (HN.out (by simp))]; rfl, (by repeat (first | exact Below.refl _ _ | refine Below.drew ?_ | refine below_drewN ?_ _ | refine Below.alloc ?_ (by first | exact Nat.le_refl _ | (simp; done) | (simp; omega) | omega) _ | refine Below.setCell ?_ (by first | exact Nat.le_refl _ | (simp; done) | (simp; omega) | omega) _ | refine bExtW ?_ (by first | exact Nat.le_refl _ | (simp; done) | (simp; omega) | omega) | refine Below.trans ?_ (Below.mono (by assumption) (by first | exact Nat.le_refl _ | (simp; done) | (simp; omega) | omega))))⟩
        · go_roundw
          case rel => exact ⟨k + 1, by omega, by go_num, Lib.hid (HK1.out (by first | rfl | trivial)), _, _, extW_extW _ _ _ _ _⟩
          case measure => simp [intOf]; omega
      · have HE : Hid (b1 = b2) := Lib.hid (eq_of_getD L1.out L2.out (fun j hj => HK.out j (by omega)))
        go_wp2
        go_ret
        exact ⟨by rw [decide_eq_true HE.out]; rfl, (by repeat (first | exact Below.refl _ _ | refine Below.drew ?_ | refine below_drewN ?_ _ | refine Below.alloc ?_ (by first | exact Nat.le_refl _ | (simp; done) | (simp; omega) | omega) _ | refine Below.setCell ?_ (by first | exact Nat.le_refl _ | (simp; done) | (simp; omega) | omega) _ | refine bExtW ?_ (by first | exact Nat.le_refl _ | (simp; done) | (simp; omega) | omega) | refine Below.trans ?_ (Below.mono (by assumption) (by first | exact Nat.le_refl _ | (simp; done) | (simp; omega) | omega))))⟩
  · have hb : ((n1 : Int) != (n2 : Int)) = true := by simp; omega
    have HN : Hid (b1 ≠ b2) := Lib.hid (by intro e; subst e; exact hn (hi.1.symm.trans hj.1))
    clear hn hi hj
    go_enter Try.func21, Try.ntmps21
    go_wp2
    go_ret
    exact ⟨by rw [decide_eq_false HN.out]; rfl, (by repeat (first | exact Below.refl _ _ | refine Below.drew ?_ | refine below_drewN ?_ _ | refine Below.alloc ?_ (by first | exact Nat.le_refl _ | (simp; done) | (simp; omega) | omega) _ | refine Below.setCell ?_ (by first | exact Nat.le_refl _ | (simp; done) | (simp; omega) | omega) _ | refine bExtW ?_ (by first | exact Nat.le_refl _ | (simp; done) | (simp; omega) | omega) | refine Below.trans ?_ (Below.mono (by assumption) (by first | exact Nat.le_refl _ | (simp; done) | (simp; omega) | omega))))⟩
set_option maxRecDepth 100000 in
set_option maxHeartbeats 8000000 in
theorem Same_any (W1 H1 : Int) (a1 : Option Addr) (n1 c1 : Nat) (b1 : List Bool) (W2 H2 : Int) (a2 : Option Addr) (n2 c2 : Nat) (b2 : List Bool) (w : World) (hi : IsBools w a1 n1 b1) (hj : IsBools w a2 n2 b2) (m1 : n1 ≤ 9223372036854775807) (m2 : n2 ≤ 9223372036854775807) :
    Calls Try.prog 11 #[.agg #[.int .i64 (W1), .int .i64 (H1), .slice a1 n1 c1], .agg #[.int .i64 (W2), .int .i64 (H2), .slice a2 n2 c2]] w fun e w' => e = .returned (.bool (decide (W1 = W2 ∧ H1 = H2 ∧ b1 = b2))) ∧ Below w.heap.size w w' := by
  have HVT : Hid (W1 = W2 → H1 = H2 → b1 = b2 → decide (W1 = W2 ∧ H1 = H2 ∧ b1 = b2) = true) := Lib.hid (fun a b c => by simp [a, b, c])
  have HVF : Hid (¬ (W1 = W2 ∧ H1 = H2 ∧ b1 = b2) → decide (W1 = W2 ∧ H1 = H2 ∧ b1 = b2) = false) := Lib.hid (fun a => by simp [a])
  generalize decide (W1 = W2 ∧ H1 = H2 ∧ b1 = b2) = V at *
  by_cases hW : W1 = W2
  · subst hW
    by_cases hH : H1 = H2
    · subst hH
      by_cases hn : n1 = n2
      · subst hn
        have L1 := Lib.hid hi.1; have L2 := Lib.hid hj.1
        have hb0 : ((n1 : Int) != (n1 : Int)) = false := by simp
        go_enter Try.func11, Try.ntmps11
        go_wp2_with fail
        have HI : Hid (IsBools ((w.alloc (.cells #[.int .i64 (W1), .int .i64 (H1), .slice a1 n1 c1] 24)).alloc (.cells #[.int .i64 (W1), .int .i64 (H1), .slice a2 n1 c2] 24)) a1 n1 b1) := Lib.hid (hi.below (by repeat (first | exact Below.refl _ _ | refine Below.drew ?_ | refine below_drewN ?_ _ | refine Below.alloc ?_ (by first | exact Nat.le_refl _ | (simp; done) | (simp; omega) | omega) _ | refine Below.setCell ?_ (by first | exact Nat.le_refl _ | (simp; done) | (simp; omega) | omega) _ | refine bExtW ?_ (by first | exact Nat.le_refl _ | (simp; done) | (simp; omega) | omega) | refine Below.trans ?_ (Below.mono (by assumption) (by first | exact Nat.le_refl _ | (simp; done) | (simp; omega) | omega)))))
        have HJ : Hid (IsBools ((w.alloc (.cells #[.int .i64 (W1), .int .i64 (H1), .slice a1 n1 c1] 24)).alloc (.cells #[.int .i64 (W1), .int .i64 (H1), .slice a2 n1 c2] 24)) a2 n1 b2) := Lib.hid (hj.below (by repeat (first | exact Below.refl _ _ | refine Below.drew ?_ | refine below_drewN ?_ _ | refine Below.alloc ?_ (by first | exact Nat.le_refl _ | (simp; done) | (simp; omega) | omega) _ | refine Below.setCell ?_ (by first | exact Nat.le_refl _ | (simp; done) | (simp; omega) | omega) _ | refine bExtW ?_ (by first | exact Nat.le_refl _ | (simp; done) | (simp; omega) | omega) | refine Below.trans ?_ (Below.mono (by assumption) (by first | exact Nat.le_refl _ | (simp; done) | (simp; omega) | omega)))))
        have d1 : ((w.alloc (.cells #[.int .i64 (W1), .int .i64 (H1), .slice a1 n1 c1] 24)).alloc (.cells #[.int .i64 (W1), .int .i64 (H1), .slice a2 n1 c2] 24)).cell? ⟨w.heap.size, 2, none⟩ = some (.slice a1 n1 c1) := by simp [go_sem]
        have d2 : ((w.alloc (.cells #[.int .i64 (W1), .int .i64 (H1), .slice a1 n1 c1] 24)).alloc (.cells #[.int .i64 (W1), .int .i64 (H1), .slice a2 n1 c2] 24)).cell? ⟨w.heap.size+1, 2, none⟩ = some (.slice a2 n1 c2) := by simp [go_sem]
        have q1 : LtW w.heap.size ((w.alloc (.cells #[.int .i64 (W1), .int .i64 (H1), .slice a1 n1 c1] 24)).alloc (.cells #[.int .i64 (W1), .int .i64 (H1), .slice a2 n1 c2] 24)) := by unfold LtW; simp; omega
        have q2 : LtW (w.heap.size+1) ((w.alloc (.cells #[.int .i64 (W1), .int .i64 (H1), .slice a1 n1 c1] 24)).alloc (.cells #[.int .i64 (W1), .int .i64 (H1), .slice a2 n1 c2] 24)) := by unfold LtW; simp
        have HB : Hid (Below w.heap.size w ((w.alloc (.cells #[.int .i64 (W1), .int .i64 (H1), .slice a1 n1 c1] 24)).alloc (.cells #[.int .i64 (W1), .int .i64 (H1), .slice a2 n1 c2] 24))) := Lib.hid (by repeat (first | exact Below.refl _ _ | refine Below.drew ?_ | refine below_drewN ?_ _ | refine Below.alloc ?_ (by first | exact Nat.le_refl _ | (simp; done) | (simp; omega) | omega) _ | refine Below.setCell ?_ (by first | exact Nat.le_refl _ | (simp; done) | (simp; omega) | omega) _ | refine bExtW ?_ (by first | exact Nat.le_refl _ | (simp; done) | (simp; omega) | omega) | refine Below.trans ?_ (Below.mono (by assumption) (by first | exact Nat.le_refl _ | (simp; done) | (simp; omega) | omega))))
        generalize (w.alloc (.cells #[.int .i64 (W1), .int .i64 (H1), .slice a1 n1 c1] 24)).alloc (.cells #[.int .i64 (W1), .int .i64 (H1), .slice a2 n1 c2] 24) = W0 at *
        clear hi hj hb0
        go_loopw [30] (fun i wr => ∃ k : Nat, k ≤ n1 ∧ i = .int .i64 k ∧ Hid (∀ j, j < k → b1.getD j false = b2.getD j false) ∧ ∃ E d, wr = extW W0 E d) (fun i _ => n1 - (intOf i).toNat)
        case atStart => exact ⟨0, Nat.zero_le _, rfl, Lib.hid (by omega), _, _, extW_zero _⟩
        case round =>
          obtain ⟨k, hk, rfl, HK, E, d, rfl⟩ := hrel
          by_cases hkn : k < n1
          · obtain ⟨p1, o1, rfl, hp1, hc1⟩ := HI.out.2 (by omega)
            obtain ⟨p2, o2, rfl, hp2, hc2⟩ := HJ.out.2 (by omega)
            have k1 := hc1 k hkn
            have k2 := hc2 k hkn
            have l1 : LtW p1 W0 := hp1
            have l2 : LtW p2 W0 := hp2
            obtain ⟨x, hx⟩ : ∃ x, b1.getD k false = x := ⟨_, rfl⟩
            obtain ⟨y, hy⟩ : ∃ y, b2.getD k false = y := ⟨_, rfl⟩
            rw [hx] at k1
            rw [hy] at k2
            have HX := Lib.hid hx; have HY := Lib.hid hy
            clear hc1 hc2 hp1 hp2 hx hy
            have HK1 : Hid (x = y → ∀ j, j < k + 1 → b1.getD j false = b2.getD j false) := Lib.hid (by
              intro hxy j hj
              by_cases e : j = k
              · subst e; rw [HX.out, HY.out, hxy]
              · exact HK.out j (by omega))
            have HN : Hid (x ≠ y → ¬ b1 = b2) := Lib.hid (by intro hxy e; subst e; exact hxy (HX.out.symm.trans HY.out))
            cases x <;> cases y
            all_goals
              go_wp2_with fail
              (refine wp_region_ext (by kernel_rfl) (by kernel_rfl) ?_; (repeat (first | ((with_reducible refine ext_step (fun K hK => ?_)); go_simp; first | (refine hK _ ?_; clear hK K) | (apply Exists.intro; refine ⟨fun _ _ => ?_, hK _ ?_⟩; fail; clear hK K)))); refine wpQuiet_nil ?_; intro E d)
              go_wp2
            · go_roundw
              case rel => exact ⟨k + 1, by omega, by go_num, Lib.hid (HK1.out (by first | rfl | trivial)), _, _, extW_extW _ _ _ _ _⟩
              case measure => simp [intOf]; omega
            · go_ret
              exact ⟨by rw [HVF.out (by simpa using HN.out (by simp))]; rfl, bExtW (bExtW HB.out HB.out.size) (by simp; have := HB.out.size; omega)⟩
            · go_ret
              exact ⟨by rw [HVF.out (by simpa using HN.out (by simp))]; rfl, bExtW (bExtW HB.out HB.out.size) (by simp; have := HB.out.size; omega)⟩
            · go_roundw
              case rel => exact ⟨k + 1, by omega, by go_num, Lib.hid (HK1.out (by first | rfl | trivial)), _, _, extW_extW _ _ _ _ _⟩
              case measure => simp [intOf]; omega
          · have HE : Hid (V = true) := Lib.hid (HVT.out (by first | rfl | trivial) (by first | rfl | trivial) (eq_of_getD L1.out L2.out (fun j hj => HK.out j (by omega))))
            go_wp2
            go_ret
            exact ⟨by rw [HE.out]; rfl, bExtW HB.out HB.out.size⟩
      · have hb : ((n1 : Int) != (n2 : Int)) = true := by simp; omega
        have HN : Hid (V = false) := Lib.hid (HVF.out (by rintro ⟨_, _, e⟩; subst e; exact hn (hi.1.symm.trans hj.1)))
        clear hn hi hj
        go_enter Try.func11, Try.ntmps11
        go_wp2
        go_ret
        exact ⟨by rw [HN.out]; rfl, (by repeat (first | exact Below.refl _ _ | refine Below.drew ?_ | refine below_drewN ?_ _ | refine Below.alloc ?_ (by first | exact Nat.le_refl _ | (simp; done) | (simp; omega) | omega) _ | refine Below.setCell ?_ (by first | exact Nat.le_refl _ | (simp; done) | (simp; omega) | omega) _ | refine bExtW ?_ (by first | exact Nat.le_refl _ | (simp; done) | (simp; omega) | omega) | refine Below.trans ?_ (Below.mono (by assumption) (by first | exact Nat.le_refl _ | (simp; done) | (simp; omega) | omega))))⟩
    · have hb : (H1 != H2) = true := by simpa using hH
      have HN : Hid (V = false) := Lib.hid (HVF.out (by rintro ⟨_, e, _⟩; exact hH e))
      clear hH hi hj
      go_enter Try.func11, Try.ntmps11
      go_wp2
      go_ret
      exact ⟨by rw [HN.out]; rfl, (by repeat (first | exact Below.refl _ _ | refine Below.drew ?_ | refine below_drewN ?_ _ | refine Below.alloc ?_ (by first | exact Nat.le_refl _ | (simp; done) | (simp; omega) | omega) _ | refine Below.setCell ?_ (by first | exact Nat.le_refl _ | (simp; done) | (simp; omega) | omega) _ | refine bExtW ?_ (by first | exact Nat.le_refl _ | (simp; done) | (simp; omega) | omega) | refine Below.trans ?_ (Below.mono (by assumption) (by first | exact Nat.le_refl _ | (simp; done) | (simp; omega) | omega))))⟩
  · have hb : (W1 != W2) = true := by simpa using hW
    have HN : Hid (V = false) := Lib.hid (HVF.out (by rintro ⟨e, _, _⟩; exact hW e))
    clear hW hi hj
    go_enter Try.func11, Try.ntmps11
    go_wp2
    go_ret
    exact ⟨by rw [HN.out]; rfl, (by repeat (first | exact Below.refl _ _ | refine Below.drew ?_ | refine below_drewN ?_ _ | refine Below.alloc ?_ (by first | exact Nat.le_refl _ | (simp; done) | (simp; omega) | omega) _ | refine Below.setCell ?_ (by first | exact Nat.le_refl _ | (simp; done) | (simp; omega) | omega) _ | refine bExtW ?_ (by first | exact Nat.le_refl _ | (simp; done) | (simp; omega) | omega) | refine Below.trans ?_ (Below.mono (by assumption) (by first | exact Nat.le_refl _ | (simp; done) | (simp; omega) | omega))))⟩
end Go.Proofs.Ytpmecoojhjopcaa
