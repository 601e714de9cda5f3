/- Lemmas and contracts of functions (what each call returns, and that it changes nothing that was there) that the proof of a law of this seat uses; each lemma states its own conditions. -/
import Derived.Test.YtnjheiiohfhckaaT7
import Derived.Test.YtnjheiiohfhckaaExt
namespace Go.Proofs.Ytnjheiiohfhckaa
open Go.RowKit
theorem TX_flt {g x y a b : Int} (h : fltE g [(x,y),(a,b)] = 0) : TX g x y a b = tdX (tmX x y a b) (tmY g x y a b) := by unfold TX; rw [if_pos h]
theorem TY_flt {g x y a b : Int} (h : fltE g [(x,y),(a,b)] = 0) : TY g x y a b = tdY (tmX x y a b) (tmY g x y a b) := by unfold TY; rw [if_pos h]
theorem TE_flt {g x y a b : Int} (h : fltE g [(x,y),(a,b)] = 0) : TE g x y a b = tdE (tmX x y a b) (tmY g x y a b) := by unfold TE; rw [if_pos h]
theorem TE_ge (g x y a b : Int) : TE g x y a b = 0 ∨ 0 < TE g x y a b := by
  unfold TE; split
  · unfold tdE; split <;> omega
  · rw [fltE_two]; split
    · omega
    · split <;> omega
set_option maxRecDepth 100000 in
set_option maxHeartbeats 8000000 in
theorem ring_walk (g x1 y1 x2 y2 x3 y3 : Int) (w : World) (h1 : (-9223372036854775808 ≤ x1 ∧ x1 ≤ 9223372036854775807)) (h2 : (-9223372036854775808 ≤ y1 ∧ y1 ≤ 9223372036854775807)) (h3 : (-9223372036854775808 ≤ x2 ∧ x2 ≤ 9223372036854775807)) (h4 : (-9223372036854775808 ≤ y2 ∧ y2 ≤ 9223372036854775807)) (h5 : (-9223372036854775808 ≤ x3 ∧ x3 ≤ 9223372036854775807)) (h6 : (-9223372036854775808 ≤ y3 ∧ y3 ≤ 9223372036854775807)) :
    Calls Try.prog 4 #[.int .i64 (g), .agg #[.int .i64 (x1), .int .i64 (y1)], .agg #[.int .i64 (x2), .int .i64 (y2)], .agg #[.int .i64 (x3), .int .i64 (y3)]] w fun r w' => r = .returned (.bool true) ∧ Below w.heap.size w w' := by
  have HC1 := Lib.hid (TX_comm g x2 y2 x1 y1)
  have HC2 := Lib.hid (TY_comm g x2 y2 x1 y1)
  have HC3 := Lib.hid (TE_comm g x2 y2 x1 y1)
  by_cases he : TE g x1 y1 x2 y2 = 0
  · obtain ⟨hg, s1, s2, s3, ex, ey⟩ := TE_zero he
    have n1 : NE g x1 y1 = 0 := fltE_one_zero hg s1
    have n2 : NE g x2 y2 = 0 := fltE_one_zero hg s2
    have n3 : NE g (TX g x1 y1 x2 y2) (TY g x1 y1 x2 y2) = 0 := by rw [ex, ey]; exact fltE_one_zero hg s3
    have v1 : NV g x1 y1 * NV g x2 y2 = NV g (TX g x1 y1 x2 y2) (TY g x1 y1 x2 y2) := by
      rw [ex, ey]; unfold NV; rw [fltE_one_zero hg s1, fltE_one_zero hg s2, fltE_one_zero hg s3]; exact norm_mul ..
    have wx : (-9223372036854775808 ≤ TX g x1 y1 x2 y2 ∧ TX g x1 y1 x2 y2 ≤ 9223372036854775807) := by rw [ex]; unfold sm at s3; omega
    have wy : (-9223372036854775808 ≤ TY g x1 y1 x2 y2 ∧ TY g x1 y1 x2 y2 ≤ 9223372036854775807) := by rw [ey]; unfold sm at s3; omega
    have r1 : (-9223372036854775808 ≤ NV g x1 y1 * NV g x2 y2 ∧ NV g x1 y1 * NV g x2 y2 ≤ 9223372036854775807) := by
      rw [v1, ex, ey]; unfold NV; rw [fltE_one_zero hg s3]; simp only [if_true]
      generalize tmX x1 y1 x2 y2 = p at s3
      generalize tmY g x1 y1 x2 y2 = q at s3
      unfold sm at s3
      have := mul_bd s3.1 s3.2.1 s3.1 s3.2.1
      have := mul_bd s3.1 s3.2.1 s3.2.2.1 s3.2.2.2
      have := mul_bd s3.2.2.1 s3.2.2.2 s3.2.2.1 s3.2.2.2
      unfold tmX miX
      split
      · simp only [Int.mul_add, Int.mul_neg]; omega
      · simp only [Int.mul_neg]; omega
    have HE := Lib.hid he
    have N1 := Lib.hid n1
    have N2 := Lib.hid n2
    have N3 := Lib.hid n3
    have HV : ((NV g x1 y1 * NV g x2 y2) != NV g (TX g x1 y1 x2 y2) (TY g x1 y1 x2 y2)) = false := by simpa using v1
    clear he n1 n2 n3 v1
    have HEX := Lib.hid ex
    have HEY := Lib.hid ey
    clear ex ey
    obtain ⟨X, hX⟩ : ∃ X, X = TX g x1 y1 x2 y2 := ⟨_, rfl⟩
    obtain ⟨Y, hY⟩ : ∃ Y, Y = TY g x1 y1 x2 y2 := ⟨_, rfl⟩
    rw [← hX] at HEX HC1 wx HV N3
    rw [← hY] at HEY HC2 wy HV N3
    have HX := Lib.hid hX.symm
    have HY := Lib.hid hY.symm
    clear hX hY
    by_cases hu : TE g x2 y2 x3 y3 = 0
    · obtain ⟨_, _, s4, s5, eu, ev⟩ := TE_zero hu
      have wu : (-9223372036854775808 ≤ TX g x2 y2 x3 y3 ∧ TX g x2 y2 x3 y3 ≤ 9223372036854775807) := by rw [eu]; unfold sm at s5; omega
      have wv : (-9223372036854775808 ≤ TY g x2 y2 x3 y3 ∧ TY g x2 y2 x3 y3 ≤ 9223372036854775807) := by rw [ev]; unfold sm at s5; omega
      have ws : -4000000 ≤ x1 + x2 ∧ x1 + x2 ≤ 4000000 := by unfold sm at s1 s2; omega
      have wt : -4000000 ≤ y1 + y2 ∧ y1 + y2 ≤ 4000000 := by unfold sm at s1 s2; omega
      have s3' : sm X Y := by rw [HEX.out, HEY.out]; exact s3
      have s5' : sm (TX g x2 y2 x3 y3) (TY g x2 y2 x3 y3) := by rw [eu, ev]; exact s5
      have A1 : Hid (TX g x1 y1 (TX g x2 y2 x3 y3) (TY g x2 y2 x3 y3) = TX g X Y x3 y3) := by
        show TX g x1 y1 (TX g x2 y2 x3 y3) (TY g x2 y2 x3 y3) = TX g X Y x3 y3
        rw [TX_flt (fltE_two_zero hg s1 s5'), TX_flt (fltE_two_zero hg s3' s4), eu, ev, HEX.out, HEY.out, (tm_assoc g x1 y1 x2 y2 x3 y3).1, (tm_assoc g x1 y1 x2 y2 x3 y3).2]
      have A2 : Hid (TY g x1 y1 (TX g x2 y2 x3 y3) (TY g x2 y2 x3 y3) = TY g X Y x3 y3) := by
        show TY g x1 y1 (TX g x2 y2 x3 y3) (TY g x2 y2 x3 y3) = TY g X Y x3 y3
        rw [TY_flt (fltE_two_zero hg s1 s5'), TY_flt (fltE_two_zero hg s3' s4), eu, ev, HEX.out, HEY.out, (tm_assoc g x1 y1 x2 y2 x3 y3).1, (tm_assoc g x1 y1 x2 y2 x3 y3).2]
      have A3 : Hid (TE g x1 y1 (TX g x2 y2 x3 y3) (TY g x2 y2 x3 y3) = TE g X Y x3 y3) := by
        show TE g x1 y1 (TX g x2 y2 x3 y3) (TY g x2 y2 x3 y3) = TE g X Y x3 y3
        rw [TE_flt (fltE_two_zero hg s1 s5'), TE_flt (fltE_two_zero hg s3' s4), eu, ev, HEX.out, HEY.out, (tm_assoc g x1 y1 x2 y2 x3 y3).1, (tm_assoc g x1 y1 x2 y2 x3 y3).2]
      have HE2 := Lib.hid hu
      have EU := Lib.hid eu
      have EV := Lib.hid ev
      clear hu eu ev
      obtain ⟨U, hU⟩ : ∃ U, U = TX g x2 y2 x3 y3 := ⟨_, rfl⟩
      obtain ⟨V, hV⟩ : ∃ V, V = TY g x2 y2 x3 y3 := ⟨_, rfl⟩
      rw [← hU] at EU A1 A2 A3 wu s5'
      rw [← hV] at EV A1 A2 A3 wv s5'
      have HU := Lib.hid hU.symm
      have HV2 := Lib.hid hV.symm
      clear hU hV
      have Hs1 := Lib.hid s1
      have Hs5 := Lib.hid s5'
      clear s1 s2 s3 s4 s5 s3' s5'
      by_cases e1 : TE g x1 y1 x3 y3 = 0
      · obtain ⟨_, _, _, s6, es, et⟩ := TE_zero e1
        have HE3 := Lib.hid e1
        by_cases e2 : TE g (x1+x2) (y1+y2) x3 y3 = 0
        · have HE4 := Lib.hid e2
          obtain ⟨_, _, _, s7, es2, et2⟩ := TE_zero e2
          have q1 : TX g (x1+x2) (y1+y2) x3 y3 = TX g x1 y1 x3 y3 + U := by
            rw [es2, es, EU.out]; exact (tm_dist g x1 y1 x2 y2 x3 y3).1
          have q2 : TY g (x1+x2) (y1+y2) x3 y3 = TY g x1 y1 x3 y3 + V := by
            rw [et2, et, EV.out]; exact (tm_dist g x1 y1 x2 y2 x3 y3).2
          have b1 : -1048576 ≤ TX g x1 y1 x3 y3 ∧ TX g x1 y1 x3 y3 ≤ 1048576 := by rw [es]; unfold sm at s6; omega
          have b2 : -1048576 ≤ TY g x1 y1 x3 y3 ∧ TY g x1 y1 x3 y3 ≤ 1048576 := by rw [et]; unfold sm at s6; omega
          have b3 : -1048576 ≤ U ∧ U ≤ 1048576 := by have := Hs5.out; unfold sm at this; omega
          have b4 : -1048576 ≤ V ∧ V ≤ 1048576 := by have := Hs5.out; unfold sm at this; omega
          have Q1 := Lib.hid q1
          have Q2 := Lib.hid q2
          clear e1 e2 es et es2 et2 q1 q2 s6 s7
          go_enter Try.func4, Try.ntmps4
          (go_wp2_with fail; refine (alive1_any _).mono ?_; rintro r w1 ⟨rfl, hb⟩; obtain ⟨E, d, rfl⟩ := bExt hb; clear hb)
          (go_wp2_with fail; refine (Times_any g x1 y1 x2 y2 _ h1 h2 h3 h4).mono ?_; rintro r w1 ⟨rfl, hb⟩; obtain ⟨E, d, rfl⟩ := bExt hb; clear hb)
          rw [HX.out, HY.out, HE.out]
          (go_wp2_with fail; refine (Times_any g x2 y2 x1 y1 _ h3 h4 h1 h2).mono ?_; rintro r w1 ⟨rfl, hb⟩; obtain ⟨E, d, rfl⟩ := bExt hb; clear hb)
          rw [HC1.out, HC2.out, HC3.out, HE.out]
          (go_wp2_with fail; refine (Norm_any g x1 y1 _ h1 h2).mono ?_; rintro r w1 ⟨rfl, hb⟩; obtain ⟨E, d, rfl⟩ := bExt hb; clear hb)
          rw [N1.out]
          (go_wp2_with fail; refine (Norm_any g x2 y2 _ h3 h4).mono ?_; rintro r w1 ⟨rfl, hb⟩; obtain ⟨E, d, rfl⟩ := bExt hb; clear hb)
          rw [N2.out]
          (go_wp2_with fail; refine (Norm_any g X Y _ wx wy).mono ?_; rintro r w1 ⟨rfl, hb⟩; obtain ⟨E, d, rfl⟩ := bExt hb; clear hb)
          rw [N3.out]
          (go_wp2_with fail; refine (Times_any g X Y x3 y3 _ wx wy h5 h6).mono ?_; rintro r w1 ⟨rfl, hb⟩; obtain ⟨E, d, rfl⟩ := bExt hb; clear hb)
          (go_wp2_with fail; refine (Times_any g x2 y2 x3 y3 _ h3 h4 h5 h6).mono ?_; rintro r w1 ⟨rfl, hb⟩; obtain ⟨E, d, rfl⟩ := bExt hb; clear hb)
          rw [HU.out, HV2.out, HE2.out]
          (go_wp2_with fail; refine (Times_any g x1 y1 U V _ h1 h2 wu wv).mono ?_; rintro r w1 ⟨rfl, hb⟩; obtain ⟨E, d, rfl⟩ := bExt hb; clear hb)
          rw [A1.out, A2.out, A3.out]
          (go_wp2_with fail; refine (Times_any g x1 y1 x3 y3 _ h1 h2 h5 h6).mono ?_; rintro r w1 ⟨rfl, hb⟩; obtain ⟨E, d, rfl⟩ := bExt hb; clear hb)
          rw [HE3.out]
          (go_wp2_with fail; refine (Times_any g (x1+x2) (y1+y2) x3 y3 _ (by omega) (by omega) h5 h6).mono ?_; rintro r w1 ⟨rfl, hb⟩; obtain ⟨E, d, rfl⟩ := bExt hb; clear hb)
          rw [HE4.out, Q1.out, Q2.out]
          go_wp2
          go_ret
          exact ⟨rfl, (by repeat (first | exact Below.refl _ _ | refine Below.drew ?_ | refine Below.alloc ?_ (by first | exact Nat.le_refl _ | (simp; done) | (simp; omega) | omega) _ | refine Below.setCell ?_ (by first | exact Nat.le_refl _ | (simp; done) | (simp; omega) | omega) _ | refine bExtW ?_ (by first | exact Nat.le_refl _ | (simp; done) | (simp; omega) | omega) | refine Below.trans ?_ (Below.mono (by assumption) (by first | exact Nat.le_refl _ | (simp; done) | (simp; omega) | omega))))⟩
        · have hne : (TE g (x1+x2) (y1+y2) x3 y3 != 0) = true := by simpa using e2
          clear e1 e2 es et s6
          go_enter Try.func4, Try.ntmps4
          (go_wp2_with fail; refine (alive1_any _).mono ?_; rintro r w1 ⟨rfl, hb⟩; obtain ⟨E, d, rfl⟩ := bExt hb; clear hb)
          (go_wp2_with fail; refine (Times_any g x1 y1 x2 y2 _ h1 h2 h3 h4).mono ?_; rintro r w1 ⟨rfl, hb⟩; obtain ⟨E, d, rfl⟩ := bExt hb; clear hb)
          rw [HX.out, HY.out, HE.out]
          (go_wp2_with fail; refine (Times_any g x2 y2 x1 y1 _ h3 h4 h1 h2).mono ?_; rintro r w1 ⟨rfl, hb⟩; obtain ⟨E, d, rfl⟩ := bExt hb; clear hb)
          rw [HC1.out, HC2.out, HC3.out, HE.out]
          (go_wp2_with fail; refine (Norm_any g x1 y1 _ h1 h2).mono ?_; rintro r w1 ⟨rfl, hb⟩; obtain ⟨E, d, rfl⟩ := bExt hb; clear hb)
          rw [N1.out]
          (go_wp2_with fail; refine (Norm_any g x2 y2 _ h3 h4).mono ?_; rintro r w1 ⟨rfl, hb⟩; obtain ⟨E, d, rfl⟩ := bExt hb; clear hb)
          rw [N2.out]
          (go_wp2_with fail; refine (Norm_any g X Y _ wx wy).mono ?_; rintro r w1 ⟨rfl, hb⟩; obtain ⟨E, d, rfl⟩ := bExt hb; clear hb)
          rw [N3.out]
          (go_wp2_with fail; refine (Times_any g X Y x3 y3 _ wx wy h5 h6).mono ?_; rintro r w1 ⟨rfl, hb⟩; obtain ⟨E, d, rfl⟩ := bExt hb; clear hb)
          (go_wp2_with fail; refine (Times_any g x2 y2 x3 y3 _ h3 h4 h5 h6).mono ?_; rintro r w1 ⟨rfl, hb⟩; obtain ⟨E, d, rfl⟩ := bExt hb; clear hb)
          rw [HU.out, HV2.out, HE2.out]
          (go_wp2_with fail; refine (Times_any g x1 y1 U V _ h1 h2 wu wv).mono ?_; rintro r w1 ⟨rfl, hb⟩; obtain ⟨E, d, rfl⟩ := bExt hb; clear hb)
          rw [A1.out, A2.out, A3.out]
          (go_wp2_with fail; refine (Times_any g x1 y1 x3 y3 _ h1 h2 h5 h6).mono ?_; rintro r w1 ⟨rfl, hb⟩; obtain ⟨E, d, rfl⟩ := bExt hb; clear hb)
          rw [HE3.out]
          (go_wp2_with fail; refine (Times_any g (x1+x2) (y1+y2) x3 y3 _ (by omega) (by omega) h5 h6).mono ?_; rintro r w1 ⟨rfl, hb⟩; obtain ⟨E, d, rfl⟩ := bExt hb; clear hb)
          skip
          go_wp2
          go_ret
          exact ⟨rfl, (by repeat (first | exact Below.refl _ _ | refine Below.drew ?_ | refine Below.alloc ?_ (by first | exact Nat.le_refl _ | (simp; done) | (simp; omega) | omega) _ | refine Below.setCell ?_ (by first | exact Nat.le_refl _ | (simp; done) | (simp; omega) | omega) _ | refine bExtW ?_ (by first | exact Nat.le_refl _ | (simp; done) | (simp; omega) | omega) | refine Below.trans ?_ (Below.mono (by assumption) (by first | exact Nat.le_refl _ | (simp; done) | (simp; omega) | omega))))⟩
      · have hne : (TE g x1 y1 x3 y3 != 0) = true := by simpa using e1
        clear e1
        go_enter Try.func4, Try.ntmps4
        (go_wp2_with fail; refine (alive1_any _).mono ?_; rintro r w1 ⟨rfl, hb⟩; obtain ⟨E, d, rfl⟩ := bExt hb; clear hb)
        (go_wp2_with fail; refine (Times_any g x1 y1 x2 y2 _ h1 h2 h3 h4).mono ?_; rintro r w1 ⟨rfl, hb⟩; obtain ⟨E, d, rfl⟩ := bExt hb; clear hb)
        rw [HX.out, HY.out, HE.out]
        (go_wp2_with fail; refine (Times_any g x2 y2 x1 y1 _ h3 h4 h1 h2).mono ?_; rintro r w1 ⟨rfl, hb⟩; obtain ⟨E, d, rfl⟩ := bExt hb; clear hb)
        rw [HC1.out, HC2.out, HC3.out, HE.out]
        (go_wp2_with fail; refine (Norm_any g x1 y1 _ h1 h2).mono ?_; rintro r w1 ⟨rfl, hb⟩; obtain ⟨E, d, rfl⟩ := bExt hb; clear hb)
        rw [N1.out]
        (go_wp2_with fail; refine (Norm_any g x2 y2 _ h3 h4).mono ?_; rintro r w1 ⟨rfl, hb⟩; obtain ⟨E, d, rfl⟩ := bExt hb; clear hb)
        rw [N2.out]
        (go_wp2_with fail; refine (Norm_any g X Y _ wx wy).mono ?_; rintro r w1 ⟨rfl, hb⟩; obtain ⟨E, d, rfl⟩ := bExt hb; clear hb)
        rw [N3.out]
        (go_wp2_with fail; refine (Times_any g X Y x3 y3 _ wx wy h5 h6).mono ?_; rintro r w1 ⟨rfl, hb⟩; obtain ⟨E, d, rfl⟩ := bExt hb; clear hb)
        (go_wp2_with fail; refine (Times_any g x2 y2 x3 y3 _ h3 h4 h5 h6).mono ?_; rintro r w1 ⟨rfl, hb⟩; obtain ⟨E, d, rfl⟩ := bExt hb; clear hb)
        rw [HU.out, HV2.out, HE2.out]
        (go_wp2_with fail; refine (Times_any g x1 y1 U V _ h1 h2 wu wv).mono ?_; rintro r w1 ⟨rfl, hb⟩; obtain ⟨E, d, rfl⟩ := bExt hb; clear hb)
        rw [A1.out, A2.out, A3.out]
        (go_wp2_with fail; refine (Times_any g x1 y1 x3 y3 _ h1 h2 h5 h6).mono ?_; rintro r w1 ⟨rfl, hb⟩; obtain ⟨E, d, rfl⟩ := bExt hb; clear hb)
        skip
        (go_wp2_with fail; refine (Times_any g (x1+x2) (y1+y2) x3 y3 _ (by omega) (by omega) h5 h6).mono ?_; rintro r w1 ⟨rfl, hb⟩; obtain ⟨E, d, rfl⟩ := bExt hb; clear hb)
        skip
        go_wp2
        go_ret
        exact ⟨rfl, (by repeat (first | exact Below.refl _ _ | refine Below.drew ?_ | refine Below.alloc ?_ (by first | exact Nat.le_refl _ | (simp; done) | (simp; omega) | omega) _ | refine Below.setCell ?_ (by first | exact Nat.le_refl _ | (simp; done) | (simp; omega) | omega) _ | refine bExtW ?_ (by first | exact Nat.le_refl _ | (simp; done) | (simp; omega) | omega) | refine Below.trans ?_ (Below.mono (by assumption) (by first | exact Nat.le_refl _ | (simp; done) | (simp; omega) | omega))))⟩
    · have hb1 : (TE g x2 y2 x3 y3 != 0) = true := by simpa using hu
      clear hu s1 s2 s3
      go_enter Try.func4, Try.ntmps4
      (go_wp2_with fail; refine (alive1_any _).mono ?_; rintro r w1 ⟨rfl, hb⟩; obtain ⟨E, d, rfl⟩ := bExt hb; clear hb)
      (go_wp2_with fail; refine (Times_any g x1 y1 x2 y2 _ h1 h2 h3 h4).mono ?_; rintro r w1 ⟨rfl, hb⟩; obtain ⟨E, d, rfl⟩ := bExt hb; clear hb)
      rw [HX.out, HY.out, HE.out]
      (go_wp2_with fail; refine (Times_any g x2 y2 x1 y1 _ h3 h4 h1 h2).mono ?_; rintro r w1 ⟨rfl, hb⟩; obtain ⟨E, d, rfl⟩ := bExt hb; clear hb)
      rw [HC1.out, HC2.out, HC3.out, HE.out]
      (go_wp2_with fail; refine (Norm_any g x1 y1 _ h1 h2).mono ?_; rintro r w1 ⟨rfl, hb⟩; obtain ⟨E, d, rfl⟩ := bExt hb; clear hb)
      rw [N1.out]
      (go_wp2_with fail; refine (Norm_any g x2 y2 _ h3 h4).mono ?_; rintro r w1 ⟨rfl, hb⟩; obtain ⟨E, d, rfl⟩ := bExt hb; clear hb)
      rw [N2.out]
      (go_wp2_with fail; refine (Norm_any g X Y _ wx wy).mono ?_; rintro r w1 ⟨rfl, hb⟩; obtain ⟨E, d, rfl⟩ := bExt hb; clear hb)
      rw [N3.out]
      (go_wp2_with fail; refine (Times_any g X Y x3 y3 _ wx wy h5 h6).mono ?_; rintro r w1 ⟨rfl, hb⟩; obtain ⟨E, d, rfl⟩ := bExt hb; clear hb)
      (go_wp2_with fail; refine (Times_any g x2 y2 x3 y3 _ h3 h4 h5 h6).mono ?_; rintro r w1 ⟨rfl, hb⟩; obtain ⟨E, d, rfl⟩ := bExt hb; clear hb)
      go_wp2
      go_ret
      exact ⟨rfl, (by repeat (first | exact Below.refl _ _ | refine Below.drew ?_ | refine Below.alloc ?_ (by first | exact Nat.le_refl _ | (simp; done) | (simp; omega) | omega) _ | refine Below.setCell ?_ (by first | exact Nat.le_refl _ | (simp; done) | (simp; omega) | omega) _ | refine bExtW ?_ (by first | exact Nat.le_refl _ | (simp; done) | (simp; omega) | omega) | refine Below.trans ?_ (Below.mono (by assumption) (by first | exact Nat.le_refl _ | (simp; done) | (simp; omega) | omega))))⟩
  · have hb1 : (TE g x1 y1 x2 y2 != 0) = true := by simpa using he
    clear he
    go_enter Try.func4, Try.ntmps4
    (go_wp2_with fail; refine (alive1_any _).mono ?_; rintro r w1 ⟨rfl, hb⟩; obtain ⟨E, d, rfl⟩ := bExt hb; clear hb)
    (go_wp2_with fail; refine (Times_any g x1 y1 x2 y2 _ h1 h2 h3 h4).mono ?_; rintro r w1 ⟨rfl, hb⟩; obtain ⟨E, d, rfl⟩ := bExt hb; clear hb)
    (go_wp2_with fail; refine (Times_any g x2 y2 x1 y1 _ h3 h4 h1 h2).mono ?_; rintro r w1 ⟨rfl, hb⟩; obtain ⟨E, d, rfl⟩ := bExt hb; clear hb)
    rw [HC1.out, HC2.out, HC3.out]
    go_wp2
    go_ret
    exact ⟨rfl, (by repeat (first | exact Below.refl _ _ | refine Below.drew ?_ | refine Below.alloc ?_ (by first | exact Nat.le_refl _ | (simp; done) | (simp; omega) | omega) _ | refine Below.setCell ?_ (by first | exact Nat.le_refl _ | (simp; done) | (simp; omega) | omega) _ | refine bExtW ?_ (by first | exact Nat.le_refl _ | (simp; done) | (simp; omega) | omega) | refine Below.trans ?_ (Below.mono (by assumption) (by first | exact Nat.le_refl _ | (simp; done) | (simp; omega) | omega))))⟩
end Go.Proofs.Ytnjheiiohfhckaa
