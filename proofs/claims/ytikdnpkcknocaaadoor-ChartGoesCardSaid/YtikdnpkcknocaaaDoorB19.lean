/- Lemmas and contracts of functions (what each call returns, and that it changes nothing that was there) that the proof of a law of this seat uses; each lemma states its own conditions. -/
import Derived.Test.YtikdnpkcknocaaaDoorB18
import Derived.Test.YtikdnpkcknocaaaDoorB11
import Derived.Test.YtikdnpkcknocaaaDoorB07
import Derived.Lib.Builder
import Derived.Lib.RuneBytes
namespace Go.Proofs.YtikdnpkcknocaaaDoor
open Go.RowKit
set_option linter.unusedVariables false
set_option linter.unusedSimpArgs false
open By (bytesOf hasAt sgL encN decL colAt rowF RowR readS rowsF RdR hdR)
def aliveText : ByteArray := ⟨#[226, 150, 161, 10, 194, 183, 226, 150, 136, 10]⟩
theorem alive_read : readS (bytesOf aliveText) = (4, .ok [[0, 1]]) := by
  have h : readS (bytesOf aliveText) = readS [226, 150, 161, 10, 194, 183, 226, 150, 136, 10] := by rfl
  rw [h]
  have h2 := By.read_print (G := 4) (W := 2) (rows := [[0, 1]]) (.inl rfl) (by omega) (by omega) ⟨by simp, by simp⟩ (by simp) (by simp) (by decide +kernel) (by decide +kernel)
  have h3 : By.printR 4 [[0, 1]] = [226, 150, 161, 10, 194, 183, 226, 150, 136, 10] := by decide +kernel
  rw [h3] at h2
  exact h2
set_option maxRecDepth 100000 in
set_option maxHeartbeats 8000000 in
theorem alive2_any (w : World) (hT : Tabs w) : Calls Tryd.prog 13 #[] w fun e w' => e = .returned (.bool true) ∧ Below w.heap.size w w' := by
  have HR := Lib.hid (fun w hT => chRead_any aliveText w (by decide) hT)
  rw [alive_read] at HR
  have HR2 : Hid (∀ w, Tabs w → Calls Tryd.prog 10 #[.string aliveText] w fun r w' => (∃ A C, r = .returned (.tuple #[.agg #[.int .i64 (4), .int .i64 (2), .int .i64 (1), .slice A 2 C], .agg #[.int .i64 (0), .int .i64 (0)]])) ∧ Below w.heap.size w w') := Lib.hid fun w hT => (HR.out w hT).mono fun r w' ⟨⟨A, C, h, _⟩, hb⟩ => ⟨⟨A, C, h⟩, hb⟩
  have HT := Lib.hid hT
  unfold aliveText at HR2
  clear HR hT
  go_enter Tryd.func13, Tryd.ntmps13
  go_wp2_with fail
  refine (HR2.out _ (HT.out.below (by repeat (first | exact Below.refl _ _ | refine Below.drew ?_ | refine below_drewN ?_ _ | refine Below.alloc ?_ (by first | exact Nat.le_refl _ | (simp; done) | (simp; omega) | omega) _ | refine Below.setCell ?_ (by first | exact Nat.le_refl _ | (simp; done) | (simp; omega) | omega) _ | refine bExtW ?_ (by first | exact Nat.le_refl _ | (simp; done) | (simp; omega) | omega) | refine Below.trans ?_ (Below.mono (by assumption) (by first | exact Nat.le_refl _ | (simp; done) | (simp; omega) | omega)))))).mono ?_
  rintro r w3 ⟨⟨A3, C3, rfl⟩, hb3⟩
  have hb4 : Below w.heap.size w w3 := Below.trans (by repeat (first | exact Below.refl _ _ | refine Below.drew ?_ | refine below_drewN ?_ _ | refine Below.alloc ?_ (by first | exact Nat.le_refl _ | (simp; done) | (simp; omega) | omega) _ | refine Below.setCell ?_ (by first | exact Nat.le_refl _ | (simp; done) | (simp; omega) | omega) _ | refine bExtW ?_ (by first | exact Nat.le_refl _ | (simp; done) | (simp; omega) | omega) | refine Below.trans ?_ (Below.mono (by assumption) (by first | exact Nat.le_refl _ | (simp; done) | (simp; omega) | omega)))) hb3
  have hsz3 := hb4.size
  clear hb3
  go_wp2
  go_ret
  exact ⟨rfl, (by repeat (first | exact Below.refl _ _ | refine Below.drew ?_ | refine below_drewN ?_ _ | refine Below.alloc ?_ (by first | exact Nat.le_refl _ | (simp; done) | (simp; omega) | omega) _ | refine Below.setCell ?_ (by first | exact Nat.le_refl _ | (simp; done) | (simp; omega) | omega) _ | refine bExtW ?_ (by first | exact Nat.le_refl _ | (simp; done) | (simp; omega) | omega) | refine Below.trans ?_ (Below.mono (by assumption) (by first | exact Nat.le_refl _ | (simp; done) | (simp; omega) | omega))))⟩
set_option maxRecDepth 100000 in
set_option maxHeartbeats 8000000 in
theorem chAt_bad (G W H : Int) (a : Option Addr) (n c : Nat) (cs : List Int) (x y : Int) (w : World) (hI : IsInts w a n cs) (h0 : (-9223372036854775808 ≤ G ∧ G ≤ 9223372036854775807)) (h1 : (-9223372036854775808 ≤ W ∧ W ≤ 9223372036854775807)) (h2 : (-9223372036854775808 ≤ H ∧ H ≤ 9223372036854775807)) (h3 : n ≤ 9223372036854775807) (he : chE G W H n cs ≠ 0) :
    Calls Tryd.prog 14 #[.agg #[.int .i64 (G), .int .i64 (W), .int .i64 (H), .slice a n c], .agg #[.int .i64 (x), .int .i64 (y)]] w (fun e w' => e = .returned (.tuple #[.int .i64 (0), .int .i64 (chE G W H n cs)]) ∧ Below w.heap.size w w') := by
  have hb : (chE G W H n cs != 0) = true := by simpa using he
  have HT := Lib.hid (fun w hI => chWrong_any G W H a n c cs w hI h0 h1 h2 h3)
  have HI := Lib.hid hI
  clear he hI
  generalize chE G W H n cs = q at *
  go_enter Tryd.func14, Tryd.ntmps14
  (go_wp2_with fail; refine (HT.out _ (HI.out.below (by repeat (first | exact Below.refl _ _ | refine Below.drew ?_ | refine below_drewN ?_ _ | refine Below.alloc ?_ (by first | exact Nat.le_refl _ | (simp; done) | (simp; omega) | omega) _ | refine Below.setCell ?_ (by first | exact Nat.le_refl _ | (simp; done) | (simp; omega) | omega) _ | refine bExtW ?_ (by first | exact Nat.le_refl _ | (simp; done) | (simp; omega) | omega) | refine Below.trans ?_ (Below.mono (by assumption) (by first | exact Nat.le_refl _ | (simp; done) | (simp; omega) | omega)))))).mono ?_; rintro r w1 ⟨rfl, hb⟩; obtain ⟨E, d, rfl⟩ := bExt hb; clear hb)
  go_wp2
  go_ret2
  exact ⟨rfl, (by repeat (first | exact Below.refl _ _ | refine Below.drew ?_ | refine below_drewN ?_ _ | refine Below.alloc ?_ (by first | exact Nat.le_refl _ | (simp; done) | (simp; omega) | omega) _ | refine Below.setCell ?_ (by first | exact Nat.le_refl _ | (simp; done) | (simp; omega) | omega) _ | refine bExtW ?_ (by first | exact Nat.le_refl _ | (simp; done) | (simp; omega) | omega) | refine Below.trans ?_ (Below.mono (by assumption) (by first | exact Nat.le_refl _ | (simp; done) | (simp; omega) | omega))))⟩
/-- A chart's width to the side, its height up: the same cell. -/
theorem cellAt_per {W H : Nat} (cs : List Int) (x y n m : Int) : cellAt W H cs (x + n * W) (y + m * H) = cellAt W H cs x y := by
  unfold cellAt
  rw [Int.add_mul_emod_self_right, Int.add_mul_emod_self_right]
theorem GoesU (G W H : Int) (a : Option Addr) (k c : Nat) (cs : List Int) (x y n m : Int) (hl : cs.length = k) (h0 : (-9223372036854775808 ≤ G ∧ G ≤ 9223372036854775807)) (h1 : (-9223372036854775808 ≤ W ∧ W ≤ 9223372036854775807)) (h2 : (-9223372036854775808 ≤ H ∧ H ≤ 9223372036854775807)) (h3 : k ≤ 9223372036854775807)
    (hx : -1048576 ≤ x ∧ x ≤ 1048576) (hy : -1048576 ≤ y ∧ y ≤ 1048576) (hn : -1000 ≤ n ∧ n ≤ 1000) (hm : -1000 ≤ m ∧ m ≤ 1000) :
    ∃ (v f : Int), (∀ w, IsInts w a k cs → Calls Tryd.prog 14 #[.agg #[.int .i64 (G), .int .i64 (W), .int .i64 (H), .slice a k c], .agg #[.int .i64 (x), .int .i64 (y)]] w fun r w' => r = .returned (.tuple #[.int .i64 (v), .int .i64 (f)]) ∧ Below w.heap.size w w') ∧
      (∀ w, IsInts w a k cs → Calls Tryd.prog 14 #[.agg #[.int .i64 (G), .int .i64 (W), .int .i64 (H), .slice a k c], .agg #[.int .i64 (IntKind.i64.wrap (x + IntKind.i64.wrap (n * W))), .int .i64 (IntKind.i64.wrap (y + IntKind.i64.wrap (m * H)))]] w fun r w' => r = .returned (.tuple #[.int .i64 (v), .int .i64 (f)]) ∧ Below w.heap.size w w') := by
  by_cases he : chE G W H k cs = 0
  · obtain ⟨hG, W', H', rfl, rfl, w1, w2, k1, k2, hk, hC⟩ := chE_zero he
    obtain ⟨g, rfl⟩ : ∃ g : Nat, G = g := ⟨G.toNat, by omega⟩
    have hg : g = 4 ∨ g = 6 := by omega
    have b1 : -64000 ≤ n * (W' : Int) ∧ n * (W' : Int) ≤ 64000 := by
      constructor
      · have := Int.mul_le_mul_of_nonneg_right (show -1000 ≤ n by omega) (show (0 : Int) ≤ W' by omega); omega
      · have := Int.mul_le_mul_of_nonneg_right (show n ≤ 1000 by omega) (show (0 : Int) ≤ W' by omega); omega
    have b2 : -64000 ≤ m * (H' : Int) ∧ m * (H' : Int) ≤ 64000 := by
      constructor
      · have := Int.mul_le_mul_of_nonneg_right (show -1000 ≤ m by omega) (show (0 : Int) ≤ H' by omega); omega
      · have := Int.mul_le_mul_of_nonneg_right (show m ≤ 1000 by omega) (show (0 : Int) ≤ H' by omega); omega
    refine ⟨cellAt W' H' cs x y, 0, fun w hI => At_ok g W' H' k a c cs x y w hI (by omega) w1 w2 k1 k2 hk hC (by omega) (by omega), fun w hI => ?_⟩
    have e1 : IntKind.i64.wrap (n * (W' : Int)) = n * (W' : Int) := IntWalk.i64_in _ (by omega)
    have e2 : IntKind.i64.wrap (m * (H' : Int)) = m * (H' : Int) := IntWalk.i64_in _ (by omega)
    have e3 : IntKind.i64.wrap (x + n * (W' : Int)) = x + n * (W' : Int) := IntWalk.i64_in _ (by omega)
    have e4 : IntKind.i64.wrap (y + m * (H' : Int)) = y + m * (H' : Int) := IntWalk.i64_in _ (by omega)
    rw [e1, e2, e3, e4, ← cellAt_per cs x y n m]
    exact At_ok g W' H' k a c cs _ _ w hI (by omega) w1 w2 k1 k2 hk hC (by omega) (by omega)
  · exact ⟨_, _, fun w hI => chAt_bad G W H a k c cs x y w hI h0 h1 h2 h3 he, fun w hI => chAt_bad G W H a k c cs _ _ w hI h0 h1 h2 h3 he⟩
set_option maxRecDepth 100000 in
set_option maxHeartbeats 8000000 in
theorem goes2_walk (G W H : Int) (a : Option Addr) (k c : Nat) (cs : List Int) (x y n m : Int) (w : World) (hI : IsInts w a k cs) (h0 : (-9223372036854775808 ≤ G ∧ G ≤ 9223372036854775807)) (h1 : (-9223372036854775808 ≤ W ∧ W ≤ 9223372036854775807)) (h2 : (-9223372036854775808 ≤ H ∧ H ≤ 9223372036854775807)) (h3 : k ≤ 9223372036854775807) (hx : (-9223372036854775808 ≤ x ∧ x ≤ 9223372036854775807)) (hy : (-9223372036854775808 ≤ y ∧ y ≤ 9223372036854775807)) (hn : (-9223372036854775808 ≤ n ∧ n ≤ 9223372036854775807)) (hm : (-9223372036854775808 ≤ m ∧ m ≤ 9223372036854775807)) (hT : Tabs w) :
    Calls Tryd.prog 4 #[.agg #[.int .i64 (G), .int .i64 (W), .int .i64 (H), .slice a k c], .agg #[.int .i64 (x), .int .i64 (y)], .int .i64 (n), .int .i64 (m)] w fun e w' => e = .returned (.bool true) ∧ Below w.heap.size w w' := by
  have HA := Lib.hid (fun w hT => alive2_any w hT)
  have HG := Lib.hid (GoesU G W H a k c cs x y n m hI.1 h0 h1 h2 h3)
  have HI := Lib.hid hI
  have HT := Lib.hid hT
  clear hI hT h0 h1 h2
  go_enter Tryd.func4, Tryd.ntmps4
  (go_wp2_with fail; refine (HA.out _ (HT.out.below (by repeat (first | exact Below.refl _ _ | refine Below.drew ?_ | refine below_drewN ?_ _ | refine Below.alloc ?_ (by first | exact Nat.le_refl _ | (simp; done) | (simp; omega) | omega) _ | refine Below.setCell ?_ (by first | exact Nat.le_refl _ | (simp; done) | (simp; omega) | omega) _ | refine bExtW ?_ (by first | exact Nat.le_refl _ | (simp; done) | (simp; omega) | omega) | refine Below.trans ?_ (Below.mono (by assumption) (by first | exact Nat.le_refl _ | (simp; done) | (simp; omega) | omega)))))).mono ?_; rintro r w1 ⟨rfl, hb⟩; obtain ⟨E, d, rfl⟩ := bExt hb; clear hb)
  have hx2 : Hid (∀ P : Prop, (¬ (n < -1000 ∨ 1000 < n ∨ m < -1000 ∨ 1000 < m ∨ 1048576 < x ∨ x < -1048576 ∨ 1048576 < y ∨ y < -1048576) → P) → (¬ (n < -1000 ∨ 1000 < n ∨ m < -1000 ∨ 1000 < m ∨ 1048576 < x ∨ x < -1048576 ∨ 1048576 < y ∨ y < -1048576)) → P) := Lib.hid fun P h h2 => h h2
  obtain ⟨bd, hbd⟩ : ∃ b, decide (n < -1000 ∨ 1000 < n ∨ m < -1000 ∨ 1000 < m ∨ 1048576 < x ∨ x < -1048576 ∨ 1048576 < y ∨ y < -1048576) = b := ⟨_, rfl⟩
  have HBD := Lib.hid hbd
  clear hbd hx2
  go_upto_region 3 with fail
  go_cut [48] (fun c9 wx => c9 = .bool bd ∧ Hid (wx = extW ((w.alloc (.cells #[.int .i64 (G), .int .i64 (W), .int .i64 (H), .slice a k c] 27)).alloc (.cells #[.int .i64 (x), .int .i64 (y)] 36)) E d))
  case first =>
    by_cases p1 : n < -1000
    · have dp1 : decide (n < -1000) = true := by simpa using p1
      have HE : Hid (bd = true) := Lib.hid (by rw [← HBD.out]; exact decide_eq_true (.inl p1))
      clear HG
      go_wp2
      go_meet
      exact ⟨by rw [HE.out], Lib.hid rfl⟩
    · have dp1 : decide (n < -1000) = false := by simpa using p1
      by_cases p2 : 1000 < n
      · have dp2 : decide (1000 < n) = true := by simpa using p2
        have HE : Hid (bd = true) := Lib.hid (by rw [← HBD.out]; exact decide_eq_true (.inr (.inl p2)))
        clear HG
        go_wp2
        go_meet
        exact ⟨by rw [HE.out], Lib.hid rfl⟩
      · have dp2 : decide (1000 < n) = false := by simpa using p2
        by_cases p3 : m < -1000
        · have dp3 : decide (m < -1000) = true := by simpa using p3
          have HE : Hid (bd = true) := Lib.hid (by rw [← HBD.out]; exact decide_eq_true (.inr (.inr (.inl p3))))
          clear HG
          go_wp2
          go_meet
          exact ⟨by rw [HE.out], Lib.hid rfl⟩
        · have dp3 : decide (m < -1000) = false := by simpa using p3
          by_cases p4 : 1000 < m
          · have dp4 : decide (1000 < m) = true := by simpa using p4
            have HE : Hid (bd = true) := Lib.hid (by rw [← HBD.out]; exact decide_eq_true (.inr (.inr (.inr (.inl p4)))))
            clear HG
            go_wp2
            go_meet
            exact ⟨by rw [HE.out], Lib.hid rfl⟩
          · have dp4 : decide (1000 < m) = false := by simpa using p4
            by_cases p5 : 1048576 < x
            · have dp5 : decide (1048576 < x) = true := by simpa using p5
              have HE : Hid (bd = true) := Lib.hid (by rw [← HBD.out]; exact decide_eq_true (.inr (.inr (.inr (.inr (.inl p5))))))
              clear HG
              go_wp2
              go_meet
              exact ⟨by rw [HE.out], Lib.hid rfl⟩
            · have dp5 : decide (1048576 < x) = false := by simpa using p5
              by_cases p6 : x < -1048576
              · have dp6 : decide (x < -1048576) = true := by simpa using p6
                have HE : Hid (bd = true) := Lib.hid (by rw [← HBD.out]; exact decide_eq_true (.inr (.inr (.inr (.inr (.inr (.inl p6)))))))
                clear HG
                go_wp2
                go_meet
                exact ⟨by rw [HE.out], Lib.hid rfl⟩
              · have dp6 : decide (x < -1048576) = false := by simpa using p6
                by_cases p7 : 1048576 < y
                · have dp7 : decide (1048576 < y) = true := by simpa using p7
                  have HE : Hid (bd = true) := Lib.hid (by rw [← HBD.out]; exact decide_eq_true (.inr (.inr (.inr (.inr (.inr (.inr (.inl p7))))))))
                  clear HG
                  go_wp2
                  go_meet
                  exact ⟨by rw [HE.out], Lib.hid rfl⟩
                · have dp7 : decide (1048576 < y) = false := by simpa using p7
                  by_cases p8 : y < -1048576
                  · have dp8 : decide (y < -1048576) = true := by simpa using p8
                    have HE : Hid (bd = true) := Lib.hid (by rw [← HBD.out]; exact decide_eq_true (.inr (.inr (.inr (.inr (.inr (.inr (.inr p8))))))))
                    clear HG
                    go_wp2
                    go_meet
                    exact ⟨by rw [HE.out], Lib.hid rfl⟩
                  · have dp8 : decide (y < -1048576) = false := by simpa using p8
                    have HE : Hid (bd = false) := Lib.hid (by rw [← HBD.out]; exact decide_eq_false (by omega))
                    clear p1 p2 p3 p4 p5 p6 p7 p8
                    go_wp2
                    go_meet
                    exact ⟨by rw [HE.out], Lib.hid rfl⟩
  obtain ⟨rfl, HWC⟩ := hcut
  have hwc := HWC.out
  clear HWC
  subst hwc
  cases bd with
  | true =>
    clear HG HBD
    go_wp2
    go_ret
    exact ⟨rfl, (by repeat (first | exact Below.refl _ _ | refine Below.drew ?_ | refine below_drewN ?_ _ | refine Below.alloc ?_ (by first | exact Nat.le_refl _ | (simp; done) | (simp; omega) | omega) _ | refine Below.setCell ?_ (by first | exact Nat.le_refl _ | (simp; done) | (simp; omega) | omega) _ | refine bExtW ?_ (by first | exact Nat.le_refl _ | (simp; done) | (simp; omega) | omega) | refine Below.trans ?_ (Below.mono (by assumption) (by first | exact Nat.le_refl _ | (simp; done) | (simp; omega) | omega))))⟩
  | false =>
    have hb := of_decide_eq_false HBD.out
    obtain ⟨v, f, K1, K2⟩ := HG.out (by omega) (by omega) (by omega) (by omega)
    obtain ⟨nw, hnw⟩ : ∃ z, IntKind.i64.wrap (n * W) = z := ⟨_, rfl⟩
    obtain ⟨mh, hmh⟩ : ∃ z, IntKind.i64.wrap (m * H) = z := ⟨_, rfl⟩
    rw [hnw, hmh] at K2
    obtain ⟨x', hx'⟩ : ∃ z, IntKind.i64.wrap (x + nw) = z := ⟨_, rfl⟩
    obtain ⟨y', hy'⟩ : ∃ z, IntKind.i64.wrap (y + mh) = z := ⟨_, rfl⟩
    rw [hx', hy'] at K2
    have HK1 := Lib.hid K1; have HK2 := Lib.hid K2
    have t1 : (v == v) = true := by simp
    have t2 : (f == f) = true := by simp
    clear hb HG HBD K1 K2
    (go_wp2_with fail; refine (HK1.out _ (HI.out.below (by repeat (first | exact Below.refl _ _ | refine Below.drew ?_ | refine below_drewN ?_ _ | refine Below.alloc ?_ (by first | exact Nat.le_refl _ | (simp; done) | (simp; omega) | omega) _ | refine Below.setCell ?_ (by first | exact Nat.le_refl _ | (simp; done) | (simp; omega) | omega) _ | refine bExtW ?_ (by first | exact Nat.le_refl _ | (simp; done) | (simp; omega) | omega) | refine Below.trans ?_ (Below.mono (by assumption) (by first | exact Nat.le_refl _ | (simp; done) | (simp; omega) | omega)))))).mono ?_; rintro r w1 ⟨rfl, hb⟩; obtain ⟨E, d, rfl⟩ := bExt hb; clear hb)
    (go_wp2_with fail; refine (HK2.out _ (HI.out.below (by repeat (first | exact Below.refl _ _ | refine Below.drew ?_ | refine below_drewN ?_ _ | refine Below.alloc ?_ (by first | exact Nat.le_refl _ | (simp; done) | (simp; omega) | omega) _ | refine Below.setCell ?_ (by first | exact Nat.le_refl _ | (simp; done) | (simp; omega) | omega) _ | refine bExtW ?_ (by first | exact Nat.le_refl _ | (simp; done) | (simp; omega) | omega) | refine Below.trans ?_ (Below.mono (by assumption) (by first | exact Nat.le_refl _ | (simp; done) | (simp; omega) | omega)))))).mono ?_; rintro r w1 ⟨rfl, hb⟩; obtain ⟨E, d, rfl⟩ := bExt hb; clear hb)
    go_wp2
    go_ret
    exact ⟨rfl, (by repeat (first | exact Below.refl _ _ | refine Below.drew ?_ | refine below_drewN ?_ _ | refine Below.alloc ?_ (by first | exact Nat.le_refl _ | (simp; done) | (simp; omega) | omega) _ | refine Below.setCell ?_ (by first | exact Nat.le_refl _ | (simp; done) | (simp; omega) | omega) _ | refine bExtW ?_ (by first | exact Nat.le_refl _ | (simp; done) | (simp; omega) | omega) | refine Below.trans ?_ (Below.mono (by assumption) (by first | exact Nat.le_refl _ | (simp; done) | (simp; omega) | omega))))⟩
end Go.Proofs.YtikdnpkcknocaaaDoor

namespace Go.Proofs.YtikdnpkcknocaaaDoor
open Go.RowKit
set_option linter.unusedVariables false
set_option linter.unusedSimpArgs false
/-- The colour of a cell within. -/
def colK (W : Nat) (cs : List Int) (y x : Nat) : Nat := (cs.getD (y * W + x) 0).toNat
/-- A row as bytes, as far as x. -/
def rowB (W : Nat) (cs : List Int) (y : Nat) : Nat → ByteArray
  | 0 => ⟨#[]⟩
  | x + 1 => rowB W cs y x ++ sigS (colK W cs y x)
/-- The lowest y rows. -/
def botB (W : Nat) (cs : List Int) : Nat → ByteArray
  | 0 => ⟨#[]⟩
  | y + 1 => (rowB W cs y W ++ ⟨#[10]⟩) ++ botB W cs y
def hdB (G : Nat) : ByteArray := if G = 4 then ⟨#[226, 150, 161, 10]⟩ else ⟨#[226, 150, 179, 10]⟩
def printB (G W H : Nat) (cs : List Int) : ByteArray := hdB G ++ botB W cs H
theorem sigs_at {q n : Nat} (h : q < n) : (sigs n)[q]? = some (.string (sigS q)) := by
  unfold sigs
  rw [List.getElem?_map, List.getElem?_range h]; rfl
theorem cell_col {W H n x y : Nat} {cs : List Int} (hx : x < W) (hy : y < H) (hC : ∀ x ∈ cs, 0 ≤ x ∧ x < 62) (hl : cs.length = n) (hn : n = W * H) : cellAt W H cs x y = (colK W cs y x : Int) ∧ colK W cs y x < 62 := by
  have hp : y * W + x < cs.length := by
    have h1 : (y + 1) * W ≤ H * W := Nat.mul_le_mul_right W (by omega)
    have h2 : (y + 1) * W = y * W + W := Nat.succ_mul y W
    rw [hl, hn, Nat.mul_comm W H]; omega
  have h3 := hC _ (List.getElem_mem hp)
  have h4 : cs.getD (y * W + x) 0 = cs[y * W + x] := by rw [List.getD_eq_getElem?_getD, List.getElem?_eq_getElem hp]; rfl
  unfold cellAt colK
  rw [Int.emod_eq_of_lt (by omega) (by omega), Int.emod_eq_of_lt (by omega) (by omega), Int.toNat_natCast, Int.toNat_natCast, h4]
  omega
theorem sigS_size : ∀ c : Fin 62, (sigS c).size ≤ 3 := by decide +kernel
theorem rowB_size {W : Nat} {cs : List Int} {y : Nat} (h : ∀ x, x < W → colK W cs y x < 62) : ∀ x, x ≤ W → (rowB W cs y x).size ≤ 3 * x
  | 0, _ => by simp [rowB, ByteArray.size]
  | x + 1, hx => by
    have ih := rowB_size h x (by omega)
    have h1 := sigS_size ⟨_, h x (by omega)⟩
    simp only [rowB, ByteArray.size_append]
    simp only at h1
    omega
theorem botB_size {W : Nat} {cs : List Int} {H : Nat} (h : ∀ y x, y < H → x < W → colK W cs y x < 62) : ∀ y, y ≤ H → (botB W cs y).size ≤ (3 * W + 1) * y
  | 0, _ => by simp [botB, ByteArray.size]
  | y + 1, hy => by
    have ih := botB_size h y (by omega)
    have h1 := rowB_size (h y · (by omega)) W (Nat.le_refl _)
    have h2 : (⟨#[10]⟩ : ByteArray).size = 1 := rfl
    simp only [botB, ByteArray.size_append, h2]
    rw [Nat.mul_succ]
    omega
end Go.Proofs.YtikdnpkcknocaaaDoor

namespace Go.Proofs.YtikdnpkcknocaaaDoor
open Go.RowKit
set_option linter.unusedVariables false
set_option linter.unusedSimpArgs false
set_option maxRecDepth 100000 in
set_option maxHeartbeats 8000000 in
theorem okU8 : ElemOk 61 5 1 1 (.int .u8 0) := ⟨rfl, rfl, rfl, by omega⟩
set_option maxRecDepth 100000 in
set_option maxHeartbeats 8000000 in
theorem bld_info : ∃ j, Tryd.prog.info? 63 = some j ∧ j.size = 2 := ⟨_, rfl, rfl⟩
theorem bld_lies : liesAt Tryd.prog Tryd.prog.depth 63 (2 / Tryd.prog.cellsOf 63) 0 63 1 = true := by kernel_rfl
set_option maxRecDepth 100000 in
set_option maxHeartbeats 8000000 in
theorem cc_used (b : Nat) (w : World) (h0 : w.cell? ⟨b, 0, none⟩ = some (.pointer (some ⟨b, 0, none⟩))) :
    Calls Tryd.prog 32 #[.pointer (some ⟨b, 0, none⟩)] w fun e w' => e = .returned (.tuple #[]) ∧ w' = w := by
  obtain ⟨j, hj, _⟩ := bld_info
  go_enter Tryd.func32, Tryd.ntmps32
  go_wp2
  rw [Lib.run_neq_ptr_same w _ Tryd.underlying60 hj]
  go_wp2
  go_end0
  exact ⟨rfl, rfl⟩
set_option maxRecDepth 100000 in
set_option maxHeartbeats 8000000 in
theorem cc_fresh (b : Nat) (w : World) (h0 : w.cell? ⟨b, 0, none⟩ = some (.pointer none)) (hsh : w.shape? b = some (63, 2)) (hfz : w.frozen? ⟨b, 0, none⟩ = false) :
    Calls Tryd.prog 32 #[.pointer (some ⟨b, 0, none⟩)] w fun e w' => e = .returned (.tuple #[]) ∧ w' = w.setCell ⟨b, 0, none⟩ (.pointer (some ⟨b, 0, none⟩)) := by
  obtain ⟨j, hj, hjs⟩ := bld_info
  go_enter Tryd.func32, Tryd.ntmps32
  go_wp2
  rw [Lib.run_to_unsafe w ⟨b, 0, none⟩ Tryd.underlying60 Tryd.underlying79 hj (by rw [hjs]; decide) hsh (Nat.zero_lt_succ 1)]
  simp only [Result.andThen]
  rw [Oper.upon_value]
  go_wp2
  rw [run_callFunc_extern Tryd.func34 (by kernel_rfl) (by kernel_rfl) (by kernel_rfl) (e := Extern.AbiNoEscape.same) (by kernel_rfl)]
  rw [Lib.run_noEscape]
  simp only [Result.andThen]
  rw [Oper.upon_value]
  go_wp2
  rw [Lib.run_from_unsafe w ⟨b, 0, none⟩ Tryd.underlying79 Tryd.underlying60 hj hsh bld_lies]
  simp only [Result.andThen]
  rw [Oper.upon_value]
  go_wp2
  go_end0
  exact ⟨rfl, rfl⟩
set_option maxRecDepth 100000 in
set_option maxHeartbeats 8000000 in
theorem bld_check (B b : Nat) (bs : List Value) (w : World) (h : Lib.IsBuilder 63 5 B b bs w) :
    Calls Tryd.prog 32 #[.pointer (some ⟨b, 0, none⟩)] w fun e w' => e = .returned (.tuple #[]) ∧ (Lib.BuilderAt 63 5 B b (.pointer (some ⟨b, 0, none⟩)) bs w' ∧ Below B w w') := by
  rcases h with h | h
  · refine (cc_fresh b w h.cell0 h.shape h.frozen0).mono ?_
    rintro e w' ⟨rfl, rfl⟩
    exact ⟨rfl, h.used _, (Below.refl B w).setCell (p := ⟨b, 0, none⟩) h.1 _⟩
  · refine (cc_used b w h.cell0).mono ?_
    rintro e w' ⟨rfl, rfl⟩
    exact ⟨rfl, h, Below.refl B _⟩
set_option maxRecDepth 100000 in
set_option maxHeartbeats 8000000 in
theorem bld_byte (B b : Nat) (bs : List Value) (c : Nat) (hc : c < 256) (w : World) (h : Lib.IsBuilder 63 5 B b bs w) (hlen : bs.length ≤ 1000000) (hBw : B ≤ w.heap.size) :
    Calls Tryd.prog 28 #[.pointer (some ⟨b, 0, none⟩), .int .u8 c] w fun e w' => e = .returned .nilIface ∧ (Lib.BuilderAt 63 5 B b (.pointer (some ⟨b, 0, none⟩)) (bs ++ [.int .u8 c]) w' ∧ Below B w w') := by
  go_enter Tryd.func28, Tryd.ntmps28
  go_wp2_with (go_at_call 32; refine (bld_check B b bs _ h).mono ?_)
  rintro e w1 ⟨rfl, h1, hb1⟩
  obtain ⟨hB, v, hbk, hown, hne⟩ := h1
  have c0 : w1.cell? ⟨b, 0, none⟩ = some (.pointer (some ⟨b, 0, none⟩)) := by rw [Lib.cell_of_heap hbk]; rfl
  have c1 : w1.cell? ⟨b, 1, none⟩ = some v := by rw [Lib.cell_of_heap hbk]; rfl
  have hlt : b < w1.heap.size := (Array.getElem?_eq_some_iff.1 hbk).1
  have hw1 := hb1.size
  go_wp2_with (at_builtin; go_loud (refine wpAppK okU8 rfl (.tmp 11) (.tmp 13) rfl B v bs.length bs (.int .u8 c) w1.heap.size rfl (hown.alloc _) rfl (World.cell?_alloc_new _ _ _ _) rfl (by omega) (by omega) (by have := World.size_alloc w1 (.cells #[.int .u8 c] 5); omega) ?_))
  intro v' w2 hown' hgrow _
  have hb2 : w2.heap[b]? = some (.cells #[.pointer (some ⟨b, 0, none⟩), v] 63 (0, 0)) := by
    rw [hgrow.block b (by simp; omega) (fun e => hne e.symm), Lib.alloc_old w1 _ b hlt]
    exact hbk
  have d0 : w2.cell? ⟨b, 0, none⟩ = some (.pointer (some ⟨b, 0, none⟩)) := by rw [Lib.cell_of_heap hb2]; rfl
  have d1 : w2.cell? ⟨b, 1, none⟩ = some v := by rw [Lib.cell_of_heap hb2]; rfl
  have f1 : w2.frozen? ⟨b, 1, none⟩ = false := Lib.frozen_of_heap hb2 1
  obtain ⟨g, cap, rfl⟩ := own_some hown' (by omega)
  go_wp2
  go_ret
  refine ⟨rfl, ?_, ?_⟩
  · exact Lib.BuilderAt.put (T := 63) (e := 5) hB hb2 (bs' := bs ++ [.int .u8 c]) (by simpa using hown') (by decide)
  · exact ((hb1.alloc (by have := hb1.size; omega) _).grown hgrow (by have := hb1.size; simp; omega) (fun k hk => (hown.lt k hk).1)).setCell (p := ⟨b, 1, none⟩) hB _
end Go.Proofs.YtikdnpkcknocaaaDoor
