/- Lemmas and contracts of functions (what each call returns, and that it changes nothing that was there) that the proof of a law of this seat uses; each lemma states its own conditions. -/
import Derived.Test.YtnjheiiohfhckaaG7
namespace Go.Proofs.Ytnjheiiohfhckaa
open Go.RowKit
set_option linter.unusedVariables false
set_option linter.unusedSimpArgs false
open Z (IsGcd Normal nrm)
theorem fltE_cases (g : Int) (l : List (Int × Int)) : (knB g = false ∧ fltE g l = 1) ∨ (knB g = true ∧ smL l = false ∧ fltE g l = 3) ∨ (knB g = true ∧ smL l = true ∧ fltE g l = 0) := by
  unfold fltE
  cases hk : knB g <;> cases hs : smL l <;> simp
theorem tm_wf {g x y a b : Int} (b1 : -1048576 ≤ x ∧ x ≤ 1048576) (b2 : -1048576 ≤ y ∧ y ≤ 1048576) (b3 : -1048576 ≤ a ∧ a ≤ 1048576) (b4 : -1048576 ≤ b ∧ b ≤ 1048576) : (-9223372036854775808 ≤ tmX x y a b ∧ tmX x y a b ≤ 9223372036854775807) ∧ (-9223372036854775808 ≤ tmY g x y a b ∧ tmY g x y a b ≤ 9223372036854775807) := by
  have m1 := mul_bd b1.1 b1.2 b3.1 b3.2
  have m2 := mul_bd b2.1 b2.2 b4.1 b4.2
  have m3 := mul_bd b1.1 b1.2 b4.1 b4.2
  have m4 := mul_bd b2.1 b2.2 b3.1 b3.2
  unfold tmX tmY
  split <;> omega
set_option maxRecDepth 100000 in
set_option maxHeartbeats 8000000 in
theorem rTimes_any (g x y x2 y2 : Int) (w : World) (hw : (-9223372036854775808 ≤ g ∧ g ≤ 9223372036854775807)) (h0 : (-9223372036854775808 ≤ x ∧ x ≤ 9223372036854775807)) (h1 : (-9223372036854775808 ≤ y ∧ y ≤ 9223372036854775807)) (h2 : (-9223372036854775808 ≤ x2 ∧ x2 ≤ 9223372036854775807)) (h3 : (-9223372036854775808 ≤ y2 ∧ y2 ≤ 9223372036854775807)) :
    Calls Try.prog 17 #[.int .i64 (g), .agg #[.int .i64 (x), .int .i64 (y)], .agg #[.int .i64 (x2), .int .i64 (y2)]] w fun r w' => r = .returned (.tuple #[.agg #[.int .i64 (TX g x y x2 y2), .int .i64 (TY g x y x2 y2)], .int .i64 (TE g x y x2 y2)]) ∧ Below w.heap.size w w' := by
  rcases fltE_cases g [(x,y),(x2,y2)] with ⟨hk, he⟩ | ⟨hk, hs, he⟩ | ⟨hk, hs, he⟩
  · have HT : Hid (Value.tuple #[.agg #[.int .i64 (TX g x y x2 y2), .int .i64 (TY g x y x2 y2)], .int .i64 (TE g x y x2 y2)] = .tuple #[.agg #[.int .i64 (0), .int .i64 (0)], .int .i64 (1)]) := Lib.hid (by simp [TX, TY, TE, he])
    have HK := Lib.hid hk
    clear hk he
    go_enter Try.func17, Try.ntmps17
    (go_wp2_with fail; refine (rGrid_any g _ hw).mono ?_; rintro r w1 ⟨rfl, hb⟩; obtain ⟨E, d, rfl⟩ := bExt hb; clear hb)
    rw [HK.out]
    go_wp2
    refine bodyPost_ret (v := .tuple #[.agg #[.int .i64 (0), .int .i64 (0)], .int .i64 (1)]) (by simp [results, Try.results17, go_sem]) rfl ⟨by rw [HT.out], (by repeat (first | exact Below.refl _ _ | refine Below.drew ?_ | refine below_drewN ?_ _ | refine Below.alloc ?_ (by first | exact Nat.le_refl _ | (simp; done) | (simp; omega) | omega) _ | refine Below.setCell ?_ (by first | exact Nat.le_refl _ | (simp; done) | (simp; omega) | omega) _ | refine bExtW ?_ (by first | exact Nat.le_refl _ | (simp; done) | (simp; omega) | omega) | refine Below.trans ?_ (Below.mono (by assumption) (by first | exact Nat.le_refl _ | (simp; done) | (simp; omega) | omega))))⟩
  · have HT : Hid (Value.tuple #[.agg #[.int .i64 (TX g x y x2 y2), .int .i64 (TY g x y x2 y2)], .int .i64 (TE g x y x2 y2)] = .tuple #[.agg #[.int .i64 (0), .int .i64 (0)], .int .i64 (3)]) := Lib.hid (by simp [TX, TY, TE, he])
    have HK := Lib.hid hk
    clear hk he
    simp only [smL, List.all_cons, List.all_nil, Bool.and_true] at hs
    cases hs1 : smB x y with
    | false =>
      have HS1 := Lib.hid hs1
      clear hs1 hs
      go_enter Try.func17, Try.ntmps17
      (go_wp2_with fail; refine (rGrid_any g _ hw).mono ?_; rintro r w1 ⟨rfl, hb⟩; obtain ⟨E, d, rfl⟩ := bExt hb; clear hb)
      rw [HK.out]
      (go_wp2_with fail; refine (rSmall_any x y _ (by omega) (by omega)).mono ?_; rintro r w1 ⟨rfl, hb⟩; obtain ⟨E, d, rfl⟩ := bExt hb; clear hb)
      rw [HS1.out]
      go_wp2
      refine bodyPost_ret (v := .tuple #[.agg #[.int .i64 (0), .int .i64 (0)], .int .i64 (3)]) (by simp [results, Try.results17, go_sem]) rfl ⟨by rw [HT.out], (by repeat (first | exact Below.refl _ _ | refine Below.drew ?_ | refine below_drewN ?_ _ | refine Below.alloc ?_ (by first | exact Nat.le_refl _ | (simp; done) | (simp; omega) | omega) _ | refine Below.setCell ?_ (by first | exact Nat.le_refl _ | (simp; done) | (simp; omega) | omega) _ | refine bExtW ?_ (by first | exact Nat.le_refl _ | (simp; done) | (simp; omega) | omega) | refine Below.trans ?_ (Below.mono (by assumption) (by first | exact Nat.le_refl _ | (simp; done) | (simp; omega) | omega))))⟩
    | true =>
      rw [hs1, Bool.true_and] at hs
      have HS1 := Lib.hid hs1
      have HS2 := Lib.hid hs
      clear hs1 hs
      go_enter Try.func17, Try.ntmps17
      (go_wp2_with fail; refine (rGrid_any g _ hw).mono ?_; rintro r w1 ⟨rfl, hb⟩; obtain ⟨E, d, rfl⟩ := bExt hb; clear hb)
      rw [HK.out]
      (go_wp2_with fail; refine (rSmall_any x y _ (by omega) (by omega)).mono ?_; rintro r w1 ⟨rfl, hb⟩; obtain ⟨E, d, rfl⟩ := bExt hb; clear hb)
      rw [HS1.out]
      (go_wp2_with fail; refine (rSmall_any x2 y2 _ (by omega) (by omega)).mono ?_; rintro r w1 ⟨rfl, hb⟩; obtain ⟨E, d, rfl⟩ := bExt hb; clear hb)
      rw [HS2.out]
      go_wp2
      refine bodyPost_ret (v := .tuple #[.agg #[.int .i64 (0), .int .i64 (0)], .int .i64 (3)]) (by simp [results, Try.results17, go_sem]) rfl ⟨by rw [HT.out], (by repeat (first | exact Below.refl _ _ | refine Below.drew ?_ | refine below_drewN ?_ _ | refine Below.alloc ?_ (by first | exact Nat.le_refl _ | (simp; done) | (simp; omega) | omega) _ | refine Below.setCell ?_ (by first | exact Nat.le_refl _ | (simp; done) | (simp; omega) | omega) _ | refine bExtW ?_ (by first | exact Nat.le_refl _ | (simp; done) | (simp; omega) | omega) | refine Below.trans ?_ (Below.mono (by assumption) (by first | exact Nat.le_refl _ | (simp; done) | (simp; omega) | omega))))⟩
  · obtain ⟨hg, b1, b2⟩ := fltE_two_ok he
    have HK := Lib.hid hk
    clear hk hs
    have HS1 : Hid (smB x y = true) := Lib.hid (by simp only [smB, decide_eq_true_eq]; exact b1)
    have HS2 : Hid (smB x2 y2 = true) := Lib.hid (by simp only [smB, decide_eq_true_eq]; exact b2)
    have hb : (-9223372036854775808 ≤ tmX x y x2 y2 ∧ tmX x y x2 y2 ≤ 9223372036854775807) ∧ (-9223372036854775808 ≤ tmY g x y x2 y2 ∧ tmY g x y x2 y2 ≤ 9223372036854775807) := tm_wf (by omega) (by omega) (by omega) (by omega)
    cases hs : smB (tmX x y x2 y2) (tmY g x y x2 y2) with
    | false =>
      have HT : Hid (Value.tuple #[.agg #[.int .i64 (TX g x y x2 y2), .int .i64 (TY g x y x2 y2)], .int .i64 (TE g x y x2 y2)] = .tuple #[.agg #[.int .i64 (0), .int .i64 (0)], .int .i64 (4)]) := Lib.hid (by simp [TX, TY, TE, he, tdX, tdY, tdE, hs])
      have HS := Lib.hid hs
      clear hs he
      go_enter Try.func17, Try.ntmps17
      (go_wp2_with fail; refine (rGrid_any g _ hw).mono ?_; rintro r w1 ⟨rfl, hb⟩; obtain ⟨E, d, rfl⟩ := bExt hb; clear hb)
      rw [HK.out]
      (go_wp2_with fail; refine (rSmall_any x y _ (by omega) (by omega)).mono ?_; rintro r w1 ⟨rfl, hb⟩; obtain ⟨E, d, rfl⟩ := bExt hb; clear hb)
      rw [HS1.out]
      (go_wp2_with fail; refine (rSmall_any x2 y2 _ (by omega) (by omega)).mono ?_; rintro r w1 ⟨rfl, hb⟩; obtain ⟨E, d, rfl⟩ := bExt hb; clear hb)
      rw [HS2.out]
      (go_wp2_with fail; refine (rProduct_any g x y x2 y2 _ hg (by omega) (by omega) (by omega) (by omega)).mono ?_; rintro r w1 ⟨rfl, hb⟩; obtain ⟨E, d, rfl⟩ := bExt hb; clear hb)
      (go_wp2_with fail; refine (rSmall_any _ _ _ (by omega) (by omega)).mono ?_; rintro r w1 ⟨rfl, hb⟩; obtain ⟨E, d, rfl⟩ := bExt hb; clear hb)
      rw [HS.out]
      go_wp2
      refine bodyPost_ret (v := .tuple #[.agg #[.int .i64 (0), .int .i64 (0)], .int .i64 (4)]) (by simp [results, Try.results17, go_sem]) rfl ⟨by rw [HT.out], (by repeat (first | exact Below.refl _ _ | refine Below.drew ?_ | refine below_drewN ?_ _ | refine Below.alloc ?_ (by first | exact Nat.le_refl _ | (simp; done) | (simp; omega) | omega) _ | refine Below.setCell ?_ (by first | exact Nat.le_refl _ | (simp; done) | (simp; omega) | omega) _ | refine bExtW ?_ (by first | exact Nat.le_refl _ | (simp; done) | (simp; omega) | omega) | refine Below.trans ?_ (Below.mono (by assumption) (by first | exact Nat.le_refl _ | (simp; done) | (simp; omega) | omega))))⟩
    | true =>
      have HT : Hid (Value.tuple #[.agg #[.int .i64 (TX g x y x2 y2), .int .i64 (TY g x y x2 y2)], .int .i64 (TE g x y x2 y2)] = .tuple #[.agg #[.int .i64 (tmX x y x2 y2), .int .i64 (tmY g x y x2 y2)], .int .i64 (0)]) := Lib.hid (by simp [TX, TY, TE, he, tdX, tdY, tdE, hs])
      have HS := Lib.hid hs
      clear hs he
      generalize hX : tmX x y x2 y2 = X at *
      generalize hY : tmY g x y x2 y2 = Y at *
      have HX := Lib.hid hX
      have HY := Lib.hid hY
      clear hX hY
      go_enter Try.func17, Try.ntmps17
      (go_wp2_with fail; refine (rGrid_any g _ hw).mono ?_; rintro r w1 ⟨rfl, hb⟩; obtain ⟨E, d, rfl⟩ := bExt hb; clear hb)
      rw [HK.out]
      (go_wp2_with fail; refine (rSmall_any x y _ (by omega) (by omega)).mono ?_; rintro r w1 ⟨rfl, hb⟩; obtain ⟨E, d, rfl⟩ := bExt hb; clear hb)
      rw [HS1.out]
      (go_wp2_with fail; refine (rSmall_any x2 y2 _ (by omega) (by omega)).mono ?_; rintro r w1 ⟨rfl, hb⟩; obtain ⟨E, d, rfl⟩ := bExt hb; clear hb)
      rw [HS2.out]
      (go_wp2_with fail; refine (rProduct_any g x y x2 y2 _ hg (by omega) (by omega) (by omega) (by omega)).mono ?_; rintro r w1 ⟨rfl, hb⟩; obtain ⟨E, d, rfl⟩ := bExt hb; clear hb)
      rw [HX.out, HY.out]
      (go_wp2_with fail; refine (rSmall_any _ _ _ (by omega) (by omega)).mono ?_; rintro r w1 ⟨rfl, hb⟩; obtain ⟨E, d, rfl⟩ := bExt hb; clear hb)
      rw [HS.out]
      go_wp2
      refine bodyPost_ret (v := .tuple #[.agg #[.int .i64 (X), .int .i64 (Y)], .int .i64 (0)]) (by simp [results, Try.results17, go_sem]) rfl ⟨by rw [HT.out], (by repeat (first | exact Below.refl _ _ | refine Below.drew ?_ | refine below_drewN ?_ _ | refine Below.alloc ?_ (by first | exact Nat.le_refl _ | (simp; done) | (simp; omega) | omega) _ | refine Below.setCell ?_ (by first | exact Nat.le_refl _ | (simp; done) | (simp; omega) | omega) _ | refine bExtW ?_ (by first | exact Nat.le_refl _ | (simp; done) | (simp; omega) | omega) | refine Below.trans ?_ (Below.mono (by assumption) (by first | exact Nat.le_refl _ | (simp; done) | (simp; omega) | omega))))⟩
set_option maxRecDepth 100000 in
set_option maxHeartbeats 8000000 in
theorem rNorm_any (g x y : Int) (w : World) (hw : (-9223372036854775808 ≤ g ∧ g ≤ 9223372036854775807)) (h0 : (-9223372036854775808 ≤ x ∧ x ≤ 9223372036854775807)) (h1 : (-9223372036854775808 ≤ y ∧ y ≤ 9223372036854775807)) :
    Calls Try.prog 18 #[.int .i64 (g), .agg #[.int .i64 (x), .int .i64 (y)]] w fun r w' => r = .returned (.tuple #[.int .i64 (NV g x y), .int .i64 (NE g x y)]) ∧ Below w.heap.size w w' := by
  rcases fltE_cases g [(x,y)] with ⟨hk, he⟩ | ⟨hk, hs, he⟩ | ⟨hk, hs, he⟩
  · have HT : Hid (Value.tuple #[.int .i64 (NV g x y), .int .i64 (NE g x y)] = .tuple #[.int .i64 (0), .int .i64 (1)]) := Lib.hid (by simp [NV, NE, he])
    have HK := Lib.hid hk
    clear hk he
    go_enter Try.func18, Try.ntmps18
    (go_wp2_with fail; refine (rGrid_any g _ hw).mono ?_; rintro r w1 ⟨rfl, hb⟩; obtain ⟨E, d, rfl⟩ := bExt hb; clear hb)
    rw [HK.out]
    go_wp2
    refine bodyPost_ret (v := .tuple #[.int .i64 (0), .int .i64 (1)]) (by simp [results, Try.results18, go_sem]) rfl ⟨by rw [HT.out], (by repeat (first | exact Below.refl _ _ | refine Below.drew ?_ | refine below_drewN ?_ _ | refine Below.alloc ?_ (by first | exact Nat.le_refl _ | (simp; done) | (simp; omega) | omega) _ | refine Below.setCell ?_ (by first | exact Nat.le_refl _ | (simp; done) | (simp; omega) | omega) _ | refine bExtW ?_ (by first | exact Nat.le_refl _ | (simp; done) | (simp; omega) | omega) | refine Below.trans ?_ (Below.mono (by assumption) (by first | exact Nat.le_refl _ | (simp; done) | (simp; omega) | omega))))⟩
  · have HT : Hid (Value.tuple #[.int .i64 (NV g x y), .int .i64 (NE g x y)] = .tuple #[.int .i64 (0), .int .i64 (3)]) := Lib.hid (by simp [NV, NE, he])
    have HK := Lib.hid hk
    clear hk he
    simp only [smL, List.all_cons, List.all_nil, Bool.and_true] at hs
    have HS1 := Lib.hid hs
    clear hs
    go_enter Try.func18, Try.ntmps18
    (go_wp2_with fail; refine (rGrid_any g _ hw).mono ?_; rintro r w1 ⟨rfl, hb⟩; obtain ⟨E, d, rfl⟩ := bExt hb; clear hb)
    rw [HK.out]
    (go_wp2_with fail; refine (rSmall_any x y _ (by omega) (by omega)).mono ?_; rintro r w1 ⟨rfl, hb⟩; obtain ⟨E, d, rfl⟩ := bExt hb; clear hb)
    rw [HS1.out]
    go_wp2
    refine bodyPost_ret (v := .tuple #[.int .i64 (0), .int .i64 (3)]) (by simp [results, Try.results18, go_sem]) rfl ⟨by rw [HT.out], (by repeat (first | exact Below.refl _ _ | refine Below.drew ?_ | refine below_drewN ?_ _ | refine Below.alloc ?_ (by first | exact Nat.le_refl _ | (simp; done) | (simp; omega) | omega) _ | refine Below.setCell ?_ (by first | exact Nat.le_refl _ | (simp; done) | (simp; omega) | omega) _ | refine bExtW ?_ (by first | exact Nat.le_refl _ | (simp; done) | (simp; omega) | omega) | refine Below.trans ?_ (Below.mono (by assumption) (by first | exact Nat.le_refl _ | (simp; done) | (simp; omega) | omega))))⟩
  · obtain ⟨hg, b1⟩ := fltE_one_ok he
    have HT : Hid (Value.tuple #[.int .i64 (NV g x y), .int .i64 (NE g x y)] = .tuple #[.int .i64 (nrm g (x,y)), .int .i64 (0)]) := Lib.hid (by
      have e : tmX x y (miX g x y) (-y) = nrm g (x,y) := rfl
      simp [NV, NE, he, e])
    have HK := Lib.hid hk
    clear hk hs he
    have HS1 : Hid (smB x y = true) := Lib.hid (by simp only [smB, decide_eq_true_eq]; exact b1)
    go_enter Try.func18, Try.ntmps18
    (go_wp2_with fail; refine (rGrid_any g _ hw).mono ?_; rintro r w1 ⟨rfl, hb⟩; obtain ⟨E, d, rfl⟩ := bExt hb; clear hb)
    rw [HK.out]
    (go_wp2_with fail; refine (rSmall_any x y _ (by omega) (by omega)).mono ?_; rintro r w1 ⟨rfl, hb⟩; obtain ⟨E, d, rfl⟩ := bExt hb; clear hb)
    rw [HS1.out]
    (go_wp2_with fail; refine (rSquare_any g x y _ hg (by omega) (by omega)).mono ?_; rintro r w1 ⟨rfl, hb⟩; obtain ⟨E, d, rfl⟩ := bExt hb; clear hb)
    generalize nrm g (x,y) = N at *
    go_wp2
    refine bodyPost_ret (v := .tuple #[.int .i64 (N), .int .i64 (0)]) (by simp [results, Try.results18, go_sem]) rfl ⟨by rw [HT.out], (by repeat (first | exact Below.refl _ _ | refine Below.drew ?_ | refine below_drewN ?_ _ | refine Below.alloc ?_ (by first | exact Nat.le_refl _ | (simp; done) | (simp; omega) | omega) _ | refine Below.setCell ?_ (by first | exact Nat.le_refl _ | (simp; done) | (simp; omega) | omega) _ | refine bExtW ?_ (by first | exact Nat.le_refl _ | (simp; done) | (simp; omega) | omega) | refine Below.trans ?_ (Below.mono (by assumption) (by first | exact Nat.le_refl _ | (simp; done) | (simp; omega) | omega))))⟩
set_option maxRecDepth 100000 in
set_option maxHeartbeats 8000000 in
theorem reckons_walk (g x1 y1 x2 y2 : Int) (w : World) (hw : (-9223372036854775808 ≤ g ∧ g ≤ 9223372036854775807)) (h1 : (-9223372036854775808 ≤ x1 ∧ x1 ≤ 9223372036854775807)) (h2 : (-9223372036854775808 ≤ y1 ∧ y1 ≤ 9223372036854775807)) (h3 : (-9223372036854775808 ≤ x2 ∧ x2 ≤ 9223372036854775807)) (h4 : (-9223372036854775808 ≤ y2 ∧ y2 ≤ 9223372036854775807)) :
    Calls Try.prog 6 #[.int .i64 (g), .agg #[.int .i64 (x1), .int .i64 (y1)], .agg #[.int .i64 (x2), .int .i64 (y2)]] w fun r w' => r = .returned (.bool true) ∧ Below w.heap.size w w' := by
  go_enter Try.func6, Try.ntmps6
  (go_wp2_with fail; refine (Times_any g x1 y1 x2 y2 _ h1 h2 h3 h4).mono ?_; rintro r w1 ⟨rfl, hb⟩; obtain ⟨E, d, rfl⟩ := bExt hb; clear hb)
  (go_wp2_with fail; refine (rTimes_any g x1 y1 x2 y2 _ hw h1 h2 h3 h4).mono ?_; rintro r w1 ⟨rfl, hb⟩; obtain ⟨E, d, rfl⟩ := bExt hb; clear hb)
  generalize TX g x1 y1 x2 y2 = X
  generalize TY g x1 y1 x2 y2 = Y
  generalize TE g x1 y1 x2 y2 = e1
  (go_wp2_with fail; refine (Norm_any g x1 y1 _ h1 h2).mono ?_; rintro r w1 ⟨rfl, hb⟩; obtain ⟨E, d, rfl⟩ := bExt hb; clear hb)
  (go_wp2_with fail; refine (rNorm_any g x1 y1 _ hw h1 h2).mono ?_; rintro r w1 ⟨rfl, hb⟩; obtain ⟨E, d, rfl⟩ := bExt hb; clear hb)
  generalize NV g x1 y1 = V
  generalize NE g x1 y1 = e2
  by_cases he : fltE g [(x1,y1),(x2,y2)] = 0
  · have hg := (fltE_two_ok he).1
    go_wp2_with fail
    refine (Gcd_ok g x1 y1 x2 y2 _ he).mono ?_
    rintro r w1 ⟨⟨dx, dy⟩, rfl, hgc, hnd, hnb, hb⟩
    obtain ⟨E, d, rfl⟩ := bExt hb
    clear hb
    go_wp2_with fail
    refine (rGcd_ok g x1 y1 x2 y2 _ he).mono ?_
    rintro r w1 ⟨⟨fx, fy⟩, rfl, hgc2, hnd2, hnb2, hb⟩
    obtain ⟨E, d, rfl⟩ := bExt hb
    clear hb
    have := Z.gcd_unique hg hgc hgc2 hnd hnd2
    simp only [Prod.mk.injEq] at this
    obtain ⟨rfl, rfl⟩ := this
    clear hgc hgc2 hnd hnd2 hnb hnb2 he hg
    go_wp2
    refine bodyPost_ret (v := .bool true) (by simp [results, Try.results6, go_sem]) rfl ⟨rfl, (by repeat (first | exact Below.refl _ _ | refine Below.drew ?_ | refine below_drewN ?_ _ | refine Below.alloc ?_ (by first | exact Nat.le_refl _ | (simp; done) | (simp; omega) | omega) _ | refine Below.setCell ?_ (by first | exact Nat.le_refl _ | (simp; done) | (simp; omega) | omega) _ | refine bExtW ?_ (by first | exact Nat.le_refl _ | (simp; done) | (simp; omega) | omega) | refine Below.trans ?_ (Below.mono (by assumption) (by first | exact Nat.le_refl _ | (simp; done) | (simp; omega) | omega))))⟩
  · (go_wp2_with fail; refine (Gcd_bad g x1 y1 x2 y2 _ _ h1 h2 h3 h4 rfl he).mono ?_; rintro r w1 ⟨rfl, hb⟩; obtain ⟨E, d, rfl⟩ := bExt hb; clear hb)
    (go_wp2_with fail; refine (rGcd_bad g x1 y1 x2 y2 _ _ hw h1 h2 h3 h4 rfl he).mono ?_; rintro r w1 ⟨rfl, hb⟩; obtain ⟨E, d, rfl⟩ := bExt hb; clear hb)
    generalize fltE g [(x1,y1),(x2,y2)] = e3
    go_wp2
    refine bodyPost_ret (v := .bool true) (by simp [results, Try.results6, go_sem]) rfl ⟨rfl, (by repeat (first | exact Below.refl _ _ | refine Below.drew ?_ | refine below_drewN ?_ _ | refine Below.alloc ?_ (by first | exact Nat.le_refl _ | (simp; done) | (simp; omega) | omega) _ | refine Below.setCell ?_ (by first | exact Nat.le_refl _ | (simp; done) | (simp; omega) | omega) _ | refine bExtW ?_ (by first | exact Nat.le_refl _ | (simp; done) | (simp; omega) | omega) | refine Below.trans ?_ (Below.mono (by assumption) (by first | exact Nat.le_refl _ | (simp; done) | (simp; omega) | omega))))⟩
end Go.Proofs.Ytnjheiiohfhckaa
