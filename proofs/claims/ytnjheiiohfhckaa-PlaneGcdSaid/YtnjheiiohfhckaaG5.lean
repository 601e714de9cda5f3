/- Lemmas and contracts of functions (what each call returns, and that it changes nothing that was there) that the proof of a law of this seat uses; each lemma states its own conditions. -/
import Derived.Test.YtnjheiiohfhckaaG4

namespace Go.Proofs.Ytnjheiiohfhckaa
open Go.RowKit
open Z (IsGcd Normal nrm)
theorem gcd_law {g : Int} (hg : Z.G g) {a b c d f : Z.Pt} (h1 : IsGcd g a b d) (h2 : IsGcd g (Z.mul g a c) (Z.mul g b c) f) (hn : nrm g f ≤ 3 * (1048576 * 1048576)) :
    Z.Dvd g c f ∧ Z.Dvd g (Z.mul g c d) f ∧ Z.Dvd g f (Z.mul g c d) ∧ ptB (Z.mul g c d) := by
  have hc : Z.Dvd g c f := h2.great ⟨a, rfl⟩ ⟨b, rfl⟩
  have hcd : Z.Dvd g (Z.mul g c d) f := by
    obtain ⟨p, hp⟩ := h1.left
    obtain ⟨q, hq⟩ := h1.right
    refine h2.great ⟨p, ?_⟩ ⟨q, ?_⟩
    · rw [hp, Z.mul_assoc, Z.mul_comm g d c]
    · rw [hq, Z.mul_assoc, Z.mul_comm g d c]
  have hf : Z.Dvd g f (Z.mul g c d) := by
    obtain ⟨u, v, e⟩ := h1.comb
    rw [e, Z.mul_add, Z.mul_comm g c (Z.mul g u a), Z.mul_comm g c (Z.mul g v b), Z.mul_assoc, Z.mul_assoc]
    exact Z.dvd_add (Z.dvd_mul h2.left u) (Z.dvd_mul h2.right v)
  refine ⟨hc, hcd, hf, ptB_of hg ?_⟩
  by_cases h0 : f = (0,0)
  · obtain ⟨q, e⟩ := hf
    rw [e, h0, Z.mul_zero]; simp [nrm, tmX]
  · obtain ⟨q, e⟩ := hcd
    have e2 := Z.nrm_mul g q (Z.mul g c d)
    rw [← e] at e2
    have hq : q ≠ (0,0) := by intro hq; rw [hq, Z.zero_mul] at e; exact h0 e
    have h3 := Z.nrm_pos hg hq
    have h4 := Z.nrm_nonneg hg (Z.mul g c d)
    have := Int.mul_le_mul_of_nonneg_right h3 h4
    omega
set_option maxRecDepth 100000 in
set_option maxHeartbeats 8000000 in
theorem gcd_walk (g x1 y1 x2 y2 x3 y3 : Int) (w : World) (h1 : (-9223372036854775808 ≤ x1 ∧ x1 ≤ 9223372036854775807)) (h2 : (-9223372036854775808 ≤ y1 ∧ y1 ≤ 9223372036854775807)) (h3 : (-9223372036854775808 ≤ x2 ∧ x2 ≤ 9223372036854775807)) (h4 : (-9223372036854775808 ≤ y2 ∧ y2 ≤ 9223372036854775807)) (h5 : (-9223372036854775808 ≤ x3 ∧ x3 ≤ 9223372036854775807)) (h6 : (-9223372036854775808 ≤ y3 ∧ y3 ≤ 9223372036854775807)) :
    Calls Try.prog 5 #[.int .i64 (g), .agg #[.int .i64 (x1), .int .i64 (y1)], .agg #[.int .i64 (x2), .int .i64 (y2)], .agg #[.int .i64 (x3), .int .i64 (y3)]] w fun r w' => r = .returned (.bool true) ∧ Below w.heap.size w w' := by
  by_cases he : fltE g [(x1,y1),(x2,y2)] = 0
  · obtain ⟨hg, s1, s2⟩ := fltE_two_ok he
    go_enter Try.func5, Try.ntmps5
    (go_wp2_with fail; refine (alive1_any _).mono ?_; rintro r w1 ⟨rfl, hb⟩; obtain ⟨E, d, rfl⟩ := bExt hb; clear hb)
    go_wp2_with fail
    refine (Gcd_ok g x1 y1 x2 y2 _ he).mono ?_
    rintro r w1 ⟨⟨dx, dy⟩, rfl, hgc, hnd, hnb, hb⟩
    obtain ⟨E, d, rfl⟩ := bExt hb
    clear hb
    have bd := ptB_of hg hnb
    simp only [ptB] at bd
    have HGC := Lib.hid hgc
    clear hgc hnd hnb
    (go_wp2_with fail; refine (rDivides_true g dx dy x1 y1 _ hg (by omega) (by omega) (by omega) (by omega) HGC.out.left).mono ?_; rintro r w1 ⟨rfl, hb⟩; obtain ⟨E, d, rfl⟩ := bExt hb; clear hb)
    (go_wp2_with fail; refine (rDivides_true g dx dy x2 y2 _ hg (by omega) (by omega) (by omega) (by omega) HGC.out.right).mono ?_; rintro r w1 ⟨rfl, hb⟩; obtain ⟨E, d, rfl⟩ := bExt hb; clear hb)
    by_cases e1 : TE g x1 y1 x3 y3 = 0
    · by_cases e2 : TE g x2 y2 x3 y3 = 0
      · obtain ⟨_, _, s3, s4, ex, ey⟩ := TE_zero e1
        obtain ⟨_, _, _, s5, fx, fy⟩ := TE_zero e2
        have HE1 := Lib.hid e1
        have HE2 := Lib.hid e2
        have hf : fltE g [(TX g x1 y1 x3 y3, TY g x1 y1 x3 y3), (TX g x2 y2 x3 y3, TY g x2 y2 x3 y3)] = 0 := by
          rw [ex, ey, fx, fy]; exact fltE_two_zero hg s4 s5
        have HX1 : Hid ((TX g x1 y1 x3 y3, TY g x1 y1 x3 y3) = Z.mul g (x1,y1) (x3,y3)) := Lib.hid (by rw [ex, ey]; rfl)
        have HX2 : Hid ((TX g x2 y2 x3 y3, TY g x2 y2 x3 y3) = Z.mul g (x2,y2) (x3,y3)) := Lib.hid (by rw [fx, fy]; rfl)
        unfold sm at s3
        have b3 : (-1048576 ≤ x3 ∧ x3 ≤ 1048576) ∧ (-1048576 ≤ y3 ∧ y3 ≤ 1048576) := by omega
        clear e1 e2 ex ey fx fy s4 s5 s3
        have HF := Lib.hid hf
        clear hf
        (go_wp2_with fail; refine (Times_any g x1 y1 x3 y3 _ h1 h2 h5 h6).mono ?_; rintro r w1 ⟨rfl, hb⟩; obtain ⟨E, d, rfl⟩ := bExt hb; clear hb)
        rw [HE1.out]
        (go_wp2_with fail; refine (Times_any g x2 y2 x3 y3 _ h3 h4 h5 h6).mono ?_; rintro r w1 ⟨rfl, hb⟩; obtain ⟨E, d, rfl⟩ := bExt hb; clear hb)
        rw [HE2.out]
        go_wp2_with fail
        refine (Gcd_ok g _ _ _ _ _ HF.out).mono ?_
        rintro r w1 ⟨⟨fx, fy⟩, rfl, hgc, hnd, hnb, hb⟩
        obtain ⟨E, d, rfl⟩ := bExt hb
        clear hb
        rw [HX1.out, HX2.out] at hgc
        obtain ⟨q1, q2, q3, q4⟩ := gcd_law hg HGC.out hgc hnb
        have bf := ptB_of hg hnb
        simp only [ptB] at bf q4
        have Q1 := Lib.hid q1
        have Q2 : Hid (Z.Dvd g (tmX x3 y3 dx dy, tmY g x3 y3 dx dy) (fx,fy)) := Lib.hid q2
        have Q3 : Hid (Z.Dvd g (fx,fy) (tmX x3 y3 dx dy, tmY g x3 y3 dx dy)) := Lib.hid q3
        simp only [Z.mul] at q4
        clear hgc hnd hnb q1 q2 q3
        go_wp2_with fail
        (refine wp_region_ext (by kernel_rfl) (by kernel_rfl) ?_; (repeat (first | (refine ext_step (fun K hK => ?_); go_simp; first | (refine hK _ ?_; clear hK K) | (apply Exists.intro; refine ⟨fun _ _ => ?_, hK _ ?_⟩; (first | (go_at_call 15; with_reducible exact extOf (rDivides_true g x3 y3 fx fy _ hg (by omega) (by omega) (by omega) (by omega) Q1.out)) | (go_at_call 15; with_reducible exact extOf (rDivides_true g (tmX x3 y3 dx dy) (tmY g x3 y3 dx dy) fx fy _ hg (by omega) (by omega) (by omega) (by omega) Q2.out)) | (go_at_call 15; with_reducible exact extOf (rDivides_true g fx fy (tmX x3 y3 dx dy) (tmY g x3 y3 dx dy) _ hg (by omega) (by omega) (by omega) (by omega) Q3.out)) | (go_at_call 16; exact extOf (rProduct_any g x3 y3 dx dy _ hg (by omega) (by omega) (by omega) (by omega)))); clear hK K)))); refine wpQuiet_nil ?_; intro E d)
        go_wp2
        go_ret
        exact ⟨rfl, (by repeat (first | exact Below.refl _ _ | refine Below.drew ?_ | refine below_drewN ?_ _ | refine Below.alloc ?_ (by first | exact Nat.le_refl _ | (simp; done) | (simp; omega) | omega) _ | refine Below.setCell ?_ (by first | exact Nat.le_refl _ | (simp; done) | (simp; omega) | omega) _ | refine bExtW ?_ (by first | exact Nat.le_refl _ | (simp; done) | (simp; omega) | omega) | refine Below.trans ?_ (Below.mono (by assumption) (by first | exact Nat.le_refl _ | (simp; done) | (simp; omega) | omega))))⟩
      · have hne : (TE g x2 y2 x3 y3 != 0) = true := by simpa using e2
        clear e2
        (go_wp2_with fail; refine (Times_any g x1 y1 x3 y3 _ h1 h2 h5 h6).mono ?_; rintro r w1 ⟨rfl, hb⟩; obtain ⟨E, d, rfl⟩ := bExt hb; clear hb)
        rw [e1]
        (go_wp2_with fail; refine (Times_any g x2 y2 x3 y3 _ h3 h4 h5 h6).mono ?_; rintro r w1 ⟨rfl, hb⟩; obtain ⟨E, d, rfl⟩ := bExt hb; clear hb)
        go_wp2
        go_ret
        exact ⟨rfl, (by repeat (first | exact Below.refl _ _ | refine Below.drew ?_ | refine below_drewN ?_ _ | refine Below.alloc ?_ (by first | exact Nat.le_refl _ | (simp; done) | (simp; omega) | omega) _ | refine Below.setCell ?_ (by first | exact Nat.le_refl _ | (simp; done) | (simp; omega) | omega) _ | refine bExtW ?_ (by first | exact Nat.le_refl _ | (simp; done) | (simp; omega) | omega) | refine Below.trans ?_ (Below.mono (by assumption) (by first | exact Nat.le_refl _ | (simp; done) | (simp; omega) | omega))))⟩
    · have hne : (TE g x1 y1 x3 y3 != 0) = true := by simpa using e1
      clear e1
      (go_wp2_with fail; refine (Times_any g x1 y1 x3 y3 _ h1 h2 h5 h6).mono ?_; rintro r w1 ⟨rfl, hb⟩; obtain ⟨E, d, rfl⟩ := bExt hb; clear hb)
      (go_wp2_with fail; refine (Times_any g x2 y2 x3 y3 _ h3 h4 h5 h6).mono ?_; rintro r w1 ⟨rfl, hb⟩; obtain ⟨E, d, rfl⟩ := bExt hb; clear hb)
      go_wp2
      go_ret
      exact ⟨rfl, (by repeat (first | exact Below.refl _ _ | refine Below.drew ?_ | refine below_drewN ?_ _ | refine Below.alloc ?_ (by first | exact Nat.le_refl _ | (simp; done) | (simp; omega) | omega) _ | refine Below.setCell ?_ (by first | exact Nat.le_refl _ | (simp; done) | (simp; omega) | omega) _ | refine bExtW ?_ (by first | exact Nat.le_refl _ | (simp; done) | (simp; omega) | omega) | refine Below.trans ?_ (Below.mono (by assumption) (by first | exact Nat.le_refl _ | (simp; done) | (simp; omega) | omega))))⟩
  · have hne : (fltE g [(x1,y1),(x2,y2)] != 0) = true := by simpa using he
    go_enter Try.func5, Try.ntmps5
    (go_wp2_with fail; refine (alive1_any _).mono ?_; rintro r w1 ⟨rfl, hb⟩; obtain ⟨E, d, rfl⟩ := bExt hb; clear hb)
    (go_wp2_with fail; refine (Gcd_bad g x1 y1 x2 y2 _ _ h1 h2 h3 h4 rfl he).mono ?_; rintro r w1 ⟨rfl, hb⟩; obtain ⟨E, d, rfl⟩ := bExt hb; clear hb)
    go_wp2
    go_ret
    exact ⟨rfl, (by repeat (first | exact Below.refl _ _ | refine Below.drew ?_ | refine below_drewN ?_ _ | refine Below.alloc ?_ (by first | exact Nat.le_refl _ | (simp; done) | (simp; omega) | omega) _ | refine Below.setCell ?_ (by first | exact Nat.le_refl _ | (simp; done) | (simp; omega) | omega) _ | refine bExtW ?_ (by first | exact Nat.le_refl _ | (simp; done) | (simp; omega) | omega) | refine Below.trans ?_ (Below.mono (by assumption) (by first | exact Nat.le_refl _ | (simp; done) | (simp; omega) | omega))))⟩
end Go.Proofs.Ytnjheiiohfhckaa
