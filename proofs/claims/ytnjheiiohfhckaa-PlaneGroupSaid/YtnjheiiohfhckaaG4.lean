/- Lemmas and contracts of functions (what each call returns, and that it changes nothing that was there) that the proof of a law of this seat uses; each lemma states its own conditions. -/
import Derived.Test.YtnjheiiohfhckaaG3
namespace Go.Proofs.Ytnjheiiohfhckaa
open Go.RowKit
set_option linter.unusedVariables false
set_option linter.unusedSimpArgs false
open Z (IsGcd Normal nrm)
set_option maxRecDepth 100000 in
set_option maxHeartbeats 8000000 in
theorem rSquare_any (g x y : Int) (w : World) (hg : g = 4 ∨ g = 6) (b1 : -1000000000 ≤ x ∧ x ≤ 1000000000) (b2 : -1000000000 ≤ y ∧ y ≤ 1000000000) :
    Calls Try.prog 38 #[.int .i64 (g), .agg #[.int .i64 (x), .int .i64 (y)]] w fun e w' => e = .returned (.int .i64 (nrm g (x,y))) ∧ Below w.heap.size w w' := by
  have m1 := mul_bd b1.1 b1.2 b1.1 b1.2
  have m2 := mul_bd b1.1 b1.2 b2.1 b2.2
  have m3 := mul_bd b2.1 b2.2 b2.1 b2.2
  rcases hg with rfl | rfl
  · have HE := Lib.hid (show nrm 4 (x,y) = x*x + y*y from Z.nrm4 (x,y))
    go_enter Try.func38, Try.ntmps38
    go_wp2
    go_ret
    exact ⟨by rw [HE.out]; rfl, (by repeat (first | exact Below.refl _ _ | refine Below.drew ?_ | refine below_drewN ?_ _ | refine Below.alloc ?_ (by first | exact Nat.le_refl _ | (simp; done) | (simp; omega) | omega) _ | refine Below.setCell ?_ (by first | exact Nat.le_refl _ | (simp; done) | (simp; omega) | omega) _ | refine bExtW ?_ (by first | exact Nat.le_refl _ | (simp; done) | (simp; omega) | omega) | refine Below.trans ?_ (Below.mono (by assumption) (by first | exact Nat.le_refl _ | (simp; done) | (simp; omega) | omega))))⟩
  · have HE := Lib.hid (show nrm 6 (x,y) = x*x + x*y + y*y from Z.nrm6 (x,y))
    go_enter Try.func38, Try.ntmps38
    go_wp2
    go_ret
    exact ⟨by rw [HE.out]; rfl, (by repeat (first | exact Below.refl _ _ | refine Below.drew ?_ | refine below_drewN ?_ _ | refine Below.alloc ?_ (by first | exact Nat.le_refl _ | (simp; done) | (simp; omega) | omega) _ | refine Below.setCell ?_ (by first | exact Nat.le_refl _ | (simp; done) | (simp; omega) | omega) _ | refine bExtW ?_ (by first | exact Nat.le_refl _ | (simp; done) | (simp; omega) | omega) | refine Below.trans ?_ (Below.mono (by assumption) (by first | exact Nat.le_refl _ | (simp; done) | (simp; omega) | omega))))⟩
set_option maxRecDepth 100000 in
set_option maxHeartbeats 8000000 in
theorem rDivides_true (g x y x2 y2 : Int) (w : World) (hg : g = 4 ∨ g = 6) (b1 : -5000000 ≤ x ∧ x ≤ 5000000) (b2 : -5000000 ≤ y ∧ y ≤ 5000000) (b3 : -5000000 ≤ x2 ∧ x2 ≤ 5000000) (b4 : -5000000 ≤ y2 ∧ y2 ≤ 5000000) (hd : Z.Dvd g (x,y) (x2,y2)) :
    Calls Try.prog 15 #[.int .i64 (g), .agg #[.int .i64 (x), .int .i64 (y)], .agg #[.int .i64 (x2), .int .i64 (y2)]] w fun e w' => e = .returned (.bool true) ∧ Below w.heap.size w w' := by
  by_cases h0 : (x, y) = ((0,0) : Z.Pt)
  · simp only [Prod.mk.injEq] at h0
    obtain ⟨rfl, rfl⟩ := h0
    obtain ⟨q, hq⟩ := hd
    rw [Z.mul_zero] at hq
    simp only [Prod.mk.injEq] at hq
    obtain ⟨rfl, rfl⟩ := hq
    go_enter Try.func15, Try.ntmps15
    go_wp2
    go_ret
    exact ⟨rfl, (by repeat (first | exact Below.refl _ _ | refine Below.drew ?_ | refine below_drewN ?_ _ | refine Below.alloc ?_ (by first | exact Nat.le_refl _ | (simp; done) | (simp; omega) | omega) _ | refine Below.setCell ?_ (by first | exact Nat.le_refl _ | (simp; done) | (simp; omega) | omega) _ | refine bExtW ?_ (by first | exact Nat.le_refl _ | (simp; done) | (simp; omega) | omega) | refine Below.trans ?_ (Below.mono (by assumption) (by first | exact Nat.le_refl _ | (simp; done) | (simp; omega) | omega))))⟩
  · have hn := Z.nrm_pos hg h0
    have hn2 := Z.nrm_bd hg (a := (x,y)) (B := 5000000) b1 b2
    obtain ⟨q, hq⟩ := hd
    have hz : Z.mul g (x2,y2) (Z.conj g (x,y)) = (q.1 * nrm g (x,y), q.2 * nrm g (x,y)) := by
      rw [hq, Z.mul_assoc, Z.mul_conj hg]; apply Z.ext2 <;> simp [Z.mul, tmX, tmY]
    have hm : -10000000 ≤ miX g x y ∧ miX g x y ≤ 10000000 := by unfold miX; split <;> omega
    have e1 : (tmX x2 y2 (miX g x y) (-y)).tmod (nrm g (x,y)) = 0 := by
      have := congrArg Prod.fst hz; simp only [Z.mul, Z.conj] at this; rw [this]; exact Int.mul_tmod_left ..
    have e2 : (tmY g x2 y2 (miX g x y) (-y)).tmod (nrm g (x,y)) = 0 := by
      have := congrArg Prod.snd hz; simp only [Z.mul, Z.conj] at this; rw [this]; exact Int.mul_tmod_left ..
    have nz : (nrm g (x,y) == 0) = false := by simp; omega
    clear hq hz
    have fin : ∀ (X Y N : Int) (w : World), X.tmod N = 0 → Y.tmod N = 0 → 1 ≤ N → True := fun _ _ _ _ _ _ _ => trivial
    have HE1 := Lib.hid e1
    have HE2 := Lib.hid e2
    clear e1 e2 fin
    have HQ := Lib.hid h0
    have hxy : x ≠ 0 ∨ y ≠ 0 := by
      by_cases hx : x = 0
      · right; intro hy; exact h0 (by rw [hx, hy])
      · exact .inl hx
    clear h0
    by_cases hx : x = 0
    · subst hx
      have hy : y ≠ 0 := by omega
      clear hxy
      go_enter Try.func15, Try.ntmps15
      go_wp2_with fail
      (refine wp_region_ext_alloc 6 32 (some 7) _ (by kernel_rfl) (by kernel_rfl) rfl allocPt ?_; simp only [List.take_succ_cons, List.take_zero, List.drop_succ_cons, List.drop_zero]; (repeat (first | (refine wpV_step (fun K hK => ?_); go_simp; first | (refine hK _ ?_; clear hK K) | (apply Exists.intro; refine ⟨fun _ _ => ?_, hK _ ?_⟩; (first | (go_at_call 37; exact vOf (rMirrored_any g 0 y _ hg (by omega) (by omega))) | (go_at_call 16; exact vOf (rProduct_any g x2 y2 _ _ _ hg (by omega) (by omega) (by omega) (by omega)))); clear hK K)))); refine wpV_nil ?_; intro E d E' d'; go_simp)
      (go_wp2_with fail; refine (rSquare_any g 0 y _ hg (by omega) (by omega)).mono ?_; rintro r w1 ⟨rfl, hb⟩; obtain ⟨E, d, rfl⟩ := bExt hb; clear hb)
      have e1 := HE1.out
      have e2 := HE2.out
      generalize nrm g (0,y) = N at *
      generalize tmX x2 y2 (miX g 0 y) (-y) = X at *
      generalize tmY g x2 y2 (miX g 0 y) (-y) = Y at *
      go_wp2
      go_ret
      exact ⟨rfl, (by repeat (first | exact Below.refl _ _ | refine Below.drew ?_ | refine below_drewN ?_ _ | refine Below.alloc ?_ (by first | exact Nat.le_refl _ | (simp; done) | (simp; omega) | omega) _ | refine Below.setCell ?_ (by first | exact Nat.le_refl _ | (simp; done) | (simp; omega) | omega) _ | refine bExtW ?_ (by first | exact Nat.le_refl _ | (simp; done) | (simp; omega) | omega) | refine Below.trans ?_ (Below.mono (by assumption) (by first | exact Nat.le_refl _ | (simp; done) | (simp; omega) | omega))))⟩
    · clear hxy
      go_enter Try.func15, Try.ntmps15
      go_wp2_with fail
      (refine wp_region_ext_alloc 6 32 (some 7) _ (by kernel_rfl) (by kernel_rfl) rfl allocPt ?_; simp only [List.take_succ_cons, List.take_zero, List.drop_succ_cons, List.drop_zero]; (repeat (first | (refine wpV_step (fun K hK => ?_); go_simp; first | (refine hK _ ?_; clear hK K) | (apply Exists.intro; refine ⟨fun _ _ => ?_, hK _ ?_⟩; (first | (go_at_call 37; exact vOf (rMirrored_any g x y _ hg (by omega) (by omega))) | (go_at_call 16; exact vOf (rProduct_any g x2 y2 _ _ _ hg (by omega) (by omega) (by omega) (by omega)))); clear hK K)))); refine wpV_nil ?_; intro E d E' d'; go_simp)
      (go_wp2_with fail; refine (rSquare_any g x y _ hg (by omega) (by omega)).mono ?_; rintro r w1 ⟨rfl, hb⟩; obtain ⟨E, d, rfl⟩ := bExt hb; clear hb)
      have e1 := HE1.out
      have e2 := HE2.out
      generalize nrm g (x,y) = N at *
      generalize tmX x2 y2 (miX g x y) (-y) = X at *
      generalize tmY g x2 y2 (miX g x y) (-y) = Y at *
      go_wp2
      go_ret
      exact ⟨rfl, (by repeat (first | exact Below.refl _ _ | refine Below.drew ?_ | refine below_drewN ?_ _ | refine Below.alloc ?_ (by first | exact Nat.le_refl _ | (simp; done) | (simp; omega) | omega) _ | refine Below.setCell ?_ (by first | exact Nat.le_refl _ | (simp; done) | (simp; omega) | omega) _ | refine bExtW ?_ (by first | exact Nat.le_refl _ | (simp; done) | (simp; omega) | omega) | refine Below.trans ?_ (Below.mono (by assumption) (by first | exact Nat.le_refl _ | (simp; done) | (simp; omega) | omega))))⟩
set_option maxRecDepth 100000 in
set_option maxHeartbeats 400000 in
theorem Gcd_bad (g x y x2 y2 e : Int) (w : World) (h0 : (-9223372036854775808 ≤ x ∧ x ≤ 9223372036854775807)) (h1 : (-9223372036854775808 ≤ y ∧ y ≤ 9223372036854775807)) (h2 : (-9223372036854775808 ≤ x2 ∧ x2 ≤ 9223372036854775807)) (h3 : (-9223372036854775808 ≤ y2 ∧ y2 ≤ 9223372036854775807)) (he : fltE g [(x,y),(x2,y2)] = e) (hne : e ≠ 0) :
    Calls Try.prog 14 #[.int .i64 (g), .agg #[.int .i64 (x), .int .i64 (y)], .agg #[.int .i64 (x2), .int .i64 (y2)]] w fun r w' => r = .returned (.tuple #[.agg #[.int .i64 (0), .int .i64 (0)], .int .i64 (e)]) ∧ Below w.heap.size w w' := by
  have HW := Lib.hid (two_wf h0 h1 h2 h3)
  clear h0 h1 h2 h3
  have HE := Lib.hid he
  clear he
  have hb : (e != 0) = true := by simpa using hne
  clear hne
  go_enter Try.func14, Try.ntmps14
  go_wp2_with fail
  refine (fault_any g (w.heap.size+1+1+1) 2 2 [(x,y),(x2,y2)] _ rfl (by simp) (two_cells (by simp [go_sem]) (by simp [go_sem]) (by simp [go_sem]) (by simp [go_sem])) HW.out (by omega)).mono ?_
  rintro e w1 ⟨rfl, hb1⟩
  rw [HE.out]
  obtain ⟨E1, d1, rfl⟩ := bExt hb1; clear hb1
  go_wp2
  refine bodyPost_ret (v := .tuple #[.agg #[.int .i64 (0), .int .i64 (0)], .int .i64 (e)]) (by simp [results, Try.results14, go_sem]) rfl ⟨rfl, (by repeat (first | exact Below.refl _ _ | refine Below.drew ?_ | refine below_drewN ?_ _ | refine Below.alloc ?_ (by first | exact Nat.le_refl _ | (simp; done) | (simp; omega) | omega) _ | refine Below.setCell ?_ (by first | exact Nat.le_refl _ | (simp; done) | (simp; omega) | omega) _ | refine bExtW ?_ (by first | exact Nat.le_refl _ | (simp; done) | (simp; omega) | omega) | refine Below.trans ?_ (Below.mono (by assumption) (by first | exact Nat.le_refl _ | (simp; done) | (simp; omega) | omega))))⟩
end Go.Proofs.Ytnjheiiohfhckaa
