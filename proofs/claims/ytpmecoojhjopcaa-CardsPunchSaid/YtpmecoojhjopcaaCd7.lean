/- Lemmas and contracts of functions (what each call returns, and that it changes nothing that was there) that the proof of a law of this seat uses; each lemma states its own conditions. -/
import Derived.Test.YtpmecoojhjopcaaCd6
namespace Go.Proofs.Ytpmecoojhjopcaa
open Go.RowKit
set_option linter.unusedVariables false
set_option linter.unusedSimpArgs false
theorem readRow0 (f : Nat → Nat) : readRow 0 f = [] := rfl
theorem punchL0 : punchL [] = [] := rfl
/-- Cloths without ends. -/
theorem unF_flat {B : List Nat} {H : Nat} (hH : 0 < H) (h5 : 5 ≤ B.length) : unF B 0 H (H + 1) 0 5 [] [] =
    if 5 = B.length ∨ B.getD 5 0 = 0 ∨ H < B.getD 5 0 then .bad 5 else if B.getD 5 0 < H then .bad 6
    else if 6 = B.length ∨ B.getD 6 0 ≠ chk (B.take 6) then .bad 6 else if 7 < B.length then .bad 7 else .ok [] := by
  rw [unF, if_pos hH]
  simp only [readRow0, punchL0, Nat.sub_zero, Nat.zero_add, Nat.reduceAdd, Nat.reduceDiv, Nat.add_zero, List.take_zero, ne_eq, not_true_eq_false, Nat.lt_irrefl, false_and, or_self, if_false]
  by_cases c1 : 5 = B.length ∨ B.getD 5 0 = 0 ∨ H < B.getD 5 0
  · rw [if_pos c1, if_pos c1]
  · rw [if_neg c1, if_neg c1, if_neg (show ¬ B.length < 6 by omega)]
    have hx : B.getD 5 0 ≠ 0 := fun e => c1 (.inr (.inl e))
    obtain ⟨H, rfl⟩ : ∃ H', H = H' + 1 := ⟨H - 1, by omega⟩
    rw [unF]
    by_cases c2 : B.getD 5 0 < H + 1
    · rw [if_pos c2, if_pos c2]
      simp only [readRow0, punchL0, Nat.zero_add, Nat.reduceAdd, Nat.reduceDiv, Nat.add_zero, List.take_zero, not_true_eq_false, and_true, ne_eq, false_or]
      by_cases c3 : 6 = B.length ∨ B.getD 6 0 = 0 ∨ H + 1 - B.getD 5 0 < B.getD 6 0
      · rw [if_pos c3]
      · rw [if_neg c3, if_neg (show ¬ B.length < 7 by omega), if_pos (by omega)]
    · rw [if_neg c2, if_neg c2]
      simp

set_option maxRecDepth 100000 in
set_option maxHeartbeats 8000000 in
theorem flat_any (s : ByteArray) (H : Nat) (w : World) (hs : s.size ≤ 9223372036854775807) (h5 : 5 ≤ s.size) (hH : 0 < H) (hH2 : H ≤ 64) : Calls Try.prog 30 #[.string s, .int .i64 (5), .agg #[.int .i64 (0), .int .i64 (H), .slice none 0 0]] w (UnpPost (unF (bytesOf s) 0 H (H + 1) 0 5 [] [], 0, H) w) := by
  have hBL := bytesOf_len s
  have HU0 := Lib.hid (unF_flat (B := bytesOf s) hH (by omega))
  have HLT := Lib.hid (bytesOf_lt s)
  have HIX : Hid (∀ k, k < (bytesOf s).length → ∀ w, (Instr.index 9 (.string s) (.int .i64 (k))).run Try.prog w = .ok (.int .u8 ((bytesOf s).getD k 0 : Nat)) w) := Lib.hid fun k h w => index_at s h w
  obtain ⟨B, hB⟩ : ∃ B, bytesOf s = B := ⟨_, rfl⟩
  have HBE := Lib.hid hB
  rw [hB] at hBL HLT HIX HU0 ⊢
  clear hB
  obtain ⟨N, hN⟩ : ∃ N, s.size = N := ⟨_, rfl⟩
  rw [hN] at hBL hs h5
  rw [hBL] at HIX
  have HN := Lib.hid hBL
  rw [hBL] at HU0
  clear hBL
  go_enter Try.func30, Try.ntmps30
  go_wp2_with fail
  have hm0 := ((tF_alloc w 0 H (.slice none 0 0) rfl).alloc (.cells #[.int .i64 (0), .int .i64 (0), .slice none 0 0] 24)).alloc (.cells #[.int .i64 (0), .int .i64 (0)] 29)
  have hr0 := (tF_alloc (w.alloc (.cells #[.int .i64 (0), .int .i64 (H), .slice none 0 0] 24)) 0 0 (.slice none 0 0) rfl).alloc (.cells #[.int .i64 (0), .int .i64 (0)] 29)
  have hf0 := fF_alloc ((w.alloc (.cells #[.int .i64 (0), .int .i64 (H), .slice none 0 0] 24)).alloc (.cells #[.int .i64 (0), .int .i64 (0), .slice none 0 0] 24)) 0 0
  have hb0 : Below w.heap.size w (((w.alloc (.cells #[.int .i64 (0), .int .i64 (H), .slice none 0 0] 24)).alloc (.cells #[.int .i64 (0), .int .i64 (0), .slice none 0 0] 24)).alloc (.cells #[.int .i64 (0), .int .i64 (0)] 29)) := (by repeat (first | exact Below.refl _ _ | refine Below.drew ?_ | refine below_drewN ?_ _ | refine Below.alloc ?_ (by first | exact Nat.le_refl _ | (simp; done) | (simp; omega) | omega) _ | refine Below.setCell ?_ (by first | exact Nat.le_refl _ | (simp; done) | (simp; omega) | omega) _ | refine bExtW ?_ (by first | exact Nat.le_refl _ | (simp; done) | (simp; omega) | omega) | refine Below.trans ?_ (Below.mono (by assumption) (by first | exact Nat.le_refl _ | (simp; done) | (simp; omega) | omega))))
  simp only [World.size_alloc] at hf0 hr0
  generalize ((w.alloc (.cells #[.int .i64 (0), .int .i64 (H), .slice none 0 0] 24)).alloc (.cells #[.int .i64 (0), .int .i64 (0), .slice none 0 0] 24)).alloc (.cells #[.int .i64 (0), .int .i64 (0)] 29) = W0 at *
  generalize hq : w.heap.size = q at *
  have HQE := Lib.hid hq
  have HMB := Lib.hid hm0; have HRB := Lib.hid hr0; have HFB : Hid (W0.rowIs (q + 2) 29 2 (fF 0 0)) := Lib.hid hf0; have HB0 := Lib.hid hb0
  have hq0 : q + 2 < W0.heap.size := HFB.out.lt
  have q1 : W0.cell? ⟨q, 1, none⟩ = some (.int .i64 (H)) := hm0.cell (i := 1) (by omega)
  have lq : LtW q W0 := hm0.lt
  clear hq hr0 hf0 hb0 hm0
  by_cases e5 : N = 5
  · have HU : Hid (unF B 0 H (H + 1) 0 5 [] [] = .bad 5) := Lib.hid (HU0.out.trans (if_pos (.inl e5.symm)))
    subst e5
    go_wp2_with fail
    (refine wp_region_ext (by kernel_rfl) (by kernel_rfl) ?_; (repeat (first | ((with_reducible refine ext_step (fun K hK => ?_)); go_simp; first | (refine hK _ ?_; clear hK K) | (apply Exists.intro; refine ⟨fun _ _ => ?_, hK _ ?_⟩; fail; clear hK K)))); refine wpQuiet_nil ?_; intro E d)
    have hbx : Below W0.heap.size W0 (extW W0 E d) := bExtW (Below.refl _ _) (Nat.le_refl _)
    have hr8 := rowBelow HRB.out hbx HRB.out.lt
    have hf8 := rowBelow HFB.out hbx HFB.out.lt
    have HBX := Lib.hid (HB0.out.trans (hbx.mono (by omega)))
    generalize extW W0 E d = wx at *
    have r0 : wx.cell? ⟨q + 1, 0, none⟩ = some (.int .i64 (0)) := hr8.cell (i := 0) (by omega)
    have r1 : wx.cell? ⟨q + 1, 1, none⟩ = some (.int .i64 (0)) := hr8.cell (i := 1) (by omega)
    have r2 : wx.cell? ⟨q + 1, 2, none⟩ = some (.slice none 0 0) := hr8.cell (i := 2) (by omega)
    have f0 := hr8.frozen 0; have f1 := hr8.frozen 1; have f2 := hr8.frozen 2
    have s0 : wx.cell? ⟨q + 2, 0, none⟩ = some (.int .i64 (0)) := hf8.cell (i := 0) (by omega)
    have s1 : wx.cell? ⟨q + 2, 1, none⟩ = some (.int .i64 (0)) := hf8.cell (i := 1) (by omega)
    have g0 := hf8.frozen 0; have g1 := hf8.frozen 1
    have lr : LtW (q + 1) wx := hr8.lt
    have lf : LtW (q + 2) wx := hf8.lt
    clear hr8 hf8 hbx
    go_wp2
    refine bodyPost_ret (v := .tuple #[.agg #[.int .i64 (0), .int .i64 (0), .slice none 0 0], .agg #[.int .i64 (2), .int .i64 (5)]]) (by simp [results, Try.results30, go_sem, r0, r1, r2, s0, s1]) rfl ?_
    unfold UnpPost
    rw [HU.out]
    refine ⟨rfl, ?_⟩
    rw [HQE.out]
    exact ((((HBX.out.setCell (by first | omega | (simp; done) | (simp; omega)) _).setCell (by first | omega | (simp; done) | (simp; omega)) _).setCell (by first | omega | (simp; done) | (simp; omega)) _).setCell (by first | omega | (simp; done) | (simp; omega)) _).setCell (by first | omega | (simp; done) | (simp; omega)) _
  · have t1 : decide ((5 : Int) ≥ (N : Int)) = false := by simp; omega
    have t1' : decide ((N : Int) ≤ 5) = false := by simp; omega
    have t1'' : decide (N ≤ 5) = false := by simp; omega
    have hix : ∀ w, (Instr.index 9 (.string s) (.int .i64 (5))).run Try.prog w = .ok (.int .u8 (B.getD 5 0 : Nat)) w := HIX.out 5 (by omega)
    have hx256 : B.getD 5 0 < 256 := HLT.out _ (getD_memN (by rw [HN.out]; omega))
    have h5n : ¬ 5 = N := fun e => e5 e.symm
    obtain ⟨x, hx⟩ : ∃ x, B.getD 5 0 = x := ⟨_, rfl⟩
    rw [hx] at hix hx256 HU0
    have v1 : IntKind.i64.wrap (x : Int) = (x : Int) := IntWalk.i64_in _ (by omega)
    by_cases hx0 : x = 0
    · have HU : Hid (unF B 0 H (H + 1) 0 5 [] [] = .bad 5) := Lib.hid (HU0.out.trans (if_pos (.inr (.inl hx0))))
      subst hx0
      go_wp2_with fail
      (refine wp_region_ext (by kernel_rfl) (by kernel_rfl) ?_; (repeat (first | ((with_reducible refine ext_step (fun K hK => ?_)); go_simp; first | (refine hK _ ?_; clear hK K) | (apply Exists.intro; refine ⟨fun _ _ => ?_, hK _ ?_⟩; fail; clear hK K)))); refine wpQuiet_nil ?_; intro E d)
      have hbx : Below W0.heap.size W0 (extW W0 E d) := bExtW (Below.refl _ _) (Nat.le_refl _)
      have hr8 := rowBelow HRB.out hbx HRB.out.lt
      have hf8 := rowBelow HFB.out hbx HFB.out.lt
      have HBX := Lib.hid (HB0.out.trans (hbx.mono (by omega)))
      generalize extW W0 E d = wx at *
      have r0 : wx.cell? ⟨q + 1, 0, none⟩ = some (.int .i64 (0)) := hr8.cell (i := 0) (by omega)
      have r1 : wx.cell? ⟨q + 1, 1, none⟩ = some (.int .i64 (0)) := hr8.cell (i := 1) (by omega)
      have r2 : wx.cell? ⟨q + 1, 2, none⟩ = some (.slice none 0 0) := hr8.cell (i := 2) (by omega)
      have f0 := hr8.frozen 0; have f1 := hr8.frozen 1; have f2 := hr8.frozen 2
      have s0 : wx.cell? ⟨q + 2, 0, none⟩ = some (.int .i64 (0)) := hf8.cell (i := 0) (by omega)
      have s1 : wx.cell? ⟨q + 2, 1, none⟩ = some (.int .i64 (0)) := hf8.cell (i := 1) (by omega)
      have g0 := hf8.frozen 0; have g1 := hf8.frozen 1
      have lr : LtW (q + 1) wx := hr8.lt
      have lf : LtW (q + 2) wx := hf8.lt
      clear hr8 hf8 hbx
      go_wp2
      refine bodyPost_ret (v := .tuple #[.agg #[.int .i64 (0), .int .i64 (0), .slice none 0 0], .agg #[.int .i64 (2), .int .i64 (5)]]) (by simp [results, Try.results30, go_sem, r0, r1, r2, s0, s1]) rfl ?_
      unfold UnpPost
      rw [HU.out]
      refine ⟨rfl, ?_⟩
      rw [HQE.out]
      exact ((((HBX.out.setCell (by first | omega | (simp; done) | (simp; omega)) _).setCell (by first | omega | (simp; done) | (simp; omega)) _).setCell (by first | omega | (simp; done) | (simp; omega)) _).setCell (by first | omega | (simp; done) | (simp; omega)) _).setCell (by first | omega | (simp; done) | (simp; omega)) _
    · have t2 : decide ((x : Int) < 1) = false := by simp; omega
      have t2' : decide (x < 1) = false := by simp; omega
      by_cases hxH : H < x
      · have HU : Hid (unF B 0 H (H + 1) 0 5 [] [] = .bad 5) := Lib.hid (HU0.out.trans (if_pos (.inr (.inr hxH))))
        have t3 : decide ((H : Int) < (x : Int)) = true := by simp; omega
        have t3' : decide (H < x) = true := by simp; omega
        go_wp2_with fail
        (refine wp_region_ext (by kernel_rfl) (by kernel_rfl) ?_; (repeat (first | ((with_reducible refine ext_step (fun K hK => ?_)); go_simp; first | (refine hK _ ?_; clear hK K) | (apply Exists.intro; refine ⟨fun _ _ => ?_, hK _ ?_⟩; fail; clear hK K)))); refine wpQuiet_nil ?_; intro E d)
        have hbx : Below W0.heap.size W0 (extW W0 E d) := bExtW (Below.refl _ _) (Nat.le_refl _)
        have hr8 := rowBelow HRB.out hbx HRB.out.lt
        have hf8 := rowBelow HFB.out hbx HFB.out.lt
        have HBX := Lib.hid (HB0.out.trans (hbx.mono (by omega)))
        generalize extW W0 E d = wx at *
        have r0 : wx.cell? ⟨q + 1, 0, none⟩ = some (.int .i64 (0)) := hr8.cell (i := 0) (by omega)
        have r1 : wx.cell? ⟨q + 1, 1, none⟩ = some (.int .i64 (0)) := hr8.cell (i := 1) (by omega)
        have r2 : wx.cell? ⟨q + 1, 2, none⟩ = some (.slice none 0 0) := hr8.cell (i := 2) (by omega)
        have f0 := hr8.frozen 0; have f1 := hr8.frozen 1; have f2 := hr8.frozen 2
        have s0 : wx.cell? ⟨q + 2, 0, none⟩ = some (.int .i64 (0)) := hf8.cell (i := 0) (by omega)
        have s1 : wx.cell? ⟨q + 2, 1, none⟩ = some (.int .i64 (0)) := hf8.cell (i := 1) (by omega)
        have g0 := hf8.frozen 0; have g1 := hf8.frozen 1
        have lr : LtW (q + 1) wx := hr8.lt
        have lf : LtW (q + 2) wx := hf8.lt
        clear hr8 hf8 hbx
        go_wp2
        refine bodyPost_ret (v := .tuple #[.agg #[.int .i64 (0), .int .i64 (0), .slice none 0 0], .agg #[.int .i64 (2), .int .i64 (5)]]) (by simp [results, Try.results30, go_sem, r0, r1, r2, s0, s1]) rfl ?_
        unfold UnpPost
        rw [HU.out]
        refine ⟨rfl, ?_⟩
        rw [HQE.out]
        exact ((((HBX.out.setCell (by first | omega | (simp; done) | (simp; omega)) _).setCell (by first | omega | (simp; done) | (simp; omega)) _).setCell (by first | omega | (simp; done) | (simp; omega)) _).setCell (by first | omega | (simp; done) | (simp; omega)) _).setCell (by first | omega | (simp; done) | (simp; omega)) _
      · have t3 : decide ((H : Int) < (x : Int)) = false := by simp; omega
        have t3' : decide (H < x) = false := by simp; omega
        have HU1 := Lib.hid (HU0.out.trans (if_neg (by rintro (e | e | e); exact h5n e; exact hx0 e; exact hxH e)))
        by_cases hxl : x < H
        · have HU : Hid (unF B 0 H (H + 1) 0 5 [] [] = .bad 6) := Lib.hid (HU1.out.trans (if_pos hxl))
          have t4 : decide ((x : Int) < (H : Int)) = true := by simp; omega
          have t4' : decide (x < H) = true := by simp; omega
          go_wp2_with fail
          (refine wp_region_ext (by kernel_rfl) (by kernel_rfl) ?_; (repeat (first | ((with_reducible refine ext_step (fun K hK => ?_)); go_simp; first | (refine hK _ ?_; clear hK K) | (apply Exists.intro; refine ⟨fun _ _ => ?_, hK _ ?_⟩; fail; clear hK K)))); refine wpQuiet_nil ?_; intro E d)
          revert E d
          intro Ea da
          go_wp2_with fail
          (refine wp_region_ext (by kernel_rfl) (by kernel_rfl) ?_; (repeat (first | ((with_reducible refine ext_step (fun K hK => ?_)); go_simp; first | (refine hK _ ?_; clear hK K) | (apply Exists.intro; refine ⟨fun _ _ => ?_, hK _ ?_⟩; fail; clear hK K)))); refine wpQuiet_nil ?_; intro E d)
          rw [extW_extW]
          have hbx : Below W0.heap.size W0 (extW W0 (Ea ++ E) d) := bExtW (Below.refl _ _) (Nat.le_refl _)
          have hr8 := rowBelow HRB.out hbx HRB.out.lt
          have hf8 := rowBelow HFB.out hbx HFB.out.lt
          have HBX := Lib.hid (HB0.out.trans (hbx.mono (by omega)))
          generalize extW W0 (Ea ++ E) d = wx at *
          have r0 : wx.cell? ⟨q + 1, 0, none⟩ = some (.int .i64 (0)) := hr8.cell (i := 0) (by omega)
          have r1 : wx.cell? ⟨q + 1, 1, none⟩ = some (.int .i64 (0)) := hr8.cell (i := 1) (by omega)
          have r2 : wx.cell? ⟨q + 1, 2, none⟩ = some (.slice none 0 0) := hr8.cell (i := 2) (by omega)
          have f0 := hr8.frozen 0; have f1 := hr8.frozen 1; have f2 := hr8.frozen 2
          have s0 : wx.cell? ⟨q + 2, 0, none⟩ = some (.int .i64 (0)) := hf8.cell (i := 0) (by omega)
          have s1 : wx.cell? ⟨q + 2, 1, none⟩ = some (.int .i64 (0)) := hf8.cell (i := 1) (by omega)
          have g0 := hf8.frozen 0; have g1 := hf8.frozen 1
          have lr : LtW (q + 1) wx := hr8.lt
          have lf : LtW (q + 2) wx := hf8.lt
          clear hr8 hf8 hbx
          go_wp2
          refine bodyPost_ret (v := .tuple #[.agg #[.int .i64 (0), .int .i64 (0), .slice none 0 0], .agg #[.int .i64 (2), .int .i64 (6)]]) (by simp [results, Try.results30, go_sem, r0, r1, r2, s0, s1]) rfl ?_
          unfold UnpPost
          rw [HU.out]
          refine ⟨rfl, ?_⟩
          rw [HQE.out]
          exact ((((HBX.out.setCell (by first | omega | (simp; done) | (simp; omega)) _).setCell (by first | omega | (simp; done) | (simp; omega)) _).setCell (by first | omega | (simp; done) | (simp; omega)) _).setCell (by first | omega | (simp; done) | (simp; omega)) _).setCell (by first | omega | (simp; done) | (simp; omega)) _
        · obtain rfl : x = H := by omega
          have HU2 := Lib.hid (HU1.out.trans (if_neg hxl))
          have t4 : decide ((x : Int) < (x : Int)) = false := by simp
          have t4' : decide (x < x) = false := by simp
          clear HU0 HU1
          go_wp2_with fail
          (refine wp_region_ext (by kernel_rfl) (by kernel_rfl) ?_; (repeat (first | ((with_reducible refine ext_step (fun K hK => ?_)); go_simp; first | (refine hK _ ?_; clear hK K) | (apply Exists.intro; refine ⟨fun _ _ => ?_, hK _ ?_⟩; fail; clear hK K)))); refine wpQuiet_nil ?_; intro E d)
          revert E d
          intro Ea da
          go_wp2_with fail
          (refine wp_region_ext (by kernel_rfl) (by kernel_rfl) ?_; (repeat (first | ((with_reducible refine ext_step (fun K hK => ?_)); go_simp; first | (refine hK _ ?_; clear hK K) | (apply Exists.intro; refine ⟨fun _ _ => ?_, hK _ ?_⟩; fail; clear hK K)))); refine wpQuiet_nil ?_; intro E d)
          rw [extW_extW]
          have hbx0 : Below W0.heap.size W0 (extW W0 (Ea ++ E) d) := bExtW (Below.refl _ _) (Nat.le_refl _)
          have HMB := Lib.hid (rowBelow HMB.out hbx0 HMB.out.lt); have HRB := Lib.hid (rowBelow HRB.out hbx0 HRB.out.lt); have HFB := Lib.hid (rowBelow HFB.out hbx0 HFB.out.lt)
          have HB0 := Lib.hid (HB0.out.trans (hbx0.mono (by omega)))
          clear hbx0 q1 lq hq0
          generalize extW W0 (Ea ++ E) d = W0 at *
          have hq0 : q + 2 < W0.heap.size := HFB.out.lt
          have m0 : W0.cell? ⟨q, 0, none⟩ = some (.int .i64 (0)) := HMB.out.cell (i := 0) (by omega)
          have m1 : W0.cell? ⟨q, 1, none⟩ = some (.int .i64 (x)) := HMB.out.cell (i := 1) (by omega)
          have m2 : W0.cell? ⟨q, 2, none⟩ = some (.slice none 0 0) := HMB.out.cell (i := 2) (by omega)
          have lq : LtW q W0 := HMB.out.lt
          by_cases e6 : N = 6
          · have HU : Hid (unF B 0 x (x + 1) 0 5 [] [] = .bad 6) := Lib.hid (HU2.out.trans (if_pos (.inl e6.symm)))
            clear t1 t1' t1'' h5n e5
            subst e6
            go_wp2_with fail
            (refine wp_region_ext (by kernel_rfl) (by kernel_rfl) ?_; (repeat (first | ((with_reducible refine ext_step (fun K hK => ?_)); go_simp; first | (refine hK _ ?_; clear hK K) | (apply Exists.intro; refine ⟨fun _ _ => ?_, hK _ ?_⟩; fail; clear hK K)))); refine wpQuiet_nil ?_; intro E d)
            have hbx : Below W0.heap.size W0 (extW W0 E d) := bExtW (Below.refl _ _) (Nat.le_refl _)
            have hr8 := rowBelow HRB.out hbx HRB.out.lt
            have hf8 := rowBelow HFB.out hbx HFB.out.lt
            have HBX := Lib.hid (HB0.out.trans (hbx.mono (by omega)))
            generalize extW W0 E d = wx at *
            have r0 : wx.cell? ⟨q + 1, 0, none⟩ = some (.int .i64 (0)) := hr8.cell (i := 0) (by omega)
            have r1 : wx.cell? ⟨q + 1, 1, none⟩ = some (.int .i64 (0)) := hr8.cell (i := 1) (by omega)
            have r2 : wx.cell? ⟨q + 1, 2, none⟩ = some (.slice none 0 0) := hr8.cell (i := 2) (by omega)
            have f0 := hr8.frozen 0; have f1 := hr8.frozen 1; have f2 := hr8.frozen 2
            have s0 : wx.cell? ⟨q + 2, 0, none⟩ = some (.int .i64 (0)) := hf8.cell (i := 0) (by omega)
            have s1 : wx.cell? ⟨q + 2, 1, none⟩ = some (.int .i64 (0)) := hf8.cell (i := 1) (by omega)
            have g0 := hf8.frozen 0; have g1 := hf8.frozen 1
            have lr : LtW (q + 1) wx := hr8.lt
            have lf : LtW (q + 2) wx := hf8.lt
            clear hr8 hf8 hbx
            go_wp2
            refine bodyPost_ret (v := .tuple #[.agg #[.int .i64 (0), .int .i64 (0), .slice none 0 0], .agg #[.int .i64 (2), .int .i64 (6)]]) (by simp [results, Try.results30, go_sem, r0, r1, r2, s0, s1]) rfl ?_
            unfold UnpPost
            rw [HU.out]
            refine ⟨rfl, ?_⟩
            rw [HQE.out]
            exact ((((HBX.out.setCell (by first | omega | (simp; done) | (simp; omega)) _).setCell (by first | omega | (simp; done) | (simp; omega)) _).setCell (by first | omega | (simp; done) | (simp; omega)) _).setCell (by first | omega | (simp; done) | (simp; omega)) _).setCell (by first | omega | (simp; done) | (simp; omega)) _
          · have hix : ∀ w, (Instr.index 9 (.string s) (.int .i64 (6))).run Try.prog w = .ok (.int .u8 (B.getD 6 0 : Nat)) w := HIX.out 6 (by omega)
            have hz256 : B.getD 6 0 < 256 := HLT.out _ (getD_memN (by rw [HN.out]; omega))
            have h6n : ¬ 6 = N := fun e => e6 e.symm
            have u1 : decide ((N : Int) ≤ 6) = false := by simp; omega
            have u2 : decide (N ≤ 6) = false := by simp; omega
            obtain ⟨z, hz⟩ : ∃ z, B.getD 6 0 = z := ⟨_, rfl⟩
            rw [hz] at hix hz256 HU2
            obtain ⟨S2, hS2⟩ : ∃ S2, s.extract 0 6 = S2 := ⟨_, rfl⟩
            have hsl : ∀ w, (Instr.slice 9 (.string s) none (some (.int .i64 (6))) none).run Try.prog w = .ok (.string S2) w := fun w => by
              rw [← hS2]; exact slice_to s 6 (by rw [hN]; omega) w
            have HS2 : Hid (bytesOf S2 = B.take 6) := Lib.hid (by
              have h1 := bytesOf_extract s 0 6 (by rw [hN]; omega)
              rw [Nat.zero_add, List.drop_zero, HBE.out] at h1
              rw [← hS2, h1])
            have hSz : S2.size = 6 := by
              have h1 := congrArg List.length HS2.out
              rw [bytesOf_len, List.length_take, HN.out] at h1
              omega
            have HLTP : Hid (∀ x ∈ B.take 6, x < 256) := Lib.hid fun x hx => HLT.out x (List.mem_of_mem_take hx)
            obtain ⟨capF, bwF, hcb, hcp⟩ := strBytes S2
            rw [HS2.out, hSz] at hcp
            rw [hSz] at hcb
            have HCB := Lib.hid hcp
            obtain ⟨ck, hck⟩ : ∃ ck, chk (B.take 6) = ck := ⟨_, rfl⟩
            have hcl : ck < 256 := by rw [← hck]; exact chk_lt _
            have HCK := Lib.hid hck
            rw [hck] at HU2
            clear hS2 hSz hcp hck hx t1 t1' t1'' m0 m1 m2 lq
            go_wp2_with fail
            refine wp_region_E (by kernel_rfl) ?_
            (refine wpE_take (i := 0) rfl (by kernel_rfl) (fun _ _ _ _ h => h) (fun K hK => ?_); go_simp; first | (refine hK _ ?_; clear hK K) | (apply Exists.intro; refine ⟨fun _ _ => ?_, hK _ ?_⟩; fail; clear hK K)); (refine wpE_take (i := 1) rfl (by kernel_rfl) (fun _ _ _ _ h => h) (fun K hK => ?_); go_simp; first | (refine hK _ ?_; clear hK K) | (apply Exists.intro; refine ⟨fun _ _ => ?_, hK _ ?_⟩; fail; clear hK K)); (refine wpE_take (i := 2) rfl (by kernel_rfl) (fun _ _ _ _ h => h) (fun K hK => ?_); go_simp; first | (refine hK _ ?_; clear hK K) | (apply Exists.intro; refine ⟨fun _ _ => ?_, hK _ ?_⟩; fail; clear hK K)); (refine wpE_take (i := 3) rfl (by kernel_rfl) (fun _ _ _ _ h => h) (fun K hK => ?_); go_simp; first | (refine hK _ ?_; clear hK K) | (apply Exists.intro; refine ⟨fun _ _ => ?_, hK _ ?_⟩; fail; clear hK K)); (refine wpE_take (i := 4) rfl (by kernel_rfl) (fun _ _ _ _ h => h) (fun K hK => ?_); go_simp; first | (refine hK _ ?_; clear hK K) | (apply Exists.intro; refine ⟨fun _ _ => ?_, hK _ ?_⟩; fail; clear hK K)); (refine wpE_take (i := 5) rfl (by kernel_rfl) (fun _ _ _ _ h => h) (fun K hK => ?_); go_simp; first | (refine hK _ ?_; clear hK K) | (apply Exists.intro; refine ⟨fun _ _ => ?_, hK _ ?_⟩; fail; clear hK K)); (refine wpE_take (i := 6) rfl (by kernel_rfl) (fun _ _ _ _ h => h) (fun K hK => ?_); go_simp; first | (refine hK _ ?_; clear hK K) | (apply Exists.intro; refine ⟨fun _ _ => ?_, hK _ ?_⟩; fail; clear hK K)); (refine wpE_take (i := 7) rfl (by kernel_rfl) (fun _ _ _ _ h => h) (fun K hK => ?_); go_simp; first | (refine hK _ ?_; clear hK K) | (apply Exists.intro; refine ⟨fun _ _ => ?_, hK _ ?_⟩; fail; clear hK K)); (refine wpE_take (i := 8) rfl (by kernel_rfl) (fun _ _ _ _ h => h) (fun K hK => ?_); go_simp; first | (refine hK _ ?_; clear hK K) | (apply Exists.intro; refine ⟨fun _ _ => ?_, hK _ ?_⟩; fail; clear hK K)); (refine wpE_take (i := 9) rfl (by kernel_rfl) (fun _ _ _ _ h => h) (fun K hK => ?_); go_simp; first | (refine hK _ ?_; clear hK K) | (apply Exists.intro; refine ⟨fun _ _ => ?_, hK _ ?_⟩; fail; clear hK K)); (refine wpE_take (i := 10) rfl (by kernel_rfl) (fun _ _ _ _ h => h) (fun K hK => ?_); go_simp; first | (refine hK _ ?_; clear hK K) | (apply Exists.intro; refine ⟨fun _ _ => ?_, hK _ ?_⟩; fail; clear hK K))
            (refine wpE_step (i := 11) rfl (by kernel_rfl) (fun E d K hK => ?_)); go_simp
            refine hK _ _ (bExt (HCB.out _).1) ?_
            clear hK K
            obtain ⟨hbz, hIz⟩ := HCB.out (extW W0 E d)
            have hbz2 : Below W0.heap.size W0 (bwF (extW W0 E d)) := Below.trans (bExtW (Below.refl _ _) (Nat.le_refl _)) (hbz.mono (by simp))
            generalize capF (extW W0 E d) = cz at *
            generalize bwF (extW W0 E d) = wz at *
            rw [show (extW W0 E d).heap.size = W0.heap.size + E.size by simp] at hIz hbz
            generalize W0.heap.size + E.size = gz at *
            (refine wpE_take (i := 12) rfl (by kernel_rfl) (fun _ _ _ _ h => h) (fun K hK => ?_); go_simp; first | (refine hK _ ?_; clear hK K) | (apply Exists.intro; refine ⟨fun _ _ => ?_, hK _ ?_⟩; (go_at_call 27; exact vOf (rCheck_any _ _ _ _ _ (hIz.below (bExtW (Below.refl _ _) (Nat.le_refl _))) (by omega) HLTP.out)); clear hK K))
            rw [HCK.out]
            by_cases hxc : z = ck
            · have t3 : ((z : Int) != (ck : Int)) = false := by simp; omega
              have t4 : (z != ck) = false := by simp; omega
              have HU3 := Lib.hid (HU2.out.trans (if_neg (by rintro (e | e); exact h6n e; exact e hxc)))
              clear hxc HU2
              (refine wpE_take (i := 13) rfl (by kernel_rfl) (fun _ _ _ _ h => h) (fun K hK => ?_); go_simp; first | (refine hK _ ?_; clear hK K) | (apply Exists.intro; refine ⟨fun _ _ => ?_, hK _ ?_⟩; fail; clear hK K)); (refine wpE_take (i := 14) rfl (by kernel_rfl) (fun _ _ _ _ h => h) (fun K hK => ?_); go_simp; first | (refine hK _ ?_; clear hK K) | (apply Exists.intro; refine ⟨fun _ _ => ?_, hK _ ?_⟩; fail; clear hK K))
              refine wpE_done (by kernel_rfl) (fun E d => ?_)
              clear hcb HCB hsl hix hbz hIz
              by_cases hpN : 7 < N
              · have t5 : decide ((7 : Int) < (N : Int)) = true := by simp; omega
                have t6 : decide (7 < N) = true := by simp; omega
                have HU : Hid (unF B 0 x (x + 1) 0 5 [] [] = .bad 7) := Lib.hid (HU3.out.trans (if_pos hpN))
                have hbx : Below W0.heap.size W0 (extW wz E d) := bExtW hbz2 hbz2.size
                have hr8 := rowBelow HRB.out hbx HRB.out.lt
                have hf8 := rowBelow HFB.out hbx HFB.out.lt
                have HBX := Lib.hid (HB0.out.trans (hbx.mono (by omega)))
                generalize extW wz E d = wx at *
                have r0 : wx.cell? ⟨q + 1, 0, none⟩ = some (.int .i64 (0)) := hr8.cell (i := 0) (by omega)
                have r1 : wx.cell? ⟨q + 1, 1, none⟩ = some (.int .i64 (0)) := hr8.cell (i := 1) (by omega)
                have r2 : wx.cell? ⟨q + 1, 2, none⟩ = some (.slice none 0 0) := hr8.cell (i := 2) (by omega)
                have f0 := hr8.frozen 0; have f1 := hr8.frozen 1; have f2 := hr8.frozen 2
                have s0 : wx.cell? ⟨q + 2, 0, none⟩ = some (.int .i64 (0)) := hf8.cell (i := 0) (by omega)
                have s1 : wx.cell? ⟨q + 2, 1, none⟩ = some (.int .i64 (0)) := hf8.cell (i := 1) (by omega)
                have g0 := hf8.frozen 0; have g1 := hf8.frozen 1
                have lr : LtW (q + 1) wx := hr8.lt
                have lf : LtW (q + 2) wx := hf8.lt
                clear hr8 hf8 hbx
                go_wp2
                refine bodyPost_ret (v := .tuple #[.agg #[.int .i64 (0), .int .i64 (0), .slice none 0 0], .agg #[.int .i64 (2), .int .i64 (7)]]) (by simp [results, Try.results30, go_sem, r0, r1, r2, s0, s1]) rfl ?_
                unfold UnpPost
                rw [HU.out]
                refine ⟨rfl, ?_⟩
                rw [HQE.out]
                exact ((((HBX.out.setCell (by first | omega | (simp; done) | (simp; omega)) _).setCell (by first | omega | (simp; done) | (simp; omega)) _).setCell (by first | omega | (simp; done) | (simp; omega)) _).setCell (by first | omega | (simp; done) | (simp; omega)) _).setCell (by first | omega | (simp; done) | (simp; omega)) _
              · have t5 : decide ((7 : Int) < (N : Int)) = false := by simp; omega
                have t6 : decide (7 < N) = false := by simp; omega
                have HU : Hid (unF B 0 x (x + 1) 0 5 [] [] = .ok []) := Lib.hid (HU3.out.trans (if_neg hpN))
                have hbx : Below W0.heap.size W0 (extW wz E d) := bExtW hbz2 hbz2.size
                have hm8 := rowBelow HMB.out hbx HMB.out.lt
                have hr8 := rowBelow HRB.out hbx HRB.out.lt
                have hf8 := rowBelow HFB.out hbx HFB.out.lt
                have HBX := Lib.hid (HB0.out.trans (hbx.mono (by omega)))
                generalize extW wz E d = wx at *
                have m0 : wx.cell? ⟨q, 0, none⟩ = some (.int .i64 (0)) := hm8.cell (i := 0) (by omega)
                have m1 : wx.cell? ⟨q, 1, none⟩ = some (.int .i64 (x)) := hm8.cell (i := 1) (by omega)
                have m2 : wx.cell? ⟨q, 2, none⟩ = some (.slice none 0 0) := hm8.cell (i := 2) (by omega)
                have r0 : wx.cell? ⟨q + 1, 0, none⟩ = some (.int .i64 (0)) := hr8.cell (i := 0) (by omega)
                have r1 : wx.cell? ⟨q + 1, 1, none⟩ = some (.int .i64 (0)) := hr8.cell (i := 1) (by omega)
                have r2 : wx.cell? ⟨q + 1, 2, none⟩ = some (.slice none 0 0) := hr8.cell (i := 2) (by omega)
                have f0 := hr8.frozen 0; have f1 := hr8.frozen 1; have f2 := hr8.frozen 2
                have s0 : wx.cell? ⟨q + 2, 0, none⟩ = some (.int .i64 (0)) := hf8.cell (i := 0) (by omega)
                have s1 : wx.cell? ⟨q + 2, 1, none⟩ = some (.int .i64 (0)) := hf8.cell (i := 1) (by omega)
                have g0 := hf8.frozen 0; have g1 := hf8.frozen 1
                have lm : LtW q wx := hm8.lt
                have lr : LtW (q + 1) wx := hr8.lt
                have lf : LtW (q + 2) wx := hf8.lt
                clear hm8 hr8 hf8 hbx
                go_wp2
                refine bodyPost_ret (v := .tuple #[.agg #[.int .i64 (0), .int .i64 (x), .slice none 0 0], .agg #[.int .i64 (0), .int .i64 (0)]]) (by simp [results, Try.results30, go_sem, r0, r1, r2, s0, s1]) rfl ?_
                unfold UnpPost
                rw [HU.out]
                refine ⟨⟨none, 0, rfl, ?_⟩, ?_⟩
                · exact ⟨⟨rfl, fun h => absurd h (Nat.lt_irrefl 0)⟩, Nat.le_refl _, Nat.zero_le _⟩
                · rw [HQE.out]
                  exact ((((HBX.out.setCell (by first | omega | (simp; done) | (simp; omega)) _).setCell (by first | omega | (simp; done) | (simp; omega)) _).setCell (by first | omega | (simp; done) | (simp; omega)) _).setCell (by first | omega | (simp; done) | (simp; omega)) _).setCell (by first | omega | (simp; done) | (simp; omega)) _
            · have t3 : ((z : Int) != (ck : Int)) = true := by simp; omega
              have t4 : (z != ck) = true := by simp; omega
              have HU : Hid (unF B 0 x (x + 1) 0 5 [] [] = .bad 6) := Lib.hid (HU2.out.trans (if_pos (.inr hxc)))
              clear hxc HU2
              (refine wpE_take (i := 13) rfl (by kernel_rfl) (fun _ _ _ _ h => h) (fun K hK => ?_); go_simp; first | (refine hK _ ?_; clear hK K) | (apply Exists.intro; refine ⟨fun _ _ => ?_, hK _ ?_⟩; fail; clear hK K)); (refine wpE_take (i := 14) rfl (by kernel_rfl) (fun _ _ _ _ h => h) (fun K hK => ?_); go_simp; first | (refine hK _ ?_; clear hK K) | (apply Exists.intro; refine ⟨fun _ _ => ?_, hK _ ?_⟩; fail; clear hK K))
              refine wpE_done (by kernel_rfl) (fun E d => ?_)
              clear hcb HCB hsl hix hbz hIz
              have hbx : Below W0.heap.size W0 (extW wz E d) := bExtW hbz2 hbz2.size
              have hr8 := rowBelow HRB.out hbx HRB.out.lt
              have hf8 := rowBelow HFB.out hbx HFB.out.lt
              have HBX := Lib.hid (HB0.out.trans (hbx.mono (by omega)))
              generalize extW wz E d = wx at *
              have r0 : wx.cell? ⟨q + 1, 0, none⟩ = some (.int .i64 (0)) := hr8.cell (i := 0) (by omega)
              have r1 : wx.cell? ⟨q + 1, 1, none⟩ = some (.int .i64 (0)) := hr8.cell (i := 1) (by omega)
              have r2 : wx.cell? ⟨q + 1, 2, none⟩ = some (.slice none 0 0) := hr8.cell (i := 2) (by omega)
              have f0 := hr8.frozen 0; have f1 := hr8.frozen 1; have f2 := hr8.frozen 2
              have s0 : wx.cell? ⟨q + 2, 0, none⟩ = some (.int .i64 (0)) := hf8.cell (i := 0) (by omega)
              have s1 : wx.cell? ⟨q + 2, 1, none⟩ = some (.int .i64 (0)) := hf8.cell (i := 1) (by omega)
              have g0 := hf8.frozen 0; have g1 := hf8.frozen 1
              have lr : LtW (q + 1) wx := hr8.lt
              have lf : LtW (q + 2) wx := hf8.lt
              clear hr8 hf8 hbx
              go_wp2
              refine bodyPost_ret (v := .tuple #[.agg #[.int .i64 (0), .int .i64 (0), .slice none 0 0], .agg #[.int .i64 (2), .int .i64 (6)]]) (by simp [results, Try.results30, go_sem, r0, r1, r2, s0, s1]) rfl ?_
              unfold UnpPost
              rw [HU.out]
              refine ⟨rfl, ?_⟩
              rw [HQE.out]
              exact ((((HBX.out.setCell (by first | omega | (simp; done) | (simp; omega)) _).setCell (by first | omega | (simp; done) | (simp; omega)) _).setCell (by first | omega | (simp; done) | (simp; omega)) _).setCell (by first | omega | (simp; done) | (simp; omega)) _).setCell (by first | omega | (simp; done) | (simp; omega)) _
end Go.Proofs.Ytpmecoojhjopcaa
