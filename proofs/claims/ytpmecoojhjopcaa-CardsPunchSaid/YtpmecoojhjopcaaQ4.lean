/- Lemmas and contracts of functions (what each call returns, and that it changes nothing that was there) that the proof of a law of this seat uses; each lemma states its own conditions. -/
import Derived.Test.YtpmecoojhjopcaaQ1
import Derived.Test.YtpmecoojhjopcaaAgM
namespace Go.Proofs.Ytpmecoojhjopcaa
open Go.RowKit
set_option linter.unusedVariables false
set_option linter.unusedSimpArgs false
open Lo
set_option maxRecDepth 100000 in
set_option maxHeartbeats 8000000 in
theorem rRows_ok (W H n : Nat) (hn : n = W * H) (a : Option Addr) (c : Nat) (bs : List Bool) (y z : Nat) (w : World) (hI : IsBools w a n bs) (hW : W ≤ 64) (hH : H ≤ 64) (hy : y < H) (hz : z < H) :
    Calls Try.prog 25 #[.agg #[.int .i64 (W), .int .i64 (H), .slice a n c], .int .i64 (y), .int .i64 (z)] w fun e w' => e = .returned (.bool (decide (rowL bs W y = rowL bs W z))) ∧ Below w.heap.size w w' := by
  have hn4 : n ≤ 4096 := by rw [hn]; exact mul64n hW hH
  have HBIT := Lib.hid (fun w y x p h1 h2 h3 (h4 : x ≤ 64) (h5 : y ≤ 64) => rBit_ok W H n a c bs w h1 y x p h2 h3 hn4 (by omega) (by omega) (by omega))
  have HN := Lib.hid hn
  have HI := Lib.hid hI
  clear hI hn
  go_enter Try.func25, Try.ntmps25
  go_wp2_with fail
  go_loopw [7] (fun i wr => ∃ (x : Nat) (E : Array Obj) (d : Nat), x ≤ W ∧ i = .int .i64 x ∧ (∀ j, j < x → bs.getD (y * W + j) false = bs.getD (z * W + j) false) ∧ wr = extW (w.alloc (.cells #[.int .i64 (W), .int .i64 (H), .slice a n c] 24)) E d) (fun i _ => W - (intOf i).toNat)
  case atStart => exact ⟨0, #[], (w.alloc (.cells #[.int .i64 (W), .int .i64 (H), .slice a n c] 24)).drawn, by omega, rfl, fun j h => absurd h (by omega), extW_zero _⟩
  case round =>
    obtain ⟨x, E, d, hx, rfl, hrun, rfl⟩ := hrel
    have HRUN := Lib.hid hrun
    clear hrun
    by_cases hxW : x < W
    · obtain ⟨p1, hp1⟩ : ∃ p, y * W + x = p := ⟨_, rfl⟩
      have hlt1 : p1 < n := by rw [HN.out, ← hp1]; exact place_lt' hxW hy
      obtain ⟨p2, hp2⟩ : ∃ p, z * W + x = p := ⟨_, rfl⟩
      have hlt2 : p2 < n := by rw [HN.out, ← hp2]; exact place_lt' hxW hz
      have HB1 := Lib.hid (fun wq h => HBIT.out wq y x p1 h hp1 hlt1 (by omega) (by omega))
      have HB2 := Lib.hid (fun wq h => HBIT.out wq z x p2 h hp2 hlt2 (by omega) (by omega))
      have HP1 := Lib.hid hp1
      have HP2 := Lib.hid hp2
      clear hp1 hp2
      obtain ⟨b1, hb1⟩ : ∃ b, bs.getD p1 false = b := ⟨_, rfl⟩
      obtain ⟨b2, hb2⟩ : ∃ b, bs.getD p2 false = b := ⟨_, rfl⟩
      rw [hb1] at HB1
      rw [hb2] at HB2
      have HE1 := Lib.hid hb1
      have HE2 := Lib.hid hb2
      clear hb1 hb2
      by_cases hbb : b1 = b2
      · have hbt : (b1 == b2) = true := by simpa using hbb
        have HBB := Lib.hid hbb
        clear hbb
        go_wp2_with fail
        (refine wp_region_ext (by kernel_rfl) (by kernel_rfl) ?_; (repeat (first | ((with_reducible refine ext_step (fun K hK => ?_)); go_simp; first | (refine hK _ ?_; clear hK K) | (apply Exists.intro; refine ⟨fun _ _ => ?_, hK _ ?_⟩; fail; clear hK K)))); ((with_reducible refine ext_step (fun K hK => ?_)); go_simp; (apply Exists.intro; refine ⟨fun _ _ => ?_, hK _ ?_⟩; (go_at_call 44; exact extOf (HB1.out _ (HI.out.below (by repeat (first | exact Below.refl _ _ | refine Below.drew ?_ | refine below_drewN ?_ _ | refine Below.alloc ?_ (by first | exact Nat.le_refl _ | (simp; done) | (simp; omega) | omega) _ | refine Below.setCell ?_ (by first | exact Nat.le_refl _ | (simp; done) | (simp; omega) | omega) _ | refine bExtW ?_ (by first | exact Nat.le_refl _ | (simp; done) | (simp; omega) | omega) | refine Below.trans ?_ (Below.mono (by assumption) (by first | exact Nat.le_refl _ | (simp; done) | (simp; omega) | omega))))))); clear hK K)); (repeat (first | ((with_reducible refine ext_step (fun K hK => ?_)); go_simp; first | (refine hK _ ?_; clear hK K) | (apply Exists.intro; refine ⟨fun _ _ => ?_, hK _ ?_⟩; fail; clear hK K)))); ((with_reducible refine ext_step (fun K hK => ?_)); go_simp; (apply Exists.intro; refine ⟨fun _ _ => ?_, hK _ ?_⟩; (go_at_call 44; exact extOf (HB2.out _ (HI.out.below (by repeat (first | exact Below.refl _ _ | refine Below.drew ?_ | refine below_drewN ?_ _ | refine Below.alloc ?_ (by first | exact Nat.le_refl _ | (simp; done) | (simp; omega) | omega) _ | refine Below.setCell ?_ (by first | exact Nat.le_refl _ | (simp; done) | (simp; omega) | omega) _ | refine bExtW ?_ (by first | exact Nat.le_refl _ | (simp; done) | (simp; omega) | omega) | refine Below.trans ?_ (Below.mono (by assumption) (by first | exact Nat.le_refl _ | (simp; done) | (simp; omega) | omega))))))); clear hK K)); (repeat (first | ((with_reducible refine ext_step (fun K hK => ?_)); go_simp; first | (refine hK _ ?_; clear hK K) | (apply Exists.intro; refine ⟨fun _ _ => ?_, hK _ ?_⟩; fail; clear hK K)))); refine wpQuiet_nil ?_; intro E d)
        go_wp2
        go_roundw
        case rel => exact ⟨x + 1, _, _, by omega, by go_num, fun j hj => by
          rcases Nat.lt_or_ge j x with h | h
          · exact HRUN.out j h
          · obtain rfl : j = x := by omega
            rw [HP1.out, HP2.out, HE1.out, HE2.out, HBB.out], by simp only [extW_extW]; rfl⟩
        case measure => simp [intOf]; omega
      · have hbt : (b1 == b2) = false := by simpa using hbb
        have hne : ¬ rowL bs W y = rowL bs W z := fun h => hbb (by
          have := rowL_eq.1 h x hxW
          rwa [HP1.out, HP2.out, HE1.out, HE2.out] at this)
        have HNE := Lib.hid hne
        clear hbb hne
        go_wp2_with fail
        (refine wp_region_ext (by kernel_rfl) (by kernel_rfl) ?_; (repeat (first | ((with_reducible refine ext_step (fun K hK => ?_)); go_simp; first | (refine hK _ ?_; clear hK K) | (apply Exists.intro; refine ⟨fun _ _ => ?_, hK _ ?_⟩; fail; clear hK K)))); ((with_reducible refine ext_step (fun K hK => ?_)); go_simp; (apply Exists.intro; refine ⟨fun _ _ => ?_, hK _ ?_⟩; (go_at_call 44; exact extOf (HB1.out _ (HI.out.below (by repeat (first | exact Below.refl _ _ | refine Below.drew ?_ | refine below_drewN ?_ _ | refine Below.alloc ?_ (by first | exact Nat.le_refl _ | (simp; done) | (simp; omega) | omega) _ | refine Below.setCell ?_ (by first | exact Nat.le_refl _ | (simp; done) | (simp; omega) | omega) _ | refine bExtW ?_ (by first | exact Nat.le_refl _ | (simp; done) | (simp; omega) | omega) | refine Below.trans ?_ (Below.mono (by assumption) (by first | exact Nat.le_refl _ | (simp; done) | (simp; omega) | omega))))))); clear hK K)); (repeat (first | ((with_reducible refine ext_step (fun K hK => ?_)); go_simp; first | (refine hK _ ?_; clear hK K) | (apply Exists.intro; refine ⟨fun _ _ => ?_, hK _ ?_⟩; fail; clear hK K)))); ((with_reducible refine ext_step (fun K hK => ?_)); go_simp; (apply Exists.intro; refine ⟨fun _ _ => ?_, hK _ ?_⟩; (go_at_call 44; exact extOf (HB2.out _ (HI.out.below (by repeat (first | exact Below.refl _ _ | refine Below.drew ?_ | refine below_drewN ?_ _ | refine Below.alloc ?_ (by first | exact Nat.le_refl _ | (simp; done) | (simp; omega) | omega) _ | refine Below.setCell ?_ (by first | exact Nat.le_refl _ | (simp; done) | (simp; omega) | omega) _ | refine bExtW ?_ (by first | exact Nat.le_refl _ | (simp; done) | (simp; omega) | omega) | refine Below.trans ?_ (Below.mono (by assumption) (by first | exact Nat.le_refl _ | (simp; done) | (simp; omega) | omega))))))); clear hK K)); (repeat (first | ((with_reducible refine ext_step (fun K hK => ?_)); go_simp; first | (refine hK _ ?_; clear hK K) | (apply Exists.intro; refine ⟨fun _ _ => ?_, hK _ ?_⟩; fail; clear hK K)))); refine wpQuiet_nil ?_; intro E d)
        go_wp2
        go_ret
        exact ⟨by rw [decide_eq_false HNE.out]; rfl, (by repeat (first | exact Below.refl _ _ | refine Below.drew ?_ | refine below_drewN ?_ _ | refine Below.alloc ?_ (by first | exact Nat.le_refl _ | (simp; done) | (simp; omega) | omega) _ | refine Below.setCell ?_ (by first | exact Nat.le_refl _ | (simp; done) | (simp; omega) | omega) _ | refine bExtW ?_ (by first | exact Nat.le_refl _ | (simp; done) | (simp; omega) | omega) | refine Below.trans ?_ (Below.mono (by assumption) (by first | exact Nat.le_refl _ | (simp; done) | (simp; omega) | omega))))⟩
    · obtain rfl : W = x := by omega
      go_wp2
      go_ret
      exact ⟨by rw [decide_eq_true (rowL_eq.2 HRUN.out)]; rfl, (by repeat (first | exact Below.refl _ _ | refine Below.drew ?_ | refine below_drewN ?_ _ | refine Below.alloc ?_ (by first | exact Nat.le_refl _ | (simp; done) | (simp; omega) | omega) _ | refine Below.setCell ?_ (by first | exact Nat.le_refl _ | (simp; done) | (simp; omega) | omega) _ | refine bExtW ?_ (by first | exact Nat.le_refl _ | (simp; done) | (simp; omega) | omega) | refine Below.trans ?_ (Below.mono (by assumption) (by first | exact Nat.le_refl _ | (simp; done) | (simp; omega) | omega))))⟩
end Go.Proofs.Ytpmecoojhjopcaa
