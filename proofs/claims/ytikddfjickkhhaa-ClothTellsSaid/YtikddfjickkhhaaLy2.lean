/- Lemmas and contracts of functions (what each call returns, and that it changes nothing that was there) that the proof of a law of this seat uses; each lemma states its own conditions. -/
import Derived.Test.YtikddfjickkhhaaLL
import Derived.Test.YtikddfjickkhhaaCl1
import Derived.Test.YtikddfjickkhhaaClL
import Derived.Test.YtikddfjickkhhaaBit
namespace Go.Proofs.Ytikddfjickkhhaa
open Go.RowKit
set_option linter.unusedVariables false
set_option linter.unusedSimpArgs false
open Cl
set_option maxRecDepth 100000 in
set_option maxHeartbeats 8000000 in
theorem r8Wrong_any (W H : Int) (a : Option Addr) (n c : Nat) (w : World) (h1 : (-9223372036854775808 ≤ W ∧ W ≤ 9223372036854775807)) (h2 : (-9223372036854775808 ≤ H ∧ H ≤ 9223372036854775807)) (h3 : n ≤ 9223372036854775807) :
    Calls Try.prog 63 #[.agg #[.int .i64 (W), .int .i64 (H), .slice a n c]] w fun e w' => e = .returned (.int .i64 (wrC W H n)) ∧ Below w.heap.size w w' := by
  by_cases hq : wrT W H n = 0
  · by_cases hn : n = 0
    · subst hn
      have HT : Hid (wrC W H 0 = 5) := Lib.hid (by simp [wrC, hq])
      have HE := Lib.hid hq
      clear hq
      go_enter Try.func63, Try.ntmps63
      (go_wp2_with fail; refine (r5Wrong_any W H a 0 c _ h1 h2 h3).mono ?_; rintro r w1 ⟨rfl, hb⟩; obtain ⟨E, d, rfl⟩ := bExt hb; clear hb)
      rw [HE.out]
      go_wp2
      go_ret
      exact ⟨by rw [HT.out]; rfl, (by repeat (first | exact Below.refl _ _ | refine Below.drew ?_ | refine below_drewN ?_ _ | refine Below.alloc ?_ (by first | exact Nat.le_refl _ | (simp; done) | (simp; omega) | omega) _ | refine Below.setCell ?_ (by first | exact Nat.le_refl _ | (simp; done) | (simp; omega) | omega) _ | refine bExtW ?_ (by first | exact Nat.le_refl _ | (simp; done) | (simp; omega) | omega) | refine Below.trans ?_ (Below.mono (by assumption) (by first | exact Nat.le_refl _ | (simp; done) | (simp; omega) | omega))))⟩
    · have HT : Hid (wrC W H n = 0) := Lib.hid (by simp [wrC, hq, hn])
      have HE := Lib.hid hq
      have hn0 : ((n : Int) == 0) = false := by simp; omega
      clear hq hn
      go_enter Try.func63, Try.ntmps63
      (go_wp2_with fail; refine (r5Wrong_any W H a n c _ h1 h2 h3).mono ?_; rintro r w1 ⟨rfl, hb⟩; obtain ⟨E, d, rfl⟩ := bExt hb; clear hb)
      rw [HE.out]
      go_wp2
      go_ret
      exact ⟨by rw [HT.out]; rfl, (by repeat (first | exact Below.refl _ _ | refine Below.drew ?_ | refine below_drewN ?_ _ | refine Below.alloc ?_ (by first | exact Nat.le_refl _ | (simp; done) | (simp; omega) | omega) _ | refine Below.setCell ?_ (by first | exact Nat.le_refl _ | (simp; done) | (simp; omega) | omega) _ | refine bExtW ?_ (by first | exact Nat.le_refl _ | (simp; done) | (simp; omega) | omega) | refine Below.trans ?_ (Below.mono (by assumption) (by first | exact Nat.le_refl _ | (simp; done) | (simp; omega) | omega))))⟩
  · have hb : (wrT W H n != 0) = true := by simpa using hq
    have HT : Hid (wrC W H n = wrT W H n) := Lib.hid (by simp [wrC, hq])
    clear hq
    go_enter Try.func63, Try.ntmps63
    (go_wp2_with fail; refine (r5Wrong_any W H a n c _ h1 h2 h3).mono ?_; rintro r w1 ⟨rfl, hb⟩; obtain ⟨E, d, rfl⟩ := bExt hb; clear hb)
    go_wp2
    go_ret
    exact ⟨by rw [HT.out]; rfl, (by repeat (first | exact Below.refl _ _ | refine Below.drew ?_ | refine below_drewN ?_ _ | refine Below.alloc ?_ (by first | exact Nat.le_refl _ | (simp; done) | (simp; omega) | omega) _ | refine Below.setCell ?_ (by first | exact Nat.le_refl _ | (simp; done) | (simp; omega) | omega) _ | refine bExtW ?_ (by first | exact Nat.le_refl _ | (simp; done) | (simp; omega) | omega) | refine Below.trans ?_ (Below.mono (by assumption) (by first | exact Nat.le_refl _ | (simp; done) | (simp; omega) | omega))))⟩
set_option maxRecDepth 100000 in
set_option maxHeartbeats 8000000 in
theorem r8Above_any (W H : Nat) (a : Option Addr) (n c : Nat) (bs : List Bool) (w : World) (h : IsBools w a n bs) (h1 : W ≤ 64) (h2 : H ≤ 64) (hn : n = W * H) (i j : Nat) (hi : i < W + H) (hj : j < W + H) :
    Calls Try.prog 83 #[.agg #[.int .i64 (W), .int .i64 (H), .slice a n c], .int .i64 (i), .int .i64 (j)] w fun e w' => e = .returned (.bool (abM W H bs i j)) ∧ Below w.heap.size w w' := by
  have hn4 : n ≤ 4096 := by rw [hn]; exact Nat.le_trans (Nat.mul_le_mul h1 h2) (by omega)
  have HI := Lib.hid h
  clear h
  by_cases hiw : i < W
  · by_cases hjw : W ≤ j
    · obtain ⟨y, rfl⟩ : ∃ y, j = W + y := ⟨j - W, by omega⟩
      have hp := place_lt (W := W) (H := H) (x := i) (y := y) hiw (by omega)
      have HT : Hid (abM W H bs i (W + y) = bs.getD (y * W + i) false) := Lib.hid (by unfold abM; rw [if_pos ⟨hiw, by omega, hj⟩, show W + y - W = y by omega])
      have HB := Lib.hid (fun w h => rBit_ok W H n a c bs w h y i _ rfl (by rw [hn]; exact hp) hn4 (by omega) (by omega) (by omega))
      clear hn hp
      generalize bs.getD (y * W + i) false = v at *
      go_enter Try.func83, Try.ntmps83
      go_wp2_with fail
      rw [show (W : Int) + (y : Int) - (W : Int) = (y : Int) by omega]
      (go_wp2_with fail; refine (HB.out _ (HI.out.below (by repeat (first | exact Below.refl _ _ | refine Below.drew ?_ | refine below_drewN ?_ _ | refine Below.alloc ?_ (by first | exact Nat.le_refl _ | (simp; done) | (simp; omega) | omega) _ | refine Below.setCell ?_ (by first | exact Nat.le_refl _ | (simp; done) | (simp; omega) | omega) _ | refine bExtW ?_ (by first | exact Nat.le_refl _ | (simp; done) | (simp; omega) | omega) | refine Below.trans ?_ (Below.mono (by assumption) (by first | exact Nat.le_refl _ | (simp; done) | (simp; omega) | omega)))))).mono ?_; rintro r w1 ⟨rfl, hb⟩; obtain ⟨E, d, rfl⟩ := bExt hb; clear hb)
      go_wp2
      go_ret
      exact ⟨by rw [HT.out]; rfl, (by repeat (first | exact Below.refl _ _ | refine Below.drew ?_ | refine below_drewN ?_ _ | refine Below.alloc ?_ (by first | exact Nat.le_refl _ | (simp; done) | (simp; omega) | omega) _ | refine Below.setCell ?_ (by first | exact Nat.le_refl _ | (simp; done) | (simp; omega) | omega) _ | refine bExtW ?_ (by first | exact Nat.le_refl _ | (simp; done) | (simp; omega) | omega) | refine Below.trans ?_ (Below.mono (by assumption) (by first | exact Nat.le_refl _ | (simp; done) | (simp; omega) | omega))))⟩
    · have HT : Hid (abM W H bs i j = false) := Lib.hid (by unfold abM; rw [if_neg (by omega), if_neg (by omega)])
      clear hn
      go_enter Try.func83, Try.ntmps83
      go_wp2
      go_ret
      exact ⟨by rw [HT.out]; rfl, (by repeat (first | exact Below.refl _ _ | refine Below.drew ?_ | refine below_drewN ?_ _ | refine Below.alloc ?_ (by first | exact Nat.le_refl _ | (simp; done) | (simp; omega) | omega) _ | refine Below.setCell ?_ (by first | exact Nat.le_refl _ | (simp; done) | (simp; omega) | omega) _ | refine bExtW ?_ (by first | exact Nat.le_refl _ | (simp; done) | (simp; omega) | omega) | refine Below.trans ?_ (Below.mono (by assumption) (by first | exact Nat.le_refl _ | (simp; done) | (simp; omega) | omega))))⟩
  · by_cases hjw : W ≤ j
    · have HT : Hid (abM W H bs i j = false) := Lib.hid (by unfold abM; rw [if_neg (by omega), if_neg (by omega)])
      clear hn
      go_enter Try.func83, Try.ntmps83
      go_wp2
      go_ret
      exact ⟨by rw [HT.out]; rfl, (by repeat (first | exact Below.refl _ _ | refine Below.drew ?_ | refine below_drewN ?_ _ | refine Below.alloc ?_ (by first | exact Nat.le_refl _ | (simp; done) | (simp; omega) | omega) _ | refine Below.setCell ?_ (by first | exact Nat.le_refl _ | (simp; done) | (simp; omega) | omega) _ | refine bExtW ?_ (by first | exact Nat.le_refl _ | (simp; done) | (simp; omega) | omega) | refine Below.trans ?_ (Below.mono (by assumption) (by first | exact Nat.le_refl _ | (simp; done) | (simp; omega) | omega))))⟩
    · obtain ⟨y, rfl⟩ : ∃ y, i = W + y := ⟨i - W, by omega⟩
      have hp := place_lt (W := W) (H := H) (x := j) (y := y) (by omega) (by omega)
      have HT : Hid (abM W H bs (W + y) j = !bs.getD (y * W + j) false) := Lib.hid (by unfold abM; rw [if_neg (by omega), if_pos ⟨by omega, hi, by omega⟩, show W + y - W = y by omega])
      have HB := Lib.hid (fun w h => rBit_ok W H n a c bs w h y j _ rfl (by rw [hn]; exact hp) hn4 (by omega) (by omega) (by omega))
      clear hn hp
      generalize bs.getD (y * W + j) false = v at *
      go_enter Try.func83, Try.ntmps83
      go_wp2_with fail
      rw [show (W : Int) + (y : Int) - (W : Int) = (y : Int) by omega]
      (go_wp2_with fail; refine (HB.out _ (HI.out.below (by repeat (first | exact Below.refl _ _ | refine Below.drew ?_ | refine below_drewN ?_ _ | refine Below.alloc ?_ (by first | exact Nat.le_refl _ | (simp; done) | (simp; omega) | omega) _ | refine Below.setCell ?_ (by first | exact Nat.le_refl _ | (simp; done) | (simp; omega) | omega) _ | refine bExtW ?_ (by first | exact Nat.le_refl _ | (simp; done) | (simp; omega) | omega) | refine Below.trans ?_ (Below.mono (by assumption) (by first | exact Nat.le_refl _ | (simp; done) | (simp; omega) | omega)))))).mono ?_; rintro r w1 ⟨rfl, hb⟩; obtain ⟨E, d, rfl⟩ := bExt hb; clear hb)
      go_wp2
      go_ret
      exact ⟨by rw [HT.out]; rfl, (by repeat (first | exact Below.refl _ _ | refine Below.drew ?_ | refine below_drewN ?_ _ | refine Below.alloc ?_ (by first | exact Nat.le_refl _ | (simp; done) | (simp; omega) | omega) _ | refine Below.setCell ?_ (by first | exact Nat.le_refl _ | (simp; done) | (simp; omega) | omega) _ | refine bExtW ?_ (by first | exact Nat.le_refl _ | (simp; done) | (simp; omega) | omega) | refine Below.trans ?_ (Below.mono (by assumption) (by first | exact Nat.le_refl _ | (simp; done) | (simp; omega) | omega))))⟩
end Go.Proofs.Ytikddfjickkhhaa
