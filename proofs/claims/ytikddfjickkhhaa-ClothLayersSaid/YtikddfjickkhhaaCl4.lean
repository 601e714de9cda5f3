/- Lemmas and contracts of functions (what each call returns, and that it changes nothing that was there) that the proof of a law of this seat uses; each lemma states its own conditions. -/
import Derived.Test.YtikddfjickkhhaaCl3
namespace Go.Proofs.Ytikddfjickkhhaa
open Go.RowKit
set_option linter.unusedVariables false
set_option linter.unusedSimpArgs false
open Cl
set_option maxRecDepth 100000 in
set_option maxHeartbeats 8000000 in
theorem Hangs_bad (W H : Int) (a : Option Addr) (n c : Nat) (w : World) (h1 : (-9223372036854775808 ≤ W ∧ W ≤ 9223372036854775807)) (h2 : (-9223372036854775808 ≤ H ∧ H ≤ 9223372036854775807)) (h3 : n ≤ 9223372036854775807) (he : wrC W H n ≠ 0) :
    Calls Try.prog 19 #[.agg #[.int .i64 (W), .int .i64 (H), .slice a n c]] w fun e w' => e = .returned (.tuple #[.bool false, .int .i64 (wrC W H n)]) ∧ Below w.heap.size w w' := by
  have hb : (wrC W H n == 0) = false := by simpa using he
  have HS := Lib.hid (fun w => Lift_bad W H a n c w h1 h2 h3 he)
  clear he
  go_enter Try.func19, Try.ntmps19
  (go_wp2_with fail; refine (HS.out _).mono ?_; rintro r w1 ⟨rfl, hb⟩; obtain ⟨E, d, rfl⟩ := bExt hb; clear hb)
  go_wp2
  go_ret2
  exact ⟨rfl, (by repeat (first | exact Below.refl _ _ | refine Below.drew ?_ | refine below_drewN ?_ _ | refine Below.alloc ?_ (by first | exact Nat.le_refl _ | (simp; done) | (simp; omega) | omega) _ | refine Below.setCell ?_ (by first | exact Nat.le_refl _ | (simp; done) | (simp; omega) | omega) _ | refine bExtW ?_ (by first | exact Nat.le_refl _ | (simp; done) | (simp; omega) | omega) | refine Below.trans ?_ (Below.mono (by assumption) (by first | exact Nat.le_refl _ | (simp; done) | (simp; omega) | omega))))⟩
set_option maxRecDepth 100000 in
set_option maxHeartbeats 8000000 in
theorem Hangs_ok (W H : Nat) (a : Option Addr) (n c : Nat) (bs : List Bool) (w : World) (hi : IsBools w a n bs) (h1 : W ≤ 64) (h2 : H ≤ 64) (hn : n = W * H) (he : wrC W H n = 0) :
    Calls Try.prog 19 #[.agg #[.int .i64 (W), .int .i64 (H), .slice a n c]] w fun e w' => e = .returned (.tuple #[.bool (((lift (W+H) (abM W H bs)).length : Int) == 0), .int .i64 (0)]) ∧ Below w.heap.size w w' := by
  have HS := Lib.hid (fun w (hi : IsBools w a n bs) => Lift_ok W H a n c bs w hi h1 h2 hn he)
  have HI := Lib.hid hi
  clear hi he hn
  generalize lift (W+H) (abM W H bs) = L at *
  go_enter Try.func19, Try.ntmps19
  go_wp2_with fail
  refine (HS.out _ (HI.out.below (by repeat (first | exact Below.refl _ _ | refine Below.drew ?_ | refine below_drewN ?_ _ | refine Below.alloc ?_ (by first | exact Nat.le_refl _ | (simp; done) | (simp; omega) | omega) _ | refine Below.setCell ?_ (by first | exact Nat.le_refl _ | (simp; done) | (simp; omega) | omega) _ | refine bExtW ?_ (by first | exact Nat.le_refl _ | (simp; done) | (simp; omega) | omega) | refine Below.trans ?_ (Below.mono (by assumption) (by first | exact Nat.le_refl _ | (simp; done) | (simp; omega) | omega)))))).mono ?_
  rintro r w1 ⟨A, c', rfl, hL, hb⟩
  obtain ⟨E, d, rfl⟩ := bExt hb
  clear hb hL
  go_wp2
  go_ret2
  exact ⟨rfl, (by repeat (first | exact Below.refl _ _ | refine Below.drew ?_ | refine below_drewN ?_ _ | refine Below.alloc ?_ (by first | exact Nat.le_refl _ | (simp; done) | (simp; omega) | omega) _ | refine Below.setCell ?_ (by first | exact Nat.le_refl _ | (simp; done) | (simp; omega) | omega) _ | refine bExtW ?_ (by first | exact Nat.le_refl _ | (simp; done) | (simp; omega) | omega) | refine Below.trans ?_ (Below.mono (by assumption) (by first | exact Nat.le_refl _ | (simp; done) | (simp; omega) | omega))))⟩
end Go.Proofs.Ytikddfjickkhhaa
