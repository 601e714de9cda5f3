/- Lemmas and contracts of functions (what each call returns, and that it changes nothing that was there) that the proof of a law of this seat uses; each lemma states its own conditions. -/
import Derived.Test.YtikddfjickkhhaaCl4
import Derived.Test.YtikddfjickkhhaaCl6
namespace Go.Proofs.Ytikddfjickkhhaa
open Go.RowKit
set_option linter.unusedVariables false
set_option linter.unusedSimpArgs false
open Cl
set_option maxRecDepth 100000 in
set_option maxHeartbeats 8000000 in
theorem alive8_any (w : World) :
    Calls Try.prog 17 #[] w fun r w' => r = .returned (.bool true) ∧ Below w.heap.size w w' := by
  have HP : Hid (lift (2+2) (abM 2 2 [true, false, false, true]) = []) := Lib.hid (by decide +kernel)
  go_enter Try.func17, Try.ntmps17
  go_wp2_with fail
  refine (Hangs_ok 2 2 (some ⟨w.heap.size, 0, none⟩) 4 4 [true, false, false, true] _ ⟨rfl, fun _ => ⟨w.heap.size, 0, rfl, by simp, ?_⟩⟩ (by decide) (by decide) rfl (by decide +kernel)).mono ?_
  · intro j hj
    have hj4 : j = 0 ∨ j = 1 ∨ j = 2 ∨ j = 3 := by omega
    rcases hj4 with rfl | rfl | rfl | rfl <;> simp
  rintro r w1 ⟨rfl, hb⟩
  rw [HP.out]
  obtain ⟨E, d, rfl⟩ := bExt hb
  clear hb
  go_wp2
  go_ret
  exact ⟨rfl, (by repeat (first | exact Below.refl _ _ | refine Below.drew ?_ | refine below_drewN ?_ _ | refine Below.alloc ?_ (by first | exact Nat.le_refl _ | (simp; done) | (simp; omega) | omega) _ | refine Below.setCell ?_ (by first | exact Nat.le_refl _ | (simp; done) | (simp; omega) | omega) _ | refine bExtW ?_ (by first | exact Nat.le_refl _ | (simp; done) | (simp; omega) | omega) | refine Below.trans ?_ (Below.mono (by assumption) (by first | exact Nat.le_refl _ | (simp; done) | (simp; omega) | omega))))⟩
set_option maxRecDepth 100000 in
set_option maxHeartbeats 8000000 in
theorem hangs_walk (W H : Int) (a : Option Addr) (n c : Nat) (bs : List Bool) (a2 : Option Addr) (n2 c2 : Nat) (zs : List Int) (w : World) (hi : IsBools w a n bs) (hz : IsInts w a2 n2 zs) (h1 : (-9223372036854775808 ≤ W ∧ W ≤ 9223372036854775807)) (h2 : (-9223372036854775808 ≤ H ∧ H ≤ 9223372036854775807)) (hn : n ≤ 9223372036854775807) (hn2 : n2 ≤ 9223372036854775807) :
    Calls Try.prog 4 #[.agg #[.int .i64 (W), .int .i64 (H), .slice a n c], .slice a2 n2 c2] w fun e w' => e = .returned (.bool true) ∧ Below w.heap.size w w' := by
  by_cases he : wrC W H n = 0
  · obtain ⟨hq, hn0⟩ := wrC_zero he
    obtain ⟨W, H, rfl, rfl, hW, hH, hn⟩ := wrT_zero hq
    have HLi := Lib.hid (fun w (hi : IsBools w a n bs) => Lift_ok W H a n c bs w hi hW hH hn he)
    have HHa := Lib.hid (fun w (hi : IsBools w a n bs) => Hangs_ok W H a n c bs w hi hW hH hn he)
    have HFr := Lib.hid (fun w (hi : IsBools w a n bs) A N C Z (hz : IsInts w A N Z) (hN : N ≤ 9223372036854775807) => free_any W H a n c bs A N C Z w hi hz hW hH hn hN)
    have HI := Lib.hid hi
    have HZ := Lib.hid hz
    have HF1 := Lib.hid (fun h => lift_free (n := W + H) (ab := abM W H bs) (abM_bnd W H bs) h)
    have HF2 := Lib.hid (fun h => hang_free (n := W + H) (ab := abM W H bs) (abM_bnd W H bs) h zs)
    have hLl : (lift (W+H) (abM W H bs)).length ≤ 128 := by
      rcases lift_cases (W+H) (abM W H bs) with ⟨h, _⟩ | ⟨s, _, _, h⟩
      · rw [h]; simp
      · rw [h]; have := cnt_le (W+H) (fun a => wp (abM W H bs) (W+H) a s); unfold cnt at this; omega
    clear hi hz he hq hn hn0 h1 h2
    generalize lift (W+H) (abM W H bs) = L at *
    generalize freeV (W+H) (abM W H bs) = fV at *
    go_enter Try.func4, Try.ntmps4
    (go_wp2_with fail; refine (alive8_any _).mono ?_; rintro r w1 ⟨rfl, hb⟩; obtain ⟨E, d, rfl⟩ := bExt hb; clear hb)
    go_wp2_with fail
    refine (HLi.out _ (HI.out.below (by repeat (first | exact Below.refl _ _ | refine Below.drew ?_ | refine below_drewN ?_ _ | refine Below.alloc ?_ (by first | exact Nat.le_refl _ | (simp; done) | (simp; omega) | omega) _ | refine Below.setCell ?_ (by first | exact Nat.le_refl _ | (simp; done) | (simp; omega) | omega) _ | refine bExtW ?_ (by first | exact Nat.le_refl _ | (simp; done) | (simp; omega) | omega) | refine Below.trans ?_ (Below.mono (by assumption) (by first | exact Nat.le_refl _ | (simp; done) | (simp; omega) | omega)))))).mono ?_
    rintro r w1 ⟨A, c', rfl, hL, hb⟩
    obtain ⟨E, d, rfl⟩ := bExt hb
    clear hb
    have HL := Lib.hid hL
    clear hL
    cases L with
    | nil =>
      have HF3 := Lib.hid (HF2.out rfl)
      simp only [List.length_nil]
      go_wp2_with fail
      refine (HHa.out _ (HI.out.below (by repeat (first | exact Below.refl _ _ | refine Below.drew ?_ | refine below_drewN ?_ _ | refine Below.alloc ?_ (by first | exact Nat.le_refl _ | (simp; done) | (simp; omega) | omega) _ | refine Below.setCell ?_ (by first | exact Nat.le_refl _ | (simp; done) | (simp; omega) | omega) _ | refine bExtW ?_ (by first | exact Nat.le_refl _ | (simp; done) | (simp; omega) | omega) | refine Below.trans ?_ (Below.mono (by assumption) (by first | exact Nat.le_refl _ | (simp; done) | (simp; omega) | omega)))))).mono ?_
      rintro r w1 ⟨rfl, hb⟩
      obtain ⟨E, d, rfl⟩ := bExt hb
      clear hb
      simp only [List.length_nil]
      go_wp2_with fail
      refine (HFr.out _ (HI.out.below (by repeat (first | exact Below.refl _ _ | refine Below.drew ?_ | refine below_drewN ?_ _ | refine Below.alloc ?_ (by first | exact Nat.le_refl _ | (simp; done) | (simp; omega) | omega) _ | refine Below.setCell ?_ (by first | exact Nat.le_refl _ | (simp; done) | (simp; omega) | omega) _ | refine bExtW ?_ (by first | exact Nat.le_refl _ | (simp; done) | (simp; omega) | omega) | refine Below.trans ?_ (Below.mono (by assumption) (by first | exact Nat.le_refl _ | (simp; done) | (simp; omega) | omega))))) a2 n2 c2 zs (HZ.out.below (by repeat (first | exact Below.refl _ _ | refine Below.drew ?_ | refine below_drewN ?_ _ | refine Below.alloc ?_ (by first | exact Nat.le_refl _ | (simp; done) | (simp; omega) | omega) _ | refine Below.setCell ?_ (by first | exact Nat.le_refl _ | (simp; done) | (simp; omega) | omega) _ | refine bExtW ?_ (by first | exact Nat.le_refl _ | (simp; done) | (simp; omega) | omega) | refine Below.trans ?_ (Below.mono (by assumption) (by first | exact Nat.le_refl _ | (simp; done) | (simp; omega) | omega))))) hn2).mono ?_
      rintro r w1 ⟨rfl, hb⟩
      obtain ⟨E, d, rfl⟩ := bExt hb
      clear hb
      rw [HF3.out]
      go_wp2
      go_ret
      exact ⟨rfl, (by repeat (first | exact Below.refl _ _ | refine Below.drew ?_ | refine below_drewN ?_ _ | refine Below.alloc ?_ (by first | exact Nat.le_refl _ | (simp; done) | (simp; omega) | omega) _ | refine Below.setCell ?_ (by first | exact Nat.le_refl _ | (simp; done) | (simp; omega) | omega) _ | refine bExtW ?_ (by first | exact Nat.le_refl _ | (simp; done) | (simp; omega) | omega) | refine Below.trans ?_ (Below.mono (by assumption) (by first | exact Nat.le_refl _ | (simp; done) | (simp; omega) | omega))))⟩
    | cons x L =>
      have HF3 := Lib.hid (HF1.out (by simp))
      have hlen : ((L.length + 1 : Nat) : Int) = (L.length : Int) + 1 := by omega
      simp only [List.length_cons] at hLl
      have hb0 : ((L.length : Int) + 1 == 0) = false := by simp; omega
      simp only [List.length_cons, hlen] at *
      clear hlen
      go_wp2_with fail
      refine (HHa.out _ (HI.out.below (by repeat (first | exact Below.refl _ _ | refine Below.drew ?_ | refine below_drewN ?_ _ | refine Below.alloc ?_ (by first | exact Nat.le_refl _ | (simp; done) | (simp; omega) | omega) _ | refine Below.setCell ?_ (by first | exact Nat.le_refl _ | (simp; done) | (simp; omega) | omega) _ | refine bExtW ?_ (by first | exact Nat.le_refl _ | (simp; done) | (simp; omega) | omega) | refine Below.trans ?_ (Below.mono (by assumption) (by first | exact Nat.le_refl _ | (simp; done) | (simp; omega) | omega)))))).mono ?_
      rintro r w1 ⟨rfl, hb⟩
      obtain ⟨E, d, rfl⟩ := bExt hb
      clear hb
      go_wp2_with fail
      refine (HFr.out _ (HI.out.below (by repeat (first | exact Below.refl _ _ | refine Below.drew ?_ | refine below_drewN ?_ _ | refine Below.alloc ?_ (by first | exact Nat.le_refl _ | (simp; done) | (simp; omega) | omega) _ | refine Below.setCell ?_ (by first | exact Nat.le_refl _ | (simp; done) | (simp; omega) | omega) _ | refine bExtW ?_ (by first | exact Nat.le_refl _ | (simp; done) | (simp; omega) | omega) | refine Below.trans ?_ (Below.mono (by assumption) (by first | exact Nat.le_refl _ | (simp; done) | (simp; omega) | omega))))) A (L.length + 1) c' (natI (x :: L)) (HL.out.below (by repeat (first | exact Below.refl _ _ | refine Below.drew ?_ | refine below_drewN ?_ _ | refine Below.alloc ?_ (by first | exact Nat.le_refl _ | (simp; done) | (simp; omega) | omega) _ | refine Below.setCell ?_ (by first | exact Nat.le_refl _ | (simp; done) | (simp; omega) | omega) _ | refine bExtW ?_ (by first | exact Nat.le_refl _ | (simp; done) | (simp; omega) | omega) | refine Below.trans ?_ (Below.mono (by assumption) (by first | exact Nat.le_refl _ | (simp; done) | (simp; omega) | omega))))) (by omega)).mono ?_
      rintro r w1 ⟨rfl, hb⟩
      obtain ⟨E, d, rfl⟩ := bExt hb
      clear hb
      have e3 := HF3.out
      rw [show fV (natI (x :: L)) = true from e3]
      clear e3
      go_wp2
      go_ret
      exact ⟨rfl, (by repeat (first | exact Below.refl _ _ | refine Below.drew ?_ | refine below_drewN ?_ _ | refine Below.alloc ?_ (by first | exact Nat.le_refl _ | (simp; done) | (simp; omega) | omega) _ | refine Below.setCell ?_ (by first | exact Nat.le_refl _ | (simp; done) | (simp; omega) | omega) _ | refine bExtW ?_ (by first | exact Nat.le_refl _ | (simp; done) | (simp; omega) | omega) | refine Below.trans ?_ (Below.mono (by assumption) (by first | exact Nat.le_refl _ | (simp; done) | (simp; omega) | omega))))⟩
  · have hb : (wrC W H n != 0) = true := by simpa using he
    have HS := Lib.hid (fun w => Lift_bad W H a n c w h1 h2 hn he)
    clear he
    go_enter Try.func4, Try.ntmps4
    (go_wp2_with fail; refine (alive8_any _).mono ?_; rintro r w1 ⟨rfl, hb⟩; obtain ⟨E, d, rfl⟩ := bExt hb; clear hb)
    (go_wp2_with fail; refine (HS.out _).mono ?_; rintro r w1 ⟨rfl, hb⟩; obtain ⟨E, d, rfl⟩ := bExt hb; clear hb)
    go_wp2
    go_ret
    exact ⟨rfl, (by repeat (first | exact Below.refl _ _ | refine Below.drew ?_ | refine below_drewN ?_ _ | refine Below.alloc ?_ (by first | exact Nat.le_refl _ | (simp; done) | (simp; omega) | omega) _ | refine Below.setCell ?_ (by first | exact Nat.le_refl _ | (simp; done) | (simp; omega) | omega) _ | refine bExtW ?_ (by first | exact Nat.le_refl _ | (simp; done) | (simp; omega) | omega) | refine Below.trans ?_ (Below.mono (by assumption) (by first | exact Nat.le_refl _ | (simp; done) | (simp; omega) | omega))))⟩
end Go.Proofs.Ytikddfjickkhhaa
