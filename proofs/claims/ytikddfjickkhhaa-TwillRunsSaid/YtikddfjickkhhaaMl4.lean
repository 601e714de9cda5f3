/- Lemmas and contracts of functions (what each call returns, and that it changes nothing that was there) that the proof of a law of this seat uses; each lemma states its own conditions. -/
import Derived.Test.YtikddfjickkhhaaMl3
namespace Go.Proofs.Ytikddfjickkhhaa
open Go.RowKit
set_option linter.unusedVariables false
set_option linter.unusedSimpArgs false
open Lo Tw
theorem rest_eq {a : Int} {n : Nat} (hn : 0 < n) : a % (n : Int) = if a.tmod n < 0 then a.tmod n + n else a.tmod n := by
  have h0 : (0 : Int) < n := by omega
  have h1 : a = a.tmod n + n * a.tdiv n := (Int.tmod_add_mul_tdiv a n).symm
  have e : a % (n : Int) = (a.tmod n) % (n : Int) := by
    conv => lhs; rw [h1]
    rw [Int.add_mul_emod_self_left]
  have hlt := Int.tmod_lt_of_pos a h0
  have hgt := Int.lt_tmod_of_pos a h0
  rw [e]
  split
  · rw [← Int.add_emod_right, Int.emod_eq_of_lt (by omega) (by omega)]
  · exact Int.emod_eq_of_lt (by omega) hlt
set_option maxRecDepth 100000 in
set_option maxHeartbeats 8000000 in
theorem Rest_ok (a : Int) (n : Nat) (w : World) (hn : 0 < n) (h2 : n ≤ 64) (ha : (-9223372036854775808 ≤ a ∧ a ≤ 9223372036854775807)) :
    Calls Try.prog 68 #[.int .i64 (a), .int .i64 (n)] w fun e w' => e = .returned (.int .i64 (a % (n : Int))) ∧ Below w.heap.size w w' := by
  have h0 : (0 : Int) < n := by omega
  have hE := Lib.hid (rest_eq (a := a) hn)
  have hlt := Int.tmod_lt_of_pos a h0
  have hgt := Int.lt_tmod_of_pos a h0
  have hN0 : ((n : Int) == 0) = false := by simp; omega
  have hN1 : (n : Int) ≠ 0 := by omega
  have hN3 : ¬ n = 0 := by omega
  obtain ⟨r, hr⟩ : ∃ r, a.tmod (n : Int) = r := ⟨_, rfl⟩
  rw [hr] at hE hlt hgt
  by_cases hr0 : r < 0
  · rw [if_pos hr0] at hE
    have v1 : IntKind.i64.wrap r = r := IntWalk.i64_in _ (by omega)
    have v2 : IntKind.i64.wrap (r + (n : Int)) = r + (n : Int) := IntWalk.i64_in _ (by omega)
    have hd : decide (r < 0) = true := by simpa using hr0
    go_enter Try.func68, Try.ntmps68
    go_wp2
    go_ret
    exact ⟨by rw [hE.out]; rfl, (by repeat (first | exact Below.refl _ _ | refine Below.drew ?_ | refine below_drewN ?_ _ | refine Below.alloc ?_ (by first | exact Nat.le_refl _ | (simp; done) | (simp; omega) | omega) _ | refine Below.setCell ?_ (by first | exact Nat.le_refl _ | (simp; done) | (simp; omega) | omega) _ | refine bExtW ?_ (by first | exact Nat.le_refl _ | (simp; done) | (simp; omega) | omega) | refine Below.trans ?_ (Below.mono (by assumption) (by first | exact Nat.le_refl _ | (simp; done) | (simp; omega) | omega))))⟩
  · rw [if_neg hr0] at hE
    have v1 : IntKind.i64.wrap r = r := IntWalk.i64_in _ (by omega)
    have hd : decide (r < 0) = false := by simpa using hr0
    go_enter Try.func68, Try.ntmps68
    go_wp2
    go_ret
    exact ⟨by rw [hE.out]; rfl, (by repeat (first | exact Below.refl _ _ | refine Below.drew ?_ | refine below_drewN ?_ _ | refine Below.alloc ?_ (by first | exact Nat.le_refl _ | (simp; done) | (simp; omega) | omega) _ | refine Below.setCell ?_ (by first | exact Nat.le_refl _ | (simp; done) | (simp; omega) | omega) _ | refine bExtW ?_ (by first | exact Nat.le_refl _ | (simp; done) | (simp; omega) | omega) | refine Below.trans ?_ (Below.mono (by assumption) (by first | exact Nat.le_refl _ | (simp; done) | (simp; omega) | omega))))⟩
end Go.Proofs.Ytikddfjickkhhaa
