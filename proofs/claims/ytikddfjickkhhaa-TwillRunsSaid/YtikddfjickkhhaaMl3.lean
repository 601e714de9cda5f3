/- Lemmas and contracts of functions (what each call returns, and that it changes nothing that was there) that the proof of a law of this seat uses; each lemma states its own conditions. -/
import Derived.Test.YtikddfjickkhhaaMl2
namespace Go.Proofs.Ytikddfjickkhhaa
open Go.RowKit
set_option linter.unusedVariables false
set_option linter.unusedSimpArgs false
open Lo Tw
set_option maxRecDepth 100000 in
set_option maxHeartbeats 8000000 in
theorem rSatin_none (n : Nat) (move : Int) (w : World) (h1 : 1 ≤ n) (h2 : n ≤ 64) (hm : (-9223372036854775808 ≤ move ∧ move ≤ 9223372036854775807)) (hno : ∀ k : Nat, move = k → ¬ mvOk n k) :
    Calls Try.prog 36 #[.int .i64 (n), .int .i64 (move)] w fun r w' => r = .returned (.tuple #[.agg #[.int .i64 0, .int .i64 0, .slice none 0 0], .int .i64 (6)]) ∧ Below w.heap.size w w' := by
  by_cases c1 : move < 2
  · clear hno
    go_enter Try.func36, Try.ntmps36
    go_wp2
    refine bodyPost_ret (v := .tuple #[.agg #[.int .i64 0, .int .i64 0, .slice none 0 0], .int .i64 (6)]) (by simp [results, Try.results36, go_sem]) rfl ⟨rfl, (by repeat (first | exact Below.refl _ _ | refine Below.drew ?_ | refine below_drewN ?_ _ | refine Below.alloc ?_ (by first | exact Nat.le_refl _ | (simp; done) | (simp; omega) | omega) _ | refine Below.setCell ?_ (by first | exact Nat.le_refl _ | (simp; done) | (simp; omega) | omega) _ | refine bExtW ?_ (by first | exact Nat.le_refl _ | (simp; done) | (simp; omega) | omega) | refine Below.trans ?_ (Below.mono (by assumption) (by first | exact Nat.le_refl _ | (simp; done) | (simp; omega) | omega))))⟩
  · by_cases c2 : (n : Int) - 2 < move
    · clear hno
      go_enter Try.func36, Try.ntmps36
      go_wp2
      refine bodyPost_ret (v := .tuple #[.agg #[.int .i64 0, .int .i64 0, .slice none 0 0], .int .i64 (6)]) (by simp [results, Try.results36, go_sem]) rfl ⟨rfl, (by repeat (first | exact Below.refl _ _ | refine Below.drew ?_ | refine below_drewN ?_ _ | refine Below.alloc ?_ (by first | exact Nat.le_refl _ | (simp; done) | (simp; omega) | omega) _ | refine Below.setCell ?_ (by first | exact Nat.le_refl _ | (simp; done) | (simp; omega) | omega) _ | refine bExtW ?_ (by first | exact Nat.le_refl _ | (simp; done) | (simp; omega) | omega) | refine Below.trans ?_ (Below.mono (by assumption) (by first | exact Nat.le_refl _ | (simp; done) | (simp; omega) | omega))))⟩
    · obtain ⟨k, rfl⟩ : ∃ k : Nat, move = k := ⟨move.toNat, by omega⟩
      have hg : ¬ Nat.gcd k n = 1 := fun h => hno k rfl ⟨by omega, by omega, by rw [Nat.gcd_comm]; exact h⟩
      have HAL := Lib.hid (fun w => Alone_ok k n w (by omega) (by omega) (by omega))
      rw [decide_eq_false hg] at HAL
      clear hno hg
      go_enter Try.func36, Try.ntmps36
      (go_wp2_with fail; refine (HAL.out _).mono ?_; rintro r w1 ⟨rfl, hb⟩; obtain ⟨E, d, rfl⟩ := bExt hb; clear hb)
      go_wp2
      refine bodyPost_ret (v := .tuple #[.agg #[.int .i64 0, .int .i64 0, .slice none 0 0], .int .i64 (6)]) (by simp [results, Try.results36, go_sem]) rfl ⟨rfl, (by repeat (first | exact Below.refl _ _ | refine Below.drew ?_ | refine below_drewN ?_ _ | refine Below.alloc ?_ (by first | exact Nat.le_refl _ | (simp; done) | (simp; omega) | omega) _ | refine Below.setCell ?_ (by first | exact Nat.le_refl _ | (simp; done) | (simp; omega) | omega) _ | refine bExtW ?_ (by first | exact Nat.le_refl _ | (simp; done) | (simp; omega) | omega) | refine Below.trans ?_ (Below.mono (by assumption) (by first | exact Nat.le_refl _ | (simp; done) | (simp; omega) | omega))))⟩
/-- A truth of bits that are known, or none. -/
def BPost (X Y : Int) (n : Nat) (L : List Bool) (pe : Int) (w : World) (r : Ending) (w' : World) : Prop :=
  ∃ A C, r = .returned (.tuple #[.agg #[.int .i64 (X), .int .i64 (Y), .slice A n C], .int .i64 (pe)]) ∧ IsBools w' A n L ∧ Below w.heap.size w w'
theorem bpost_bad {pe : Int} {w w' : World} {r : Ending} (h : r = .returned (.tuple #[.agg #[.int .i64 0, .int .i64 0, .slice none 0 0], .int .i64 (pe)]) ∧ Below w.heap.size w w') : BPost 0 0 0 [] pe w r w' := ⟨none, 0, h.1, ⟨rfl, fun h => absurd h (by omega)⟩, h.2⟩
theorem SatinU (n move : Int) (h0 : (-9223372036854775808 ≤ n ∧ n ≤ 9223372036854775807)) (hm : (-9223372036854775808 ≤ move ∧ move ≤ 9223372036854775807)) :
    ∃ X Y m L pe, m ≤ 9223372036854775807 ∧ (∀ w, Calls Try.prog 16 #[.int .i64 (n), .int .i64 (move)] w (BPost X Y m L pe w)) ∧ (∀ w, Calls Try.prog 36 #[.int .i64 (n), .int .i64 (move)] w (BPost X Y m L pe w)) := by
  by_cases hr : n < 1 ∨ 64 < n
  · exact ⟨0, 0, 0, [], 3, by omega, fun w => (Satin_bad n move w h0 hr).mono fun r w' h => bpost_bad h, fun w => (rSatin_bad n move w h0 hr).mono fun r w' h => bpost_bad h⟩
  · obtain ⟨n, rfl⟩ : ∃ k : Nat, n = k := ⟨n.toNat, by omega⟩
    by_cases hk : ∃ k : Nat, move = k ∧ mvOk n k
    · obtain ⟨k, rfl, hk⟩ := hk
      refine ⟨n, n, n * n, satL n k, 0, Nat.le_trans (mul64n (show n ≤ 64 by omega) (show n ≤ 64 by omega)) (by omega), fun w => ?_, fun w => ?_⟩
      · refine (Satin_any n k w (by omega) (by omega) hm).mono fun r w' h => ?_
        rcases h with ⟨hno, _⟩ | ⟨k', e, _, A, c, h3, h4, h5⟩
        · exact absurd hk (hno k rfl)
        · obtain rfl : k = k' := by omega
          exact ⟨A, c, h3, h4, h5⟩
      · exact (rSatin_ok n k w (by omega) (by omega) hk).mono fun r w' h => h
    · refine ⟨0, 0, 0, [], 6, by omega, fun w => ?_, fun w => ?_⟩
      · refine (Satin_any n move w (by omega) (by omega) hm).mono fun r w' h => ?_
        rcases h with ⟨_, h3, h4⟩ | ⟨k', e, hk', _⟩
        · exact bpost_bad ⟨h3, h4⟩
        · exact absurd ⟨k', e, hk'⟩ hk
      · exact (rSatin_none n move w (by omega) (by omega) hm fun k e h => hk ⟨k, e, h⟩).mono fun r w' h => bpost_bad h
theorem MovesU (n : Int) (h0 : (-9223372036854775808 ≤ n ∧ n ≤ 9223372036854775807)) :
    ∃ m L pe, m ≤ 9223372036854775807 ∧ (∀ w, Calls Try.prog 34 #[.int .i64 (n)] w (IPost m L pe w)) ∧ (∀ w, Calls Try.prog 35 #[.int .i64 (n)] w (IPost m L pe w)) := by
  by_cases hr : n < 1 ∨ 64 < n
  · exact ⟨0, [], 3, by omega, fun w => (Moves_bad n w h0 hr).mono fun r w' h => ipost_bad h, fun w => (rMoves_bad n w h0 hr).mono fun r w' h => ipost_bad h⟩
  · obtain ⟨n, rfl⟩ : ∃ k : Nat, n = k := ⟨n.toNat, by omega⟩
    refine ⟨(movesL n).length, natI (movesL n), 0, Nat.le_trans (movesL_len n (by omega)) (by omega), fun w => ?_, fun w => ?_⟩
    · exact (Moves_ok n w (by omega) (by omega)).mono fun r w' h => h
    · exact (rMoves_ok n w (by omega) (by omega)).mono fun r w' h => h
end Go.Proofs.Ytikddfjickkhhaa
