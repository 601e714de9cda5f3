/- Lemmas and contracts of functions (what each call returns, and that it changes nothing that was there) that the proof of a law of this seat uses; each lemma states its own conditions. -/
import Derived.Test.YtikddfjickkhhaaMl5
namespace Go.Proofs.Ytikddfjickkhhaa
open Go.RowKit
set_option linter.unusedVariables false
set_option linter.unusedSimpArgs false
open Lo Tw
set_option maxRecDepth 100000 in
set_option maxHeartbeats 8000000 in
theorem rTwill_len (a : Option Addr) (n c : Nat) (zs : List Int) (move : Int) (w : World) (hi : IsInts w a n zs) (hn : n ≤ 9223372036854775807) (h1 : n = 0 ∨ n % 2 = 1 ∨ 16 < n) :
    Calls Try.prog 33 #[.slice a n c, .int .i64 (move)] w (TwillPost zs move w) := by
  have HE : Hid (twE zs move = 5) := Lib.hid (by unfold twE; rw [if_pos (by rw [hi.1]; exact h1)])
  clear hi
  obtain ⟨r, hr⟩ : ∃ r, n % 2 = r := ⟨_, rfl⟩
  have hrem : (n : Int).tmod 2 = (r : Int) := by rw [← hr]; rfl
  have v1 : IntKind.i64.wrap (r : Int) = (r : Int) := IntWalk.i64_in _ (by omega)
  rcases (show n < 2 ∨ (¬ n < 2 ∧ r = 1) ∨ (¬ n < 2 ∧ r = 0 ∧ 16 < n) by omega) with h | ⟨h, h2⟩ | ⟨h, h2, h3⟩
  · have hd : decide ((n : Int) < 2) = true := by simp; omega
    clear h1 hr
    go_enter Try.func33, Try.ntmps33
    go_wp2
    refine bodyPost_ret (v := .tuple #[.agg #[.int .i64 0, .int .i64 0, .slice none 0 0], .int .i64 (5)]) (by simp [results, Try.results33, go_sem]) rfl (TwillPost.bad HE.out (by decide) rfl (by repeat (first | exact Below.refl _ _ | refine Below.drew ?_ | refine below_drewN ?_ _ | refine Below.alloc ?_ (by first | exact Nat.le_refl _ | (simp; done) | (simp; omega) | omega) _ | refine Below.setCell ?_ (by first | exact Nat.le_refl _ | (simp; done) | (simp; omega) | omega) _ | refine bExtW ?_ (by first | exact Nat.le_refl _ | (simp; done) | (simp; omega) | omega) | refine Below.trans ?_ (Below.mono (by assumption) (by first | exact Nat.le_refl _ | (simp; done) | (simp; omega) | omega)))))
  · have hd : decide ((n : Int) < 2) = false := by simp; omega
    subst h2
    have hrem2 : (n : Int).tmod 2 = 1 := hrem
    clear h1 hr hrem v1
    go_enter Try.func33, Try.ntmps33
    go_wp2
    refine bodyPost_ret (v := .tuple #[.agg #[.int .i64 0, .int .i64 0, .slice none 0 0], .int .i64 (5)]) (by simp [results, Try.results33, go_sem]) rfl (TwillPost.bad HE.out (by decide) rfl (by repeat (first | exact Below.refl _ _ | refine Below.drew ?_ | refine below_drewN ?_ _ | refine Below.alloc ?_ (by first | exact Nat.le_refl _ | (simp; done) | (simp; omega) | omega) _ | refine Below.setCell ?_ (by first | exact Nat.le_refl _ | (simp; done) | (simp; omega) | omega) _ | refine bExtW ?_ (by first | exact Nat.le_refl _ | (simp; done) | (simp; omega) | omega) | refine Below.trans ?_ (Below.mono (by assumption) (by first | exact Nat.le_refl _ | (simp; done) | (simp; omega) | omega)))))
  · have hd : decide ((n : Int) < 2) = false := by simp; omega
    subst h2
    have hrem2 : (n : Int).tmod 2 = 0 := hrem
    have hd3 : decide ((16 : Int) < (n : Int)) = true := by simp; omega
    clear h1 hr hrem v1
    go_enter Try.func33, Try.ntmps33
    go_wp2
    refine bodyPost_ret (v := .tuple #[.agg #[.int .i64 0, .int .i64 0, .slice none 0 0], .int .i64 (5)]) (by simp [results, Try.results33, go_sem]) rfl (TwillPost.bad HE.out (by decide) rfl (by repeat (first | exact Below.refl _ _ | refine Below.drew ?_ | refine below_drewN ?_ _ | refine Below.alloc ?_ (by first | exact Nat.le_refl _ | (simp; done) | (simp; omega) | omega) _ | refine Below.setCell ?_ (by first | exact Nat.le_refl _ | (simp; done) | (simp; omega) | omega) _ | refine bExtW ?_ (by first | exact Nat.le_refl _ | (simp; done) | (simp; omega) | omega) | refine Below.trans ?_ (Below.mono (by assumption) (by first | exact Nat.le_refl _ | (simp; done) | (simp; omega) | omega)))))
end Go.Proofs.Ytikddfjickkhhaa
