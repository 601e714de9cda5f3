/- Lemmas and contracts of functions (what each call returns, and that it changes nothing that was there) that the proof of a law of this seat uses; each lemma states its own conditions. -/
import Derived.Test.YtikddfjickkhhaaMl8
import Derived.Test.YtikddfjickkhhaaEv3
namespace Go.Proofs.Ytikddfjickkhhaa
open Go.RowKit
set_option linter.unusedVariables false
set_option linter.unusedSimpArgs false
open Lo Tw
theorem rTwill_any (a : Option Addr) (n c : Nat) (zs : List Int) (move : Int) (w : World) (hi : IsInts w a n zs) (hn : n ≤ 9223372036854775807) (hm : (-9223372036854775808 ≤ move ∧ move ≤ 9223372036854775807)) :
    Calls Try.prog 33 #[.slice a n c, .int .i64 (move)] w (TwillPost zs move w) := by
  by_cases h : n = 0 ∨ n % 2 = 1 ∨ 16 < n
  · exact rTwill_len a n c zs move w hi hn h
  · exact rTwill_rest a n c zs move w hi h hm
theorem TwillU (a : Option Addr) (n c : Nat) (zs : List Int) (move : Int) (hn : n ≤ 9223372036854775807) (hm : (-9223372036854775808 ≤ move ∧ move ≤ 9223372036854775807)) :
    ∃ X Y m L pe, m ≤ 9223372036854775807 ∧ (∀ w, IsInts w a n zs → Calls Try.prog 32 #[.slice a n c, .int .i64 (move)] w (BPost X Y m L pe w)) ∧ (∀ w, IsInts w a n zs → Calls Try.prog 33 #[.slice a n c, .int .i64 (move)] w (BPost X Y m L pe w)) := by
  by_cases he : twE zs move = 0
  · by_cases hs : ∃ N : Nat, (N : Int) = sumTo zs zs.length ∧ N * N ≤ 9223372036854775807
    · obtain ⟨N, hN, hNN⟩ := hs
      have key : ∀ w r w', TwillPost zs move w r w' → BPost N N (N * N) (bitsTo (rowTo zs zs.length) N move (N * N)) 0 w r w' := by
        rintro w r w' (⟨h, _⟩ | ⟨_, N', A, c, h1, h2, h3, h4⟩)
        · exact absurd he h
        · obtain rfl : N = N' := by omega
          exact ⟨A, c, h2, h3.bits, h4⟩
      exact ⟨_, _, _, _, _, hNN, fun w h => (Twill_any a n c zs move w h hn hm).mono fun r w' h => key w r w' h, fun w h => (rTwill_any a n c zs move w h hn hm).mono fun r w' h => key w r w' h⟩
    · exfalso
      have h1 : ¬ (zs.length = 0 ∨ zs.length % 2 = 1 ∨ 16 < zs.length) := fun h => by unfold twE at he; rw [if_pos h] at he; omega
      have h2 : runsOk zs := Classical.byContradiction fun h => by rw [twE_3 h1 h] at he; omega
      have h3 := twE_rest (move := move) h1 h2
      rw [he] at h3
      have h4 := sumTo_bd h2 zs.length (Nat.le_refl _)
      by_cases h5 : 64 < sumTo zs zs.length
      · rw [if_pos h5] at h3; omega
      · exact hs ⟨(sumTo zs zs.length).toNat, by omega, Nat.le_trans (Nat.mul_le_mul (show (sumTo zs zs.length).toNat ≤ 64 by omega) (show (sumTo zs zs.length).toNat ≤ 64 by omega)) (by omega)⟩
  · have key : ∀ w r w', TwillPost zs move w r w' → BPost 0 0 0 [] (twE zs move) w r w' := by
      rintro w r w' (⟨_, h1, h2⟩ | ⟨h, _⟩)
      · exact bpost_bad ⟨h1, h2⟩
      · exact absurd h he
    exact ⟨_, _, _, _, _, by omega, fun w h => (Twill_any a n c zs move w h hn hm).mono fun r w' h => key w r w' h, fun w h => (rTwill_any a n c zs move w h hn hm).mono fun r w' h => key w r w' h⟩
end Go.Proofs.Ytikddfjickkhhaa
