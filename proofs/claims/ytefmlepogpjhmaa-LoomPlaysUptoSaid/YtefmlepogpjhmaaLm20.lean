/- Chapter 10: the law of a loom, step by step: whatever comes in. -/
import Derived.Test.YtefmlepogpjhmaaLm19
namespace Go.Proofs.Ytefmlepogpjhmaa
open Go.RowKit
set_option linter.unusedVariables false
set_option linter.unusedSimpArgs false
open Lm
theorem rowOf_le (W : Nat) (bs : List Bool) (l : St) : (rowOf W bs l).length ≤ W := by
  unfold rowOf
  split
  · rw [List.length_take]; omega
  · simp
theorem runT_rows (W H : Nat) (bs : List Bool) (ws : List Int) (sc : List Step) : ∀ k, ∀ x ∈ (runT W H bs ws sc k).1, x.row.length ≤ W
  | 0 => by simp [runT]
  | k + 1 => by
    intro x hx
    simp only [runT, List.mem_append, List.mem_singleton] at hx
    rcases hx with h | rfl
    · exact runT_rows W H bs ws sc k x h
    · unfold Lm.step
      exact rowOf_le _ _ _
theorem getD_row {L : List Seen} {b : Nat} (h : ∀ x ∈ L, x.row.length ≤ b) (j : Nat) (hj : j < L.length) : (L.getD j ⟨0, 0, 0, [], 0, 0⟩).row.length ≤ b := by
  rw [List.getD_eq_getElem?_getD, List.getElem?_eq_getElem hj]
  exact h _ (List.getElem_mem hj)
theorem loomPlays_any (W H : Int) (A : Option Addr) (n c : Nat) (bs : List Bool) (B : Option Addr) (m cw : Nat) (ws : List Int) (Sa : Option Addr) (sn sc : Nat) (ST : List Step) (w : World) (hI : IsInts w B m ws) (hm : m ≤ 1048576) (hc : B = none → cw = 0) (hwf : ∀ x ∈ ws, (-9223372036854775808 ≤ x ∧ x ≤ 9223372036854775807))
    (hS : IsSteps w Sa sn ST) (hsn : sn ≤ 1048576) (hB : IsBools w A n bs) (h1 : (-9223372036854775808 ≤ W ∧ W ≤ 9223372036854775807)) (h2 : (-9223372036854775808 ≤ H ∧ H ≤ 9223372036854775807)) (h3 : n ≤ 9223372036854775807) :
    Calls Try.prog 3 #[.agg #[.int .i64 (W), .int .i64 (H), .slice A n c], .slice B m cw, .slice Sa sn sc] w fun e w' => e = .returned (.bool true) ∧ Below w.heap.size w w' := by
  by_cases he : openE W H n m = 0
  · have hw : wrT W H n = 0 := by
      by_cases h : wrT W H n = 0
      · exact h
      · exfalso; unfold openE at he; rw [if_pos h] at he; exact h he
    have hn0 : n ≠ 0 := fun h => by unfold openE at he; rw [if_neg (by simp [hw]), if_pos h] at he; omega
    have hm2 : 2 ≤ m := by
      unfold openE at he
      rw [if_neg (by simp [hw]), if_neg hn0] at he
      split at he
      · omega
      · omega
    obtain ⟨W', H', rfl, rfl, hW, hH, hn⟩ := wrT_zero hw
    have hH1 : 1 ≤ H' := by
      rcases Nat.eq_zero_or_pos H' with h | h
      · exfalso; apply hn0; rw [hn, h, Nat.mul_zero]
      · exact h
    have hl := (runT_inv bs ws ST hH1 sn (W := W')).2
    refine loomPlays_walk W' H' A n c B m cw Sa sn sc (runT W' H' bs ws ST sn).1 (runT W' H' bs ws ST sn).2.2.ws w (by rw [runT_len]; exact hsn) (by rw [hl, hI.1]; exact hm) (fun j hj => getD_row (fun x hx => ?_) j hj)
      (fun w' hb => Loom_ok W' H' A n c bs B m cw ws Sa sn sc ST w' (hI.below hb) hm hc hwf (hS.below hb) hsn (hB.below hb) hw hn0 hm2)
      (fun w' hb => Play_ok W' H' A n c bs B m cw ws Sa sn sc ST w' (hI.below hb) hm hc hwf (hS.below hb) hsn (hB.below hb) hw hn0 hm2)
    have := runT_rows W' H' bs ws ST sn x hx
    omega
  · refine loomPlays_walk W H A n c B m cw Sa sn sc (badT (openE W H n m) sn) ws w (by rw [badT_len]; exact hsn) (by rw [hI.1]; exact hm) (fun j hj => getD_row (fun x hx => ?_) j hj)
      (fun w' hb => Loom_bad W H A n c B m cw ws Sa sn sc ST w' (hI.below hb) hm hc hwf (hS.below hb) hsn h1 h2 h3 he)
      (fun w' hb => Play_bad W H A n c B m cw ws Sa sn sc ST w' (hI.below hb) hm hc (hS.below hb) hsn h1 h2 h3 he)
    unfold badT at hx
    rw [List.mem_replicate] at hx
    rw [hx.2]
    simp
end Go.Proofs.Ytefmlepogpjhmaa
