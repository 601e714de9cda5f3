/- Lemmas and contracts of functions (what each call returns, and that it changes nothing that was there) that the proof of a law of this seat uses; each lemma states its own conditions. -/
import Derived.Test.YtkffljkgblcgdaaDr6
namespace Go.Proofs.Ytkffljkgblcgdaa
open Go.RowKit
set_option linter.unusedVariables false
set_option linter.unusedSimpArgs false
open Lo
theorem fewest_walk (tha : Option Addr) (nt ct : Nat) (th : List Int) (W H : Int) (a : Option Addr) (n c : Nat) (tie : List Bool) (tra : Option Addr) (nr cr : Nat) (tr : List Int) (MW MH : Int) (ma : Option Addr) (mn mc : Nat) (mb : List Bool) (w : World) (hth : IsInts w tha nt th) (htr : IsInts w tra nr tr) (htt : OkT w a n c tie) (hM : OkT w ma mn mc mb)
    (h1 : (-9223372036854775808 ≤ W ∧ W ≤ 9223372036854775807)) (h2 : (-9223372036854775808 ≤ H ∧ H ≤ 9223372036854775807)) (h3 : (-9223372036854775808 ≤ MW ∧ MW ≤ 9223372036854775807)) (h4 : (-9223372036854775808 ≤ MH ∧ MH ≤ 9223372036854775807)) (h5 : nt ≤ 9223372036854775807) (h6 : nr ≤ 9223372036854775807) :
    Calls Try.prog 3 #[.agg #[.slice tha nt ct, .int .i64 (W), .int .i64 (H), .slice a n c, .slice tra nr cr], .agg #[.int .i64 (MW), .int .i64 (MH), .slice ma mn mc]] w fun e w' => e = .returned (.bool true) ∧ Below w.heap.size w w' := by
  have mcap : mn ≤ 9223372036854775807 := Nat.le_trans hM.cap hM.lim
  have ncap : n ≤ 9223372036854775807 := Nat.le_trans htt.cap htt.lim
  by_cases hd : drE th tr W H n = 0
  · obtain ⟨tn, rn, W', H', rfl, rfl, rfl, rfl, hW, hH, hn, k1, k2, k3, k4, k5, k6⟩ := drE_zero hd
    have hnt : tn.length = nt := by have := hth.1; rwa [natI_len] at this
    have hnr : rn.length = nr := by have := htr.1; rwa [natI_len] at this
    subst hnt hnr
    have KD := Lib.hid fun (w : World) x y z => dDraw_ok tha tn.length ct tn W' H' a n c tie tra rn.length cr rn w x y z hW hH hn rfl rfl k1 k2 k3 k4 k5 k6
    have hl : (ddL W' tie tn rn).length = tn.length * rn.length := by unfold ddL; rw [grid_len]
    have KX := FK.of tn.length rn.length (tn.length * rn.length) (ddL W' tie tn rn) k2 k4 rfl (Nat.mul_pos k1 k3) hl
    have KU1 : Hid (∀ w, IsInts w tha tn.length (natI tn) → Calls Try.prog 19 #[.slice tha tn.length ct] w fun e w' => e = .returned (.int .i64 (usedN (fun i => tn.getD i 0) tn.length)) ∧ Below w.heap.size w w') := Lib.hid fun w h => by
      have := used_any tha tn.length ct _ w h k2
      rwa [usedN_nat] at this
    have KU2 : Hid (∀ w, IsInts w tra rn.length (natI rn) → Calls Try.prog 19 #[.slice tra rn.length cr] w fun e w' => e = .returned (.int .i64 (usedN (fun i => rn.getD i 0) rn.length)) ∧ Below w.heap.size w w') := Lib.hid fun w h => by
      have := used_any tra rn.length cr _ w h k4
      rwa [usedN_nat] at this
    have g1 := fewest_th (W := W') (tie := tie) (th := tn) (tr := rn) rfl
    have g2 := fewest_tr (W := W') (tie := tie) (th := tn) (tr := rn) rfl
    by_cases hm : wrT MW MH mn = 0
    · obtain ⟨MW', MH', rfl, rfl, q1, q2, q3⟩ := wrT_zero hm
      by_cases hz : mn = 0
      · subst hz
        exact fw_bo tha _ ct _ W' H' a n c tie tra _ cr _ MW' MH' ma 0 mc mb 5 _ _ _ _ _ _ _ _ _ w hth htr htt hM (Lib.hid ⟨by omega, fun w h => dFew_none MW' MH' ma mc mb w h q1 q2 q3⟩) KD KX KU1 KU2 g1 g2
      · exact fw_oo tha _ ct _ W' H' a n c tie tra _ cr _ MW' MH' ma mn mc mb _ _ _ _ _ _ _ _ _ _ _ _ _ _ w hth htr htt hM (Nat.pos_of_ne_zero hz) (FK.of MW' MH' mn mb q1 q2 q3 (Nat.pos_of_ne_zero hz) hM.bits.1) KD KX KU1 KU2 g1 g2
    · exact fw_bo tha _ ct _ W' H' a n c tie tra _ cr _ MW MH ma mn mc mb _ _ _ _ _ _ _ _ _ _ w hth htr htt hM (Lib.hid ⟨hm, fun w _ => dFew_bad MW MH ma mn mc w h3 h4 mcap hm⟩) KD KX KU1 KU2 g1 g2
  · have K2 := Lib.hid (show _ ∧ ∀ w, IsInts w tha nt th → IsInts w tra nr tr → _ from ⟨hd, fun (w : World) x y => dDraw_bad tha nt ct th W H a n c tra nr cr tr w x y h1 h2 ncap h5 h6 hd⟩)
    by_cases hm : wrT MW MH mn = 0
    · obtain ⟨MW', MH', rfl, rfl, q1, q2, q3⟩ := wrT_zero hm
      by_cases hz : mn = 0
      · subst hz
        exact fw_bb tha nt ct th W H a n c tra nr cr tr MW' MH' ma 0 mc mb 5 _ w hth htr hM (Lib.hid ⟨by omega, fun w h => dFew_none MW' MH' ma mc mb w h q1 q2 q3⟩) K2
      · exact fw_ob tha nt ct th W H a n c tra nr cr tr MW' MH' ma mn mc mb _ _ _ _ _ _ w hth htr hM (Nat.pos_of_ne_zero hz) (FK.of MW' MH' mn mb q1 q2 q3 (Nat.pos_of_ne_zero hz) hM.bits.1) K2
    · exact fw_bb tha nt ct th W H a n c tra nr cr tr MW MH ma mn mc mb _ _ w hth htr hM (Lib.hid ⟨hm, fun w _ => dFew_bad MW MH ma mn mc w h3 h4 mcap hm⟩) K2
end Go.Proofs.Ytkffljkgblcgdaa
