/- Lemmas and contracts of functions (what each call returns, and that it changes nothing that was there) that the proof of a law of this seat uses; each lemma states its own conditions. -/
import Derived.Test.YtkffljkgblcgdaaDr14
namespace Go.Proofs.Ytkffljkgblcgdaa
open Go.RowKit
set_option linter.unusedVariables false
set_option linter.unusedSimpArgs false
open Lo
theorem few_both (MW MH : Int) (ma : Option Addr) (mn mc : Nat) (mb : List Bool) (h3 : (-9223372036854775808 ≤ MW ∧ MW ≤ 9223372036854775807)) (h4 : (-9223372036854775808 ≤ MH ∧ MH ≤ 9223372036854775807)) (hc : mn ≤ 9223372036854775807) (hl : mb.length = mn) :
    ∃ (n1 n2 n5 : Nat) (X Y : Int) (l1 l2 : List Int) (l5 : List Bool) (e2 : Int), n1 ≤ 9223372036854775807 ∧ n2 ≤ 9223372036854775807 ∧
      (∀ w, OkT w ma mn mc mb → Calls Try.prog 16 #[.agg #[.int .i64 (MW), .int .i64 (MH), .slice ma mn mc]] w (UF n1 n2 n5 X Y l1 l2 l5 e2 w)) ∧ (∀ w, OkT w ma mn mc mb → Calls Try.prog 23 #[.agg #[.int .i64 (MW), .int .i64 (MH), .slice ma mn mc]] w (UF n1 n2 n5 X Y l1 l2 l5 e2 w)) := by
  by_cases hm : wrT MW MH mn = 0
  · obtain ⟨W, H, rfl, rfl, hW, hH, hn⟩ := wrT_zero hm
    by_cases hz : mn = 0
    · subst hz
      refine ⟨0, 0, 0, 0, 0, [], [], [], 5, by omega, by omega, fun w h => (dFew_none W H ma mc mb w h hW hH hn).mono ?_, fun w h => (rFew_none W H ma mc w hW hH hn).mono ?_⟩
      all_goals
        rintro r w' ⟨rfl, hb⟩
        exact ⟨none, 0, none, 0, none, 0, rfl, ints_nil _, okT_nil _, ints_nil _, hb⟩
    · have hp : 0 < mn := Nat.pos_of_ne_zero hz
      refine ⟨W, H, (ends W H mb).length * (picks W H mb).length, (ends W H mb).length, (picks W H mb).length, natI (thL W H mb), natI (trL W H mb), tieL W H mb, 0, by omega, by omega, fun w h => (dFew_ok W H mn ma mc mb w h hW hH hn hp).mono ?_, fun w h => (rFew_ok W H mn ma mc mb w h hW hH hn hp).mono ?_⟩
      · rintro r w' ⟨A1, c1, A2, c2, A5, c5, rfl, h1, h5, h2, hb, _⟩
        exact ⟨A1, c1, A2, c2, A5, c5, rfl, h1, h5, h2, hb⟩
      · rintro r w' ⟨A1, c1, A2, c2, A5, c5, rfl, h1, h5, h2, hb⟩
        exact ⟨A1, c1, A2, c2, A5, c5, rfl, h1, h5, h2, hb⟩
  · refine ⟨0, 0, 0, 0, 0, [], [], [], wrT MW MH mn, by omega, by omega, fun w h => (dFew_bad MW MH ma mn mc w h3 h4 hc hm).mono ?_, fun w h => (rFew_bad MW MH ma mn mc w h3 h4 hc hm).mono ?_⟩
    all_goals
      rintro r w' ⟨rfl, hb⟩
      exact ⟨none, 0, none, 0, none, 0, rfl, ints_nil _, okT_nil _, ints_nil _, hb⟩
theorem tellsD_walk (tha : Option Addr) (nt ct : Nat) (th : List Int) (W H : Int) (a : Option Addr) (n c : Nat) (tie : List Bool) (tra : Option Addr) (nr cr : Nat) (tr : List Int) (MW MH : Int) (ma : Option Addr) (mn mc : Nat) (mb : List Bool) (w : World) (hth : IsInts w tha nt th) (htr : IsInts w tra nr tr) (htt : OkT w a n c tie) (hM : OkT w ma mn mc mb)
    (h1 : (-9223372036854775808 ≤ W ∧ W ≤ 9223372036854775807)) (h2 : (-9223372036854775808 ≤ H ∧ H ≤ 9223372036854775807)) (h3 : (-9223372036854775808 ≤ MW ∧ MW ≤ 9223372036854775807)) (h4 : (-9223372036854775808 ≤ MH ∧ MH ≤ 9223372036854775807)) (h5 : nt ≤ 9223372036854775807) (h6 : nr ≤ 9223372036854775807) :
    Calls Try.prog 4 #[.agg #[.slice tha nt ct, .int .i64 (W), .int .i64 (H), .slice a n c, .slice tra nr cr], .agg #[.int .i64 (MW), .int .i64 (MH), .slice ma mn mc]] w fun e w' => e = .returned (.bool true) ∧ Below w.heap.size w w' := by
  have mcap : mn ≤ 9223372036854775807 := Nat.le_trans hM.cap hM.lim
  have ncap : n ≤ 9223372036854775807 := Nat.le_trans htt.cap htt.lim
  obtain ⟨n1, n2, n5, X, Y, l1, l2, l5, e2, m1, m2, KF1, KF2⟩ := few_both MW MH ma mn mc mb h3 h4 mcap hM.bits.1
  have KW1 : Hid (∀ w, DArg tha nt th a n c tie tra nr tr w → Calls Try.prog 20 #[.agg #[.slice tha nt ct, .int .i64 (W), .int .i64 (H), .slice a n c, .slice tra nr cr]] w fun e w' => e = .returned (.int .i64 (drE th tr W H n)) ∧ Below w.heap.size w w') := Lib.hid fun w h => dWrong_any tha nt ct th W H a n c tra nr cr tr w h.1 h.2.1 h1 h2 ncap h5 h6
  have KW2 : Hid (∀ w, DArg tha nt th a n c tie tra nr tr w → Calls Try.prog 21 #[.agg #[.slice tha nt ct, .int .i64 (W), .int .i64 (H), .slice a n c, .slice tra nr cr]] w fun e w' => e = .returned (.int .i64 (drE th tr W H n)) ∧ Below w.heap.size w w') := Lib.hid fun w h => r6Wrong_any tha nt ct th W H a n c tra nr cr tr w h.1 h.2.1 h1 h2 ncap h5 h6
  by_cases hd : drE th tr W H n = 0
  · obtain ⟨tn, rn, W', H', rfl, rfl, rfl, rfl, hW, hH, hn, k1, k2, k3, k4, k5, k6⟩ := drE_zero hd
    have hnt : tn.length = nt := by have := hth.1; rwa [natI_len] at this
    have hnr : rn.length = nr := by have := htr.1; rwa [natI_len] at this
    subst hnt hnr
    refine tells6_walk tha _ ct _ W' H' a n c tie tra _ cr _ MW MH ma mn mc mb w _ tn.length rn.length (tn.length * rn.length) (ddL W' tie tn rn) 0 n1 n2 n5 X Y l1 l2 l5 e2 H' rn.length W' H' tn.length W' (H' * rn.length) n (W' * tn.length) (markL H' rn) tie (turnL W' tn.length (markL W' tn)) 0 (Lib.hid ⟨hth, htr, htt⟩) (Lib.hid hM) m1 m2 KW1 KW2 (Lib.hid fun w h => (dDraw_ok tha _ ct tn W' H' a n c tie tra _ cr rn w h.1 h.2.1 h.2.2 hW hH hn rfl rfl k1 k2 k3 k4 k5 k6).mono ?_) (Lib.hid fun w h => (rDraw_ok tha _ ct tn W' H' a n c tie tra _ cr rn w h.1 h.2.1 h.2.2 hW hH hn rfl rfl k1 k2 k3 k4 k5 k6).mono ?_) (Lib.hid KF1) (Lib.hid KF2) (Lib.hid fun w h => (dChain_ok tha _ ct tn W' H' a n c tie tra _ cr rn w h.1 h.2.1 h.2.2 hW hH hn rfl rfl k1 k2 k3 k4 k5 k6).mono ?_) (Lib.hid fun w h => (rChain_ok tha _ ct tn W' H' a n c tie tra _ cr rn w h.1 h.2.1 h.2.2 hW hH hn rfl rfl k1 k2 k3 k4 k5 k6).mono ?_)
    · rintro r w' ⟨A, C, rfl, h, hb, _⟩; exact ⟨A, C, rfl, h, hb⟩
    · rintro r w' ⟨A, C, rfl, h, hb⟩; exact ⟨A, C, rfl, h, hb⟩
    · rintro r w' ⟨A1, c1, A2, c2, A3, c3, rfl, g1, g2, g3, hb⟩; exact ⟨A1, c1, A2, c2, A3, c3, rfl, g1, g2, g3, hb⟩
    · rintro r w' ⟨A1, c1, A2, c2, A3, c3, rfl, g1, g2, g3, hb⟩; exact ⟨A1, c1, A2, c2, A3, c3, rfl, g1, g2, g3, hb⟩
  · refine tells6_walk tha nt ct th W H a n c tie tra nr cr tr MW MH ma mn mc mb w _ 0 0 0 [] (drE th tr W H n) n1 n2 n5 X Y l1 l2 l5 e2 0 0 0 0 0 0 0 0 0 [] [] [] (drE th tr W H n) (Lib.hid ⟨hth, htr, htt⟩) (Lib.hid hM) m1 m2 KW1 KW2 (Lib.hid fun w h => (dDraw_bad tha nt ct th W H a n c tra nr cr tr w h.1 h.2.1 h1 h2 ncap h5 h6 hd).mono ?_) (Lib.hid fun w h => (rDraw_bad tha nt ct th W H a n c tra nr cr tr w h.1 h.2.1 h1 h2 ncap h5 h6 hd).mono ?_) (Lib.hid KF1) (Lib.hid KF2) (Lib.hid fun w h => (dChain_bad tha nt ct th W H a n c tra nr cr tr w h.1 h.2.1 h1 h2 ncap h5 h6 hd).mono ?_) (Lib.hid fun w h => (rChain_bad tha nt ct th W H a n c tra nr cr tr w h.1 h.2.1 h1 h2 ncap h5 h6 hd).mono ?_)
    · rintro r w' ⟨rfl, hb⟩; exact ⟨none, 0, rfl, okT_nil _, hb⟩
    · rintro r w' ⟨rfl, hb⟩; exact ⟨none, 0, rfl, okT_nil _, hb⟩
    · rintro r w' ⟨rfl, hb⟩; exact ⟨none, 0, none, 0, none, 0, rfl, okT_nil _, okT_nil _, okT_nil _, hb⟩
    · rintro r w' ⟨rfl, hb⟩; exact ⟨none, 0, none, 0, none, 0, rfl, okT_nil _, okT_nil _, okT_nil _, hb⟩
end Go.Proofs.Ytkffljkgblcgdaa
