/- Lemmas and contracts of functions (what each call returns, and that it changes nothing that was there) that the proof of a law of this seat uses; each lemma states its own conditions. -/
import Derived.Test.YtkffljkgblcgdaaDr9
import Derived.Test.YtkffljkgblcgdaaDr5
import Derived.Test.YtkffljkgblcgdaaRf5
namespace Go.Proofs.Ytkffljkgblcgdaa
open Go.RowKit
set_option linter.unusedVariables false
set_option linter.unusedSimpArgs false
open Lo
set_option maxRecDepth 100000 in
set_option maxHeartbeats 8000000 in
theorem weaves_bad (tha : Option Addr) (nt ct : Nat) (th : List Int) (W H : Int) (a : Option Addr) (n c : Nat) (tra : Option Addr) (nr cr : Nat) (tr : List Int) (w : World) (hth : IsInts w tha nt th) (htr : IsInts w tra nr tr) (h1 : (-9223372036854775808 ≤ W ∧ W ≤ 9223372036854775807)) (h2 : (-9223372036854775808 ≤ H ∧ H ≤ 9223372036854775807)) (h3 : n ≤ 9223372036854775807) (h4 : nt ≤ 9223372036854775807) (h5 : nr ≤ 9223372036854775807) (he : drE th tr W H n ≠ 0) :
    Calls Try.prog 5 #[.agg #[.slice tha nt ct, .int .i64 (W), .int .i64 (H), .slice a n c, .slice tra nr cr]] w fun e w' => e = .returned (.bool true) ∧ Below w.heap.size w w' := by
  have hne : (drE th tr W H n != 0) = true := by simpa using he
  have KD := Lib.hid (fun w x y => dDraw_bad tha nt ct th W H a n c tra nr cr tr w x y h1 h2 h3 h4 h5 he)
  have KC := Lib.hid (fun w x y => dChain_bad tha nt ct th W H a n c tra nr cr tr w x y h1 h2 h3 h4 h5 he)
  have HT := Lib.hid hth; have HR := Lib.hid htr
  clear hth htr he
  generalize drE th tr W H n = q at *
  have hq : (q != q) = false := by simp
  have hq2 : (q == q) = true := by simp
  go_enter Try.func5, Try.ntmps5
  (go_wp2_with fail; refine (alive6_any _).mono ?_; rintro r w1 ⟨rfl, hb⟩; obtain ⟨E, d, rfl⟩ := bExt hb; clear hb)
  (go_wp2_with fail; refine (KD.out _ (HT.out.below (by repeat (first | exact Below.refl _ _ | refine Below.drew ?_ | refine below_drewN ?_ _ | refine Below.alloc ?_ (by first | exact Nat.le_refl _ | (simp; done) | (simp; omega) | omega) _ | refine Below.setCell ?_ (by first | exact Nat.le_refl _ | (simp; done) | (simp; omega) | omega) _ | refine bExtW ?_ (by first | exact Nat.le_refl _ | (simp; done) | (simp; omega) | omega) | refine Below.trans ?_ (Below.mono (by assumption) (by first | exact Nat.le_refl _ | (simp; done) | (simp; omega) | omega))))) (HR.out.below (by repeat (first | exact Below.refl _ _ | refine Below.drew ?_ | refine below_drewN ?_ _ | refine Below.alloc ?_ (by first | exact Nat.le_refl _ | (simp; done) | (simp; omega) | omega) _ | refine Below.setCell ?_ (by first | exact Nat.le_refl _ | (simp; done) | (simp; omega) | omega) _ | refine bExtW ?_ (by first | exact Nat.le_refl _ | (simp; done) | (simp; omega) | omega) | refine Below.trans ?_ (Below.mono (by assumption) (by first | exact Nat.le_refl _ | (simp; done) | (simp; omega) | omega)))))).mono ?_; rintro r w1 ⟨rfl, hb⟩; obtain ⟨E, d, rfl⟩ := bExt hb; clear hb)
  (go_wp2_with fail; refine (KC.out _ (HT.out.below (by repeat (first | exact Below.refl _ _ | refine Below.drew ?_ | refine below_drewN ?_ _ | refine Below.alloc ?_ (by first | exact Nat.le_refl _ | (simp; done) | (simp; omega) | omega) _ | refine Below.setCell ?_ (by first | exact Nat.le_refl _ | (simp; done) | (simp; omega) | omega) _ | refine bExtW ?_ (by first | exact Nat.le_refl _ | (simp; done) | (simp; omega) | omega) | refine Below.trans ?_ (Below.mono (by assumption) (by first | exact Nat.le_refl _ | (simp; done) | (simp; omega) | omega))))) (HR.out.below (by repeat (first | exact Below.refl _ _ | refine Below.drew ?_ | refine below_drewN ?_ _ | refine Below.alloc ?_ (by first | exact Nat.le_refl _ | (simp; done) | (simp; omega) | omega) _ | refine Below.setCell ?_ (by first | exact Nat.le_refl _ | (simp; done) | (simp; omega) | omega) _ | refine bExtW ?_ (by first | exact Nat.le_refl _ | (simp; done) | (simp; omega) | omega) | refine Below.trans ?_ (Below.mono (by assumption) (by first | exact Nat.le_refl _ | (simp; done) | (simp; omega) | omega)))))).mono ?_; rintro r w1 ⟨rfl, hb⟩; obtain ⟨E, d, rfl⟩ := bExt hb; clear hb)
  go_wp2
  go_ret
  exact ⟨rfl, (by repeat (first | exact Below.refl _ _ | refine Below.drew ?_ | refine below_drewN ?_ _ | refine Below.alloc ?_ (by first | exact Nat.le_refl _ | (simp; done) | (simp; omega) | omega) _ | refine Below.setCell ?_ (by first | exact Nat.le_refl _ | (simp; done) | (simp; omega) | omega) _ | refine bExtW ?_ (by first | exact Nat.le_refl _ | (simp; done) | (simp; omega) | omega) | refine Below.trans ?_ (Below.mono (by assumption) (by first | exact Nat.le_refl _ | (simp; done) | (simp; omega) | omega))))⟩
theorem same_selfJ (W H : Int) (n : Nat) (bs : List Bool) (a1 a2 : Option Addr) (c1 c2 : Nat) (w : World) (h1 : OkT w a1 n c1 bs) (h2 : OkT w a2 n c2 bs) :
    Calls Try.prog 18 #[.agg #[.int .i64 (W), .int .i64 (H), .slice a1 n c1], .agg #[.int .i64 (W), .int .i64 (H), .slice a2 n c2]] w fun e w' => e = .returned (.bool true) ∧ Below w.heap.size w w' := by
  have := Same_any W H a1 n c1 bs W H a2 n c2 bs w h1.bits h2.bits (Nat.le_trans h1.cap h1.lim) (Nat.le_trans h1.cap h1.lim)
  rwa [decide_eq_true (p := (W = W ∧ H = H ∧ bs = bs)) ⟨rfl, rfl, rfl⟩] at this
set_option maxRecDepth 100000 in
set_option maxHeartbeats 8000000 in
theorem weaves_ok (tha : Option Addr) (nt ct : Nat) (th : List Nat) (W H : Nat) (a : Option Addr) (n c : Nat) (tie : List Bool) (tra : Option Addr) (nr cr : Nat) (tr : List Nat) (w : World) (hth : IsInts w tha nt (natI th)) (htr : IsInts w tra nr (natI tr)) (hT : OkT w a n c tie) (hW : W ≤ 64) (hH : H ≤ 64) (hn : n = W * H) (hnt : th.length = nt) (hnr : tr.length = nr) (k1 : 0 < nt) (k2 : nt ≤ 64) (k3 : 0 < nr) (k4 : nr ≤ 64) (k5 : ∀ x ∈ th, x < W) (k6 : ∀ x ∈ tr, x < H) :
    Calls Try.prog 5 #[.agg #[.slice tha nt ct, .int .i64 (W), .int .i64 (H), .slice a n c, .slice tra nr cr]] w fun e w' => e = .returned (.bool true) ∧ Below w.heap.size w w' := by
  have KD : Hid (∀ w, IsInts w tha nt (natI th) → IsInts w tra nr (natI tr) → OkT w a n c tie → Calls Try.prog 17 #[.agg #[.slice tha nt ct, .int .i64 (W), .int .i64 (H), .slice a n c, .slice tra nr cr]] w (TruPost nt nr (nt * nr) (ddL W tie th tr) w)) := Lib.hid fun w x y z => dDraw_ok tha nt ct th W H a n c tie tra nr cr tr w x y z hW hH hn hnt hnr k1 k2 k3 k4 k5 k6
  have KC : Hid (∀ w, IsInts w tha nt (natI th) → IsInts w tra nr (natI tr) → OkT w a n c tie → Calls Try.prog 25 #[.agg #[.slice tha nt ct, .int .i64 (W), .int .i64 (H), .slice a n c, .slice tra nr cr]] w (ChainPost W H nt nr n (markL H tr) tie (turnL W nt (markL W th)) w)) := Lib.hid fun w x y z => dChain_ok tha nt ct th W H a n c tie tra nr cr tr w x y z hW hH hn hnt hnr k1 k2 k3 k4 k5 k6
  have HP1 := Lib.hid fun A1 c1 A2 c2 w (x : OkT w A1 (H * nr) c1 (markL H tr)) (y : OkT w A2 n c2 tie) => Product_any nr H W (H * nr) n (W * nr) rfl hn rfl A1 c1 _ A2 c2 _ w x y hH k4 hW
  have HP2 := Lib.hid fun A1 c1 A2 c2 w (x : OkT w A1 (W * nr) c1 (prodL nr H W (markL H tr) tie)) (y : OkT w A2 (W * nt) c2 (turnL W nt (markL W th))) => Product_any nr W nt (W * nr) (W * nt) (nt * nr) rfl (Nat.mul_comm _ _) rfl A1 c1 _ A2 c2 _ w x y hW k4 k2
  have HE : Hid (prodL nr W nt (prodL nr H W (markL H tr) tie) (turnL W nt (markL W th)) = ddL W tie th tr) := Lib.hid (by
    have := dd_prod (tie := tie) k5 k6
    rwa [hnt, hnr] at this)
  have HT := Lib.hid hth; have HR := Lib.hid htr; have HB := Lib.hid hT
  clear hth htr hT hn hnt hnr k5 k6
  rw [HE.out] at HP2
  generalize ddL W tie th tr = DL at *
  generalize markL H tr = L1 at *
  generalize turnL W nt (markL W th) = L3 at *
  generalize prodL nr H W L1 tie = L4 at *
  clear HE
  go_enter Try.func5, Try.ntmps5
  (go_wp2_with fail; refine (alive6_any _).mono ?_; rintro r w1 ⟨rfl, hb⟩; obtain ⟨E, d, rfl⟩ := bExt hb; clear hb)
  go_wp2_with fail
  refine (KD.out _ (HT.out.below (by repeat (first | exact Below.refl _ _ | refine Below.drew ?_ | refine below_drewN ?_ _ | refine Below.alloc ?_ (by first | exact Nat.le_refl _ | (simp; done) | (simp; omega) | omega) _ | refine Below.setCell ?_ (by first | exact Nat.le_refl _ | (simp; done) | (simp; omega) | omega) _ | refine bExtW ?_ (by first | exact Nat.le_refl _ | (simp; done) | (simp; omega) | omega) | refine Below.trans ?_ (Below.mono (by assumption) (by first | exact Nat.le_refl _ | (simp; done) | (simp; omega) | omega))))) (HR.out.below (by repeat (first | exact Below.refl _ _ | refine Below.drew ?_ | refine below_drewN ?_ _ | refine Below.alloc ?_ (by first | exact Nat.le_refl _ | (simp; done) | (simp; omega) | omega) _ | refine Below.setCell ?_ (by first | exact Nat.le_refl _ | (simp; done) | (simp; omega) | omega) _ | refine bExtW ?_ (by first | exact Nat.le_refl _ | (simp; done) | (simp; omega) | omega) | refine Below.trans ?_ (Below.mono (by assumption) (by first | exact Nat.le_refl _ | (simp; done) | (simp; omega) | omega))))) (HB.out.below (by repeat (first | exact Below.refl _ _ | refine Below.drew ?_ | refine below_drewN ?_ _ | refine Below.alloc ?_ (by first | exact Nat.le_refl _ | (simp; done) | (simp; omega) | omega) _ | refine Below.setCell ?_ (by first | exact Nat.le_refl _ | (simp; done) | (simp; omega) | omega) _ | refine bExtW ?_ (by first | exact Nat.le_refl _ | (simp; done) | (simp; omega) | omega) | refine Below.trans ?_ (Below.mono (by assumption) (by first | exact Nat.le_refl _ | (simp; done) | (simp; omega) | omega)))))).mono ?_
  rintro r w1 ⟨A0, c0, rfl, hT0, hb, _⟩
  obtain ⟨E1, d1, rfl⟩ := bExt hb
  have HT0 := Lib.hid hT0
  clear hb hT0
  go_wp2_with fail
  refine (KC.out _ (HT.out.below (by repeat (first | exact Below.refl _ _ | refine Below.drew ?_ | refine below_drewN ?_ _ | refine Below.alloc ?_ (by first | exact Nat.le_refl _ | (simp; done) | (simp; omega) | omega) _ | refine Below.setCell ?_ (by first | exact Nat.le_refl _ | (simp; done) | (simp; omega) | omega) _ | refine bExtW ?_ (by first | exact Nat.le_refl _ | (simp; done) | (simp; omega) | omega) | refine Below.trans ?_ (Below.mono (by assumption) (by first | exact Nat.le_refl _ | (simp; done) | (simp; omega) | omega))))) (HR.out.below (by repeat (first | exact Below.refl _ _ | refine Below.drew ?_ | refine below_drewN ?_ _ | refine Below.alloc ?_ (by first | exact Nat.le_refl _ | (simp; done) | (simp; omega) | omega) _ | refine Below.setCell ?_ (by first | exact Nat.le_refl _ | (simp; done) | (simp; omega) | omega) _ | refine bExtW ?_ (by first | exact Nat.le_refl _ | (simp; done) | (simp; omega) | omega) | refine Below.trans ?_ (Below.mono (by assumption) (by first | exact Nat.le_refl _ | (simp; done) | (simp; omega) | omega))))) (HB.out.below (by repeat (first | exact Below.refl _ _ | refine Below.drew ?_ | refine below_drewN ?_ _ | refine Below.alloc ?_ (by first | exact Nat.le_refl _ | (simp; done) | (simp; omega) | omega) _ | refine Below.setCell ?_ (by first | exact Nat.le_refl _ | (simp; done) | (simp; omega) | omega) _ | refine bExtW ?_ (by first | exact Nat.le_refl _ | (simp; done) | (simp; omega) | omega) | refine Below.trans ?_ (Below.mono (by assumption) (by first | exact Nat.le_refl _ | (simp; done) | (simp; omega) | omega)))))).mono ?_
  rintro r w1 ⟨A1, c1, A2, c2, A3, c3, rfl, hT1, hT2, hT3, hb⟩
  obtain ⟨E2, d2, rfl⟩ := bExt hb
  have HT1 := Lib.hid hT1; have HT2 := Lib.hid hT2; have HT3 := Lib.hid hT3
  clear hb hT1 hT2 hT3
  go_wp2_with fail
  refine (HP1.out _ _ _ _ _ (HT1.out.below (by repeat (first | exact Below.refl _ _ | refine Below.drew ?_ | refine below_drewN ?_ _ | refine Below.alloc ?_ (by first | exact Nat.le_refl _ | (simp; done) | (simp; omega) | omega) _ | refine Below.setCell ?_ (by first | exact Nat.le_refl _ | (simp; done) | (simp; omega) | omega) _ | refine bExtW ?_ (by first | exact Nat.le_refl _ | (simp; done) | (simp; omega) | omega) | refine Below.trans ?_ (Below.mono (by assumption) (by first | exact Nat.le_refl _ | (simp; done) | (simp; omega) | omega))))) (HT2.out.below (by repeat (first | exact Below.refl _ _ | refine Below.drew ?_ | refine below_drewN ?_ _ | refine Below.alloc ?_ (by first | exact Nat.le_refl _ | (simp; done) | (simp; omega) | omega) _ | refine Below.setCell ?_ (by first | exact Nat.le_refl _ | (simp; done) | (simp; omega) | omega) _ | refine bExtW ?_ (by first | exact Nat.le_refl _ | (simp; done) | (simp; omega) | omega) | refine Below.trans ?_ (Below.mono (by assumption) (by first | exact Nat.le_refl _ | (simp; done) | (simp; omega) | omega)))))).mono ?_
  rintro r w1 ⟨g4, rfl, hT4, hb⟩
  obtain ⟨E3, d3, rfl⟩ := bExt hb
  have HT4 := Lib.hid hT4
  clear hb hT4
  go_wp2_with fail
  refine (HP2.out _ _ _ _ _ (HT4.out.below (by repeat (first | exact Below.refl _ _ | refine Below.drew ?_ | refine below_drewN ?_ _ | refine Below.alloc ?_ (by first | exact Nat.le_refl _ | (simp; done) | (simp; omega) | omega) _ | refine Below.setCell ?_ (by first | exact Nat.le_refl _ | (simp; done) | (simp; omega) | omega) _ | refine bExtW ?_ (by first | exact Nat.le_refl _ | (simp; done) | (simp; omega) | omega) | refine Below.trans ?_ (Below.mono (by assumption) (by first | exact Nat.le_refl _ | (simp; done) | (simp; omega) | omega))))) (HT3.out.below (by repeat (first | exact Below.refl _ _ | refine Below.drew ?_ | refine below_drewN ?_ _ | refine Below.alloc ?_ (by first | exact Nat.le_refl _ | (simp; done) | (simp; omega) | omega) _ | refine Below.setCell ?_ (by first | exact Nat.le_refl _ | (simp; done) | (simp; omega) | omega) _ | refine bExtW ?_ (by first | exact Nat.le_refl _ | (simp; done) | (simp; omega) | omega) | refine Below.trans ?_ (Below.mono (by assumption) (by first | exact Nat.le_refl _ | (simp; done) | (simp; omega) | omega)))))).mono ?_
  rintro r w1 ⟨g5, rfl, hT5, hb⟩
  obtain ⟨E4, d4, rfl⟩ := bExt hb
  have HT5 := Lib.hid hT5
  clear hb hT5
  (go_wp2_with fail; refine (same_selfJ nt nr (nt * nr) DL _ A0 _ c0 _ (HT5.out.below (by repeat (first | exact Below.refl _ _ | refine Below.drew ?_ | refine below_drewN ?_ _ | refine Below.alloc ?_ (by first | exact Nat.le_refl _ | (simp; done) | (simp; omega) | omega) _ | refine Below.setCell ?_ (by first | exact Nat.le_refl _ | (simp; done) | (simp; omega) | omega) _ | refine bExtW ?_ (by first | exact Nat.le_refl _ | (simp; done) | (simp; omega) | omega) | refine Below.trans ?_ (Below.mono (by assumption) (by first | exact Nat.le_refl _ | (simp; done) | (simp; omega) | omega))))) (HT0.out.below (by repeat (first | exact Below.refl _ _ | refine Below.drew ?_ | refine below_drewN ?_ _ | refine Below.alloc ?_ (by first | exact Nat.le_refl _ | (simp; done) | (simp; omega) | omega) _ | refine Below.setCell ?_ (by first | exact Nat.le_refl _ | (simp; done) | (simp; omega) | omega) _ | refine bExtW ?_ (by first | exact Nat.le_refl _ | (simp; done) | (simp; omega) | omega) | refine Below.trans ?_ (Below.mono (by assumption) (by first | exact Nat.le_refl _ | (simp; done) | (simp; omega) | omega)))))).mono ?_; rintro r w1 ⟨rfl, hb⟩; obtain ⟨E, d, rfl⟩ := bExt hb; clear hb)
  go_wp2
  go_ret
  exact ⟨rfl, (by repeat (first | exact Below.refl _ _ | refine Below.drew ?_ | refine below_drewN ?_ _ | refine Below.alloc ?_ (by first | exact Nat.le_refl _ | (simp; done) | (simp; omega) | omega) _ | refine Below.setCell ?_ (by first | exact Nat.le_refl _ | (simp; done) | (simp; omega) | omega) _ | refine bExtW ?_ (by first | exact Nat.le_refl _ | (simp; done) | (simp; omega) | omega) | refine Below.trans ?_ (Below.mono (by assumption) (by first | exact Nat.le_refl _ | (simp; done) | (simp; omega) | omega))))⟩
theorem weaves_walk (tha : Option Addr) (nt ct : Nat) (th : List Int) (W H : Int) (a : Option Addr) (n c : Nat) (tie : List Bool) (tra : Option Addr) (nr cr : Nat) (tr : List Int) (w : World) (hth : IsInts w tha nt th) (htr : IsInts w tra nr tr) (htt : OkT w a n c tie)
    (h1 : (-9223372036854775808 ≤ W ∧ W ≤ 9223372036854775807)) (h2 : (-9223372036854775808 ≤ H ∧ H ≤ 9223372036854775807)) (h5 : nt ≤ 9223372036854775807) (h6 : nr ≤ 9223372036854775807) :
    Calls Try.prog 5 #[.agg #[.slice tha nt ct, .int .i64 (W), .int .i64 (H), .slice a n c, .slice tra nr cr]] w fun e w' => e = .returned (.bool true) ∧ Below w.heap.size w w' := by
  have ncap : n ≤ 9223372036854775807 := Nat.le_trans htt.cap htt.lim
  by_cases hd : drE th tr W H n = 0
  · obtain ⟨tn, rn, W', H', rfl, rfl, rfl, rfl, hW, hH, hn, k1, k2, k3, k4, k5, k6⟩ := drE_zero hd
    have hnt : tn.length = nt := by have := hth.1; rwa [natI_len] at this
    have hnr : rn.length = nr := by have := htr.1; rwa [natI_len] at this
    subst hnt hnr
    exact weaves_ok tha _ ct tn W' H' a n c tie tra _ cr rn w hth htr htt hW hH hn rfl rfl k1 k2 k3 k4 k5 k6
  · exact weaves_bad tha nt ct th W H a n c tra nr cr tr w hth htr h1 h2 ncap h5 h6 hd
end Go.Proofs.Ytkffljkgblcgdaa
