/- Lemmas and contracts of functions (what each call returns, and that it changes nothing that was there) that the proof of a law of this seat uses; each lemma states its own conditions. -/
import Derived.Test.YtikddfjickkhhaaTpM
import Derived.Test.YtikddfjickkhhaaAl3
namespace Go.Proofs.Ytikddfjickkhhaa
open Go.RowKit
set_option linter.unusedVariables false
set_option linter.unusedSimpArgs false
theorem prE_zero {W1 H1 : Int} {n1 : Nat} {W2 H2 : Int} {n2 : Nat} (h : prE W1 H1 n1 W2 H2 n2 = 0) : wrT W1 H1 n1 = 0 ∧ wrT W2 H2 n2 = 0 ∧ W1 = H2 := by
  unfold prE at h
  split at h
  · rename_i h1; exact absurd h h1
  · split at h
    · rename_i h2; exact absurd h h2
    · split at h
      · omega
      · rename_i h1 h2 h3
        exact ⟨by simpa using h1, by simpa using h2, by simpa using h3⟩
theorem wrT_zero' {W H : Int} {n : Nat} (h : wrT W H n = 0) : ∃ W' H' : Nat, W = W' ∧ H = H' ∧ W' ≤ 64 ∧ H' ≤ 64 ∧ n = W' * H' := wrT_zero h
theorem mul64n {W H : Nat} (hW : W ≤ 64) (hH : H ≤ 64) : W * H ≤ 4096 := Nat.le_trans (Nat.mul_le_mul hW hH) (by omega)
set_option maxRecDepth 100000 in
set_option maxHeartbeats 8000000 in
theorem alive5_any (w : World) :
    Calls Try.prog 21 #[] w fun r w' => r = .returned (.bool true) ∧ Below w.heap.size w w' := by
  have HL : Hid (alikeL 1 2 [true, true] = [0, 0]) := Lib.hid (by decide +kernel)
  go_enter Try.func21, Try.ntmps21
  go_wp2_with fail
  refine (Alike_ok 1 2 (some ⟨w.heap.size, 0, none⟩) 2 [true, true] _ ⟨⟨rfl, fun _ => ⟨w.heap.size, 0, rfl, by simp, ?_⟩⟩, by omega, by omega⟩ (by omega) (by omega)).mono ?_
  · intro j hj
    have hj2 : j = 0 ∨ j = 1 := by omega
    rcases hj2 with rfl | rfl <;> simp
  rintro r w1 ⟨A, c, rfl, hI, hb⟩
  rw [HL.out] at hI ⊢
  obtain ⟨b, o, rfl, hbl, hc⟩ := hI.2 (by simp)
  have c1 := hc 1 (by simp)
  have e1 : (natI [0, 0]).getD 1 0 = 0 := rfl
  rw [e1] at c1
  have HB := Lib.hid hb
  clear hI hc hb e1 hbl
  simp only [List.length_cons, List.length_nil, Nat.zero_add]
  go_wp2
  go_ret
  exact ⟨rfl, by have := HB.out; exact ((Below.refl _ _).alloc (Nat.le_refl _) _).trans (this.mono (by simp))⟩
set_option maxRecDepth 100000 in
set_option maxHeartbeats 8000000 in
theorem products_walk (W1 H1 : Int) (a1 : Option Addr) (n1 c1 : Nat) (aa : List Bool) (W2 H2 : Int) (a2 : Option Addr) (n2 c2 : Nat) (bb : List Bool) (W3 H3 : Int) (a3 : Option Addr) (n3 c3 : Nat) (cc : List Bool) (w : World)
    (hA : OkT w a1 n1 c1 aa) (hB : OkT w a2 n2 c2 bb) (hC : OkT w a3 n3 c3 cc) (u1 : (-9223372036854775808 ≤ W1 ∧ W1 ≤ 9223372036854775807)) (v1 : (-9223372036854775808 ≤ H1 ∧ H1 ≤ 9223372036854775807)) (u2 : (-9223372036854775808 ≤ W2 ∧ W2 ≤ 9223372036854775807)) (v2 : (-9223372036854775808 ≤ H2 ∧ H2 ≤ 9223372036854775807)) (u3 : (-9223372036854775808 ≤ W3 ∧ W3 ≤ 9223372036854775807)) (v3 : (-9223372036854775808 ≤ H3 ∧ H3 ≤ 9223372036854775807)) :
    Calls Try.prog 5 #[.agg #[.int .i64 (W1), .int .i64 (H1), .slice a1 n1 c1], .agg #[.int .i64 (W2), .int .i64 (H2), .slice a2 n2 c2], .agg #[.int .i64 (W3), .int .i64 (H3), .slice a3 n3 c3]] w fun e w' => e = .returned (.bool true) ∧ Below w.heap.size w w' := by
  have m1 : n1 ≤ 9223372036854775807 := Nat.le_trans hA.cap hA.lim
  have m2 : n2 ≤ 9223372036854775807 := Nat.le_trans hB.cap hB.lim
  have m3 : n3 ≤ 9223372036854775807 := Nat.le_trans hC.cap hC.lim
  by_cases he1 : wrT W1 H1 n1 = 0
  · obtain ⟨M, H, rfl, rfl, hM, hH, hn1⟩ := wrT_zero he1
    have HA := Lib.hid hA; have HB := Lib.hid hB; have HC := Lib.hid hC
    have HT1 := Lib.hid (fun w h => Turned_any M H n1 hn1 a1 c1 aa w h hM hH)
    have HT2 := Lib.hid (fun w g h => Turned_any H M n1 (by rw [hn1, Nat.mul_comm]) (some ⟨g, 0, none⟩) n1 (turnL M H aa) w h hH hM)
    have HTT := Lib.hid (turn_turn (W := M) (H := H) (bs := aa) (by rw [hA.bits.1, hn1]))
    clear hA hB hC he1
    by_cases he2 : prE M H n1 W2 H2 n2 = 0
    · obtain ⟨_, hq, hWH⟩ := prE_zero he2
      obtain ⟨W, M', rfl, rfl, hW, _, hn2⟩ := wrT_zero hq
      obtain rfl : M = M' := by omega
      obtain ⟨nab, hnab⟩ : ∃ n, n = W * H := ⟨_, rfl⟩
      have m4 : nab ≤ 4096 := by rw [hnab]; exact mul64n hW hH
      have HP1 := Lib.hid (fun w hA hB => Product_any H M W n1 n2 nab hn1 hn2 hnab a1 c1 aa a2 c2 bb w hA hB hM hH hW)
      have HU := Lib.hid (fun w h => Turned_any W M n2 hn2 a2 c2 bb w h hW hM)
      have HUT := Lib.hid (fun w gu gt hA hB => Product_any W M H n2 n1 nab (by rw [hn2, Nat.mul_comm]) (by rw [hn1, Nat.mul_comm]) (by rw [hnab, Nat.mul_comm]) (some ⟨gu, 0, none⟩) n2 (turnL W M bb) (some ⟨gt, 0, none⟩) n1 (turnL M H aa) w hA hB hM hW hH)
      have HV := Lib.hid (fun w g h => Turned_any W H nab hnab (some ⟨g, 0, none⟩) nab (prodL H M W aa bb) w h hW hH)
      have HTP := Lib.hid (turn_prod (H := H) (M := M) (W := W) (aa := aa) (bb := bb))
      clear he2 hq hWH
      by_cases he3 : prE W M n2 W3 H3 n3 = 0
      · obtain ⟨_, hq, hWH⟩ := prE_zero he3
        obtain ⟨X, W', rfl, rfl, hX, _, hn3⟩ := wrT_zero hq
        obtain rfl : W = W' := by omega
        obtain ⟨nbc, hnbc⟩ : ∃ n, n = X * M := ⟨_, rfl⟩
        obtain ⟨nl, hnl⟩ : ∃ n, n = X * H := ⟨_, rfl⟩
        have m5 : nbc ≤ 4096 := by rw [hnbc]; exact mul64n hX hM
        have m6 : nl ≤ 4096 := by rw [hnl]; exact mul64n hX hH
        have HP2 := Lib.hid (fun w hA hB => Product_any M W X n2 n3 nbc hn2 hn3 hnbc a2 c2 bb a3 c3 cc w hA hB hW hM hX)
        have HP3 := Lib.hid (fun w g hA hB => Product_any H W X nab n3 nl hnab hn3 hnl (some ⟨g, 0, none⟩) nab (prodL H M W aa bb) a3 c3 cc w hA hB hW hH hX)
        have HP4 := Lib.hid (fun w g hA hB => Product_any H M X n1 nbc nl hn1 hnbc hnl a1 c1 aa (some ⟨g, 0, none⟩) nbc (prodL M W X bb cc) w hA hB hM hH hX)
        have HAS := Lib.hid (prod_assoc (H := H) (M := M) (W := W) (X := X) (aa := aa) (bb := bb) (cc := cc))
        clear he3 hq hWH hn1 hn2 hn3 hnab hnbc hnl
        generalize turnL M H aa = ta at *
        generalize turnL W M bb = tb at *
        generalize prodL H M W aa bb = ab at *
        generalize prodL W M H tb ta = ut at *
        generalize turnL W H ab = v at *
        generalize prodL M W X bb cc = bc at *
        generalize prodL H W X ab cc = lll at *
        generalize prodL H M X aa bc = rrr at *
        go_enter Try.func5, Try.ntmps5
        (go_wp2_with fail; refine (alive5_any _).mono ?_; rintro r w1 ⟨rfl, hb⟩; obtain ⟨E, d, rfl⟩ := bExt hb; clear hb)
        go_wp2_with fail
        refine (HT1.out _ (HA.out.below (by repeat (first | exact Below.refl _ _ | refine Below.drew ?_ | refine below_drewN ?_ _ | refine Below.alloc ?_ (by first | exact Nat.le_refl _ | (simp; done) | (simp; omega) | omega) _ | refine Below.setCell ?_ (by first | exact Nat.le_refl _ | (simp; done) | (simp; omega) | omega) _ | refine bExtW ?_ (by first | exact Nat.le_refl _ | (simp; done) | (simp; omega) | omega) | refine Below.trans ?_ (Below.mono (by assumption) (by first | exact Nat.le_refl _ | (simp; done) | (simp; omega) | omega)))))).mono ?_
        rintro r wx ⟨g1, rfl, hT, hb⟩
        obtain ⟨E1, d1, rfl⟩ := bExt hb
        have HX1 := Lib.hid hT
        clear hb hT
        go_wp2_with fail
        refine (HT2.out _ g1 (HX1.out.below (by repeat (first | exact Below.refl _ _ | refine Below.drew ?_ | refine below_drewN ?_ _ | refine Below.alloc ?_ (by first | exact Nat.le_refl _ | (simp; done) | (simp; omega) | omega) _ | refine Below.setCell ?_ (by first | exact Nat.le_refl _ | (simp; done) | (simp; omega) | omega) _ | refine bExtW ?_ (by first | exact Nat.le_refl _ | (simp; done) | (simp; omega) | omega) | refine Below.trans ?_ (Below.mono (by assumption) (by first | exact Nat.le_refl _ | (simp; done) | (simp; omega) | omega)))))).mono ?_
        rintro r wx ⟨g2, rfl, hT, hb⟩
        obtain ⟨E2, d2, rfl⟩ := bExt hb
        have HX2 := Lib.hid hT
        clear hb hT
        rw [HTT.out] at HX2
        go_wp2_with fail
        refine (Same_any M H (some ⟨g2, 0, none⟩) n1 n1 aa M H a1 n1 c1 aa _ (HX2.out.bits.below (by repeat (first | exact Below.refl _ _ | refine Below.drew ?_ | refine below_drewN ?_ _ | refine Below.alloc ?_ (by first | exact Nat.le_refl _ | (simp; done) | (simp; omega) | omega) _ | refine Below.setCell ?_ (by first | exact Nat.le_refl _ | (simp; done) | (simp; omega) | omega) _ | refine bExtW ?_ (by first | exact Nat.le_refl _ | (simp; done) | (simp; omega) | omega) | refine Below.trans ?_ (Below.mono (by assumption) (by first | exact Nat.le_refl _ | (simp; done) | (simp; omega) | omega))))) (HA.out.bits.below (by repeat (first | exact Below.refl _ _ | refine Below.drew ?_ | refine below_drewN ?_ _ | refine Below.alloc ?_ (by first | exact Nat.le_refl _ | (simp; done) | (simp; omega) | omega) _ | refine Below.setCell ?_ (by first | exact Nat.le_refl _ | (simp; done) | (simp; omega) | omega) _ | refine bExtW ?_ (by first | exact Nat.le_refl _ | (simp; done) | (simp; omega) | omega) | refine Below.trans ?_ (Below.mono (by assumption) (by first | exact Nat.le_refl _ | (simp; done) | (simp; omega) | omega))))) m1 m1).mono ?_
        rw [decide_eq_true (p := (((M : Nat) : Int) = ((M : Nat) : Int) ∧ ((H : Nat) : Int) = ((H : Nat) : Int) ∧ aa = aa)) ⟨rfl, rfl, rfl⟩]
        rintro r wx ⟨rfl, hb⟩
        obtain ⟨E3, d3, rfl⟩ := bExt hb
        clear hb
        go_wp2_with fail
        refine (HP1.out _ (HA.out.below (by repeat (first | exact Below.refl _ _ | refine Below.drew ?_ | refine below_drewN ?_ _ | refine Below.alloc ?_ (by first | exact Nat.le_refl _ | (simp; done) | (simp; omega) | omega) _ | refine Below.setCell ?_ (by first | exact Nat.le_refl _ | (simp; done) | (simp; omega) | omega) _ | refine bExtW ?_ (by first | exact Nat.le_refl _ | (simp; done) | (simp; omega) | omega) | refine Below.trans ?_ (Below.mono (by assumption) (by first | exact Nat.le_refl _ | (simp; done) | (simp; omega) | omega))))) (HB.out.below (by repeat (first | exact Below.refl _ _ | refine Below.drew ?_ | refine below_drewN ?_ _ | refine Below.alloc ?_ (by first | exact Nat.le_refl _ | (simp; done) | (simp; omega) | omega) _ | refine Below.setCell ?_ (by first | exact Nat.le_refl _ | (simp; done) | (simp; omega) | omega) _ | refine bExtW ?_ (by first | exact Nat.le_refl _ | (simp; done) | (simp; omega) | omega) | refine Below.trans ?_ (Below.mono (by assumption) (by first | exact Nat.le_refl _ | (simp; done) | (simp; omega) | omega)))))).mono ?_
        rintro r wx ⟨g4, rfl, hT, hb⟩
        obtain ⟨E4, d4, rfl⟩ := bExt hb
        have HX4 := Lib.hid hT
        clear hb hT
        go_wp2_with fail
        refine (HU.out _ (HB.out.below (by repeat (first | exact Below.refl _ _ | refine Below.drew ?_ | refine below_drewN ?_ _ | refine Below.alloc ?_ (by first | exact Nat.le_refl _ | (simp; done) | (simp; omega) | omega) _ | refine Below.setCell ?_ (by first | exact Nat.le_refl _ | (simp; done) | (simp; omega) | omega) _ | refine bExtW ?_ (by first | exact Nat.le_refl _ | (simp; done) | (simp; omega) | omega) | refine Below.trans ?_ (Below.mono (by assumption) (by first | exact Nat.le_refl _ | (simp; done) | (simp; omega) | omega)))))).mono ?_
        rintro r wx ⟨g5, rfl, hT, hb⟩
        obtain ⟨E5, d5, rfl⟩ := bExt hb
        have HX5 := Lib.hid hT
        clear hb hT
        go_wp2_with fail
        refine (HUT.out _ g5 g1 (HX5.out.below (by repeat (first | exact Below.refl _ _ | refine Below.drew ?_ | refine below_drewN ?_ _ | refine Below.alloc ?_ (by first | exact Nat.le_refl _ | (simp; done) | (simp; omega) | omega) _ | refine Below.setCell ?_ (by first | exact Nat.le_refl _ | (simp; done) | (simp; omega) | omega) _ | refine bExtW ?_ (by first | exact Nat.le_refl _ | (simp; done) | (simp; omega) | omega) | refine Below.trans ?_ (Below.mono (by assumption) (by first | exact Nat.le_refl _ | (simp; done) | (simp; omega) | omega))))) (HX1.out.below (by repeat (first | exact Below.refl _ _ | refine Below.drew ?_ | refine below_drewN ?_ _ | refine Below.alloc ?_ (by first | exact Nat.le_refl _ | (simp; done) | (simp; omega) | omega) _ | refine Below.setCell ?_ (by first | exact Nat.le_refl _ | (simp; done) | (simp; omega) | omega) _ | refine bExtW ?_ (by first | exact Nat.le_refl _ | (simp; done) | (simp; omega) | omega) | refine Below.trans ?_ (Below.mono (by assumption) (by first | exact Nat.le_refl _ | (simp; done) | (simp; omega) | omega)))))).mono ?_
        rintro r wx ⟨g6, rfl, hT, hb⟩
        obtain ⟨E6, d6, rfl⟩ := bExt hb
        have HX6 := Lib.hid hT
        clear hb hT
        go_wp2_with fail
        refine (HV.out _ g4 (HX4.out.below (by repeat (first | exact Below.refl _ _ | refine Below.drew ?_ | refine below_drewN ?_ _ | refine Below.alloc ?_ (by first | exact Nat.le_refl _ | (simp; done) | (simp; omega) | omega) _ | refine Below.setCell ?_ (by first | exact Nat.le_refl _ | (simp; done) | (simp; omega) | omega) _ | refine bExtW ?_ (by first | exact Nat.le_refl _ | (simp; done) | (simp; omega) | omega) | refine Below.trans ?_ (Below.mono (by assumption) (by first | exact Nat.le_refl _ | (simp; done) | (simp; omega) | omega)))))).mono ?_
        rintro r wx ⟨g7, rfl, hT, hb⟩
        obtain ⟨E7, d7, rfl⟩ := bExt hb
        have HX7 := Lib.hid hT
        clear hb hT
        rw [HTP.out] at HX6
        go_wp2_with fail
        refine (Same_any H W (some ⟨g6, 0, none⟩) nab nab v H W (some ⟨g7, 0, none⟩) nab nab v _ (HX6.out.bits.below (by repeat (first | exact Below.refl _ _ | refine Below.drew ?_ | refine below_drewN ?_ _ | refine Below.alloc ?_ (by first | exact Nat.le_refl _ | (simp; done) | (simp; omega) | omega) _ | refine Below.setCell ?_ (by first | exact Nat.le_refl _ | (simp; done) | (simp; omega) | omega) _ | refine bExtW ?_ (by first | exact Nat.le_refl _ | (simp; done) | (simp; omega) | omega) | refine Below.trans ?_ (Below.mono (by assumption) (by first | exact Nat.le_refl _ | (simp; done) | (simp; omega) | omega))))) (HX7.out.bits.below (by repeat (first | exact Below.refl _ _ | refine Below.drew ?_ | refine below_drewN ?_ _ | refine Below.alloc ?_ (by first | exact Nat.le_refl _ | (simp; done) | (simp; omega) | omega) _ | refine Below.setCell ?_ (by first | exact Nat.le_refl _ | (simp; done) | (simp; omega) | omega) _ | refine bExtW ?_ (by first | exact Nat.le_refl _ | (simp; done) | (simp; omega) | omega) | refine Below.trans ?_ (Below.mono (by assumption) (by first | exact Nat.le_refl _ | (simp; done) | (simp; omega) | omega))))) (by omega) (by omega)).mono ?_
        rw [decide_eq_true (p := (((H : Nat) : Int) = ((H : Nat) : Int) ∧ ((W : Nat) : Int) = ((W : Nat) : Int) ∧ v = v)) ⟨rfl, rfl, rfl⟩]
        rintro r wx ⟨rfl, hb⟩
        obtain ⟨E8, d8, rfl⟩ := bExt hb
        clear hb
        go_wp2_with fail
        refine (HP2.out _ (HB.out.below (by repeat (first | exact Below.refl _ _ | refine Below.drew ?_ | refine below_drewN ?_ _ | refine Below.alloc ?_ (by first | exact Nat.le_refl _ | (simp; done) | (simp; omega) | omega) _ | refine Below.setCell ?_ (by first | exact Nat.le_refl _ | (simp; done) | (simp; omega) | omega) _ | refine bExtW ?_ (by first | exact Nat.le_refl _ | (simp; done) | (simp; omega) | omega) | refine Below.trans ?_ (Below.mono (by assumption) (by first | exact Nat.le_refl _ | (simp; done) | (simp; omega) | omega))))) (HC.out.below (by repeat (first | exact Below.refl _ _ | refine Below.drew ?_ | refine below_drewN ?_ _ | refine Below.alloc ?_ (by first | exact Nat.le_refl _ | (simp; done) | (simp; omega) | omega) _ | refine Below.setCell ?_ (by first | exact Nat.le_refl _ | (simp; done) | (simp; omega) | omega) _ | refine bExtW ?_ (by first | exact Nat.le_refl _ | (simp; done) | (simp; omega) | omega) | refine Below.trans ?_ (Below.mono (by assumption) (by first | exact Nat.le_refl _ | (simp; done) | (simp; omega) | omega)))))).mono ?_
        rintro r wx ⟨g9, rfl, hT, hb⟩
        obtain ⟨E9, d9, rfl⟩ := bExt hb
        have HX9 := Lib.hid hT
        clear hb hT
        go_wp2_with fail
        refine (HP3.out _ g4 (HX4.out.below (by repeat (first | exact Below.refl _ _ | refine Below.drew ?_ | refine below_drewN ?_ _ | refine Below.alloc ?_ (by first | exact Nat.le_refl _ | (simp; done) | (simp; omega) | omega) _ | refine Below.setCell ?_ (by first | exact Nat.le_refl _ | (simp; done) | (simp; omega) | omega) _ | refine bExtW ?_ (by first | exact Nat.le_refl _ | (simp; done) | (simp; omega) | omega) | refine Below.trans ?_ (Below.mono (by assumption) (by first | exact Nat.le_refl _ | (simp; done) | (simp; omega) | omega))))) (HC.out.below (by repeat (first | exact Below.refl _ _ | refine Below.drew ?_ | refine below_drewN ?_ _ | refine Below.alloc ?_ (by first | exact Nat.le_refl _ | (simp; done) | (simp; omega) | omega) _ | refine Below.setCell ?_ (by first | exact Nat.le_refl _ | (simp; done) | (simp; omega) | omega) _ | refine bExtW ?_ (by first | exact Nat.le_refl _ | (simp; done) | (simp; omega) | omega) | refine Below.trans ?_ (Below.mono (by assumption) (by first | exact Nat.le_refl _ | (simp; done) | (simp; omega) | omega)))))).mono ?_
        rintro r wx ⟨g10, rfl, hT, hb⟩
        obtain ⟨E10, d10, rfl⟩ := bExt hb
        have HX10 := Lib.hid hT
        clear hb hT
        go_wp2_with fail
        refine (HP4.out _ g9 (HA.out.below (by repeat (first | exact Below.refl _ _ | refine Below.drew ?_ | refine below_drewN ?_ _ | refine Below.alloc ?_ (by first | exact Nat.le_refl _ | (simp; done) | (simp; omega) | omega) _ | refine Below.setCell ?_ (by first | exact Nat.le_refl _ | (simp; done) | (simp; omega) | omega) _ | refine bExtW ?_ (by first | exact Nat.le_refl _ | (simp; done) | (simp; omega) | omega) | refine Below.trans ?_ (Below.mono (by assumption) (by first | exact Nat.le_refl _ | (simp; done) | (simp; omega) | omega))))) (HX9.out.below (by repeat (first | exact Below.refl _ _ | refine Below.drew ?_ | refine below_drewN ?_ _ | refine Below.alloc ?_ (by first | exact Nat.le_refl _ | (simp; done) | (simp; omega) | omega) _ | refine Below.setCell ?_ (by first | exact Nat.le_refl _ | (simp; done) | (simp; omega) | omega) _ | refine bExtW ?_ (by first | exact Nat.le_refl _ | (simp; done) | (simp; omega) | omega) | refine Below.trans ?_ (Below.mono (by assumption) (by first | exact Nat.le_refl _ | (simp; done) | (simp; omega) | omega)))))).mono ?_
        rintro r wx ⟨g11, rfl, hT, hb⟩
        obtain ⟨E11, d11, rfl⟩ := bExt hb
        have HX11 := Lib.hid hT
        clear hb hT
        rw [HAS.out] at HX10
        go_wp2_with fail
        refine (Same_any X H (some ⟨g10, 0, none⟩) nl nl rrr X H (some ⟨g11, 0, none⟩) nl nl rrr _ (HX10.out.bits.below (by repeat (first | exact Below.refl _ _ | refine Below.drew ?_ | refine below_drewN ?_ _ | refine Below.alloc ?_ (by first | exact Nat.le_refl _ | (simp; done) | (simp; omega) | omega) _ | refine Below.setCell ?_ (by first | exact Nat.le_refl _ | (simp; done) | (simp; omega) | omega) _ | refine bExtW ?_ (by first | exact Nat.le_refl _ | (simp; done) | (simp; omega) | omega) | refine Below.trans ?_ (Below.mono (by assumption) (by first | exact Nat.le_refl _ | (simp; done) | (simp; omega) | omega))))) (HX11.out.bits.below (by repeat (first | exact Below.refl _ _ | refine Below.drew ?_ | refine below_drewN ?_ _ | refine Below.alloc ?_ (by first | exact Nat.le_refl _ | (simp; done) | (simp; omega) | omega) _ | refine Below.setCell ?_ (by first | exact Nat.le_refl _ | (simp; done) | (simp; omega) | omega) _ | refine bExtW ?_ (by first | exact Nat.le_refl _ | (simp; done) | (simp; omega) | omega) | refine Below.trans ?_ (Below.mono (by assumption) (by first | exact Nat.le_refl _ | (simp; done) | (simp; omega) | omega))))) (by omega) (by omega)).mono ?_
        rw [decide_eq_true (p := (((X : Nat) : Int) = ((X : Nat) : Int) ∧ ((H : Nat) : Int) = ((H : Nat) : Int) ∧ rrr = rrr)) ⟨rfl, rfl, rfl⟩]
        rintro r wx ⟨rfl, hb⟩
        obtain ⟨E12, d12, rfl⟩ := bExt hb
        clear hb
        go_wp2
        go_ret
        exact ⟨rfl, (by repeat (first | exact Below.refl _ _ | refine Below.drew ?_ | refine below_drewN ?_ _ | refine Below.alloc ?_ (by first | exact Nat.le_refl _ | (simp; done) | (simp; omega) | omega) _ | refine Below.setCell ?_ (by first | exact Nat.le_refl _ | (simp; done) | (simp; omega) | omega) _ | refine bExtW ?_ (by first | exact Nat.le_refl _ | (simp; done) | (simp; omega) | omega) | refine Below.trans ?_ (Below.mono (by assumption) (by first | exact Nat.le_refl _ | (simp; done) | (simp; omega) | omega))))⟩
      · have hb3 : (prE W M n2 W3 H3 n3 != 0) = true := by simpa using he3
        have HP2 := Lib.hid (fun w => Product_bad W M a2 n2 c2 W3 H3 a3 n3 c3 w (by omega) (by omega) m2 u3 v3 m3 he3)
        clear he3 hn1 hn2 hnab
        generalize turnL M H aa = ta at *
        generalize turnL W M bb = tb at *
        generalize prodL H M W aa bb = ab at *
        generalize prodL W M H tb ta = ut at *
        generalize turnL W H ab = v at *
        go_enter Try.func5, Try.ntmps5
        (go_wp2_with fail; refine (alive5_any _).mono ?_; rintro r w1 ⟨rfl, hb⟩; obtain ⟨E, d, rfl⟩ := bExt hb; clear hb)
        go_wp2_with fail
        refine (HT1.out _ (HA.out.below (by repeat (first | exact Below.refl _ _ | refine Below.drew ?_ | refine below_drewN ?_ _ | refine Below.alloc ?_ (by first | exact Nat.le_refl _ | (simp; done) | (simp; omega) | omega) _ | refine Below.setCell ?_ (by first | exact Nat.le_refl _ | (simp; done) | (simp; omega) | omega) _ | refine bExtW ?_ (by first | exact Nat.le_refl _ | (simp; done) | (simp; omega) | omega) | refine Below.trans ?_ (Below.mono (by assumption) (by first | exact Nat.le_refl _ | (simp; done) | (simp; omega) | omega)))))).mono ?_
        rintro r wx ⟨g1, rfl, hT, hb⟩
        obtain ⟨E1, d1, rfl⟩ := bExt hb
        have HX1 := Lib.hid hT
        clear hb hT
        go_wp2_with fail
        refine (HT2.out _ g1 (HX1.out.below (by repeat (first | exact Below.refl _ _ | refine Below.drew ?_ | refine below_drewN ?_ _ | refine Below.alloc ?_ (by first | exact Nat.le_refl _ | (simp; done) | (simp; omega) | omega) _ | refine Below.setCell ?_ (by first | exact Nat.le_refl _ | (simp; done) | (simp; omega) | omega) _ | refine bExtW ?_ (by first | exact Nat.le_refl _ | (simp; done) | (simp; omega) | omega) | refine Below.trans ?_ (Below.mono (by assumption) (by first | exact Nat.le_refl _ | (simp; done) | (simp; omega) | omega)))))).mono ?_
        rintro r wx ⟨g2, rfl, hT, hb⟩
        obtain ⟨E2, d2, rfl⟩ := bExt hb
        have HX2 := Lib.hid hT
        clear hb hT
        rw [HTT.out] at HX2
        go_wp2_with fail
        refine (Same_any M H (some ⟨g2, 0, none⟩) n1 n1 aa M H a1 n1 c1 aa _ (HX2.out.bits.below (by repeat (first | exact Below.refl _ _ | refine Below.drew ?_ | refine below_drewN ?_ _ | refine Below.alloc ?_ (by first | exact Nat.le_refl _ | (simp; done) | (simp; omega) | omega) _ | refine Below.setCell ?_ (by first | exact Nat.le_refl _ | (simp; done) | (simp; omega) | omega) _ | refine bExtW ?_ (by first | exact Nat.le_refl _ | (simp; done) | (simp; omega) | omega) | refine Below.trans ?_ (Below.mono (by assumption) (by first | exact Nat.le_refl _ | (simp; done) | (simp; omega) | omega))))) (HA.out.bits.below (by repeat (first | exact Below.refl _ _ | refine Below.drew ?_ | refine below_drewN ?_ _ | refine Below.alloc ?_ (by first | exact Nat.le_refl _ | (simp; done) | (simp; omega) | omega) _ | refine Below.setCell ?_ (by first | exact Nat.le_refl _ | (simp; done) | (simp; omega) | omega) _ | refine bExtW ?_ (by first | exact Nat.le_refl _ | (simp; done) | (simp; omega) | omega) | refine Below.trans ?_ (Below.mono (by assumption) (by first | exact Nat.le_refl _ | (simp; done) | (simp; omega) | omega))))) m1 m1).mono ?_
        rw [decide_eq_true (p := (((M : Nat) : Int) = ((M : Nat) : Int) ∧ ((H : Nat) : Int) = ((H : Nat) : Int) ∧ aa = aa)) ⟨rfl, rfl, rfl⟩]
        rintro r wx ⟨rfl, hb⟩
        obtain ⟨E3, d3, rfl⟩ := bExt hb
        clear hb
        go_wp2_with fail
        refine (HP1.out _ (HA.out.below (by repeat (first | exact Below.refl _ _ | refine Below.drew ?_ | refine below_drewN ?_ _ | refine Below.alloc ?_ (by first | exact Nat.le_refl _ | (simp; done) | (simp; omega) | omega) _ | refine Below.setCell ?_ (by first | exact Nat.le_refl _ | (simp; done) | (simp; omega) | omega) _ | refine bExtW ?_ (by first | exact Nat.le_refl _ | (simp; done) | (simp; omega) | omega) | refine Below.trans ?_ (Below.mono (by assumption) (by first | exact Nat.le_refl _ | (simp; done) | (simp; omega) | omega))))) (HB.out.below (by repeat (first | exact Below.refl _ _ | refine Below.drew ?_ | refine below_drewN ?_ _ | refine Below.alloc ?_ (by first | exact Nat.le_refl _ | (simp; done) | (simp; omega) | omega) _ | refine Below.setCell ?_ (by first | exact Nat.le_refl _ | (simp; done) | (simp; omega) | omega) _ | refine bExtW ?_ (by first | exact Nat.le_refl _ | (simp; done) | (simp; omega) | omega) | refine Below.trans ?_ (Below.mono (by assumption) (by first | exact Nat.le_refl _ | (simp; done) | (simp; omega) | omega)))))).mono ?_
        rintro r wx ⟨g4, rfl, hT, hb⟩
        obtain ⟨E4, d4, rfl⟩ := bExt hb
        have HX4 := Lib.hid hT
        clear hb hT
        go_wp2_with fail
        refine (HU.out _ (HB.out.below (by repeat (first | exact Below.refl _ _ | refine Below.drew ?_ | refine below_drewN ?_ _ | refine Below.alloc ?_ (by first | exact Nat.le_refl _ | (simp; done) | (simp; omega) | omega) _ | refine Below.setCell ?_ (by first | exact Nat.le_refl _ | (simp; done) | (simp; omega) | omega) _ | refine bExtW ?_ (by first | exact Nat.le_refl _ | (simp; done) | (simp; omega) | omega) | refine Below.trans ?_ (Below.mono (by assumption) (by first | exact Nat.le_refl _ | (simp; done) | (simp; omega) | omega)))))).mono ?_
        rintro r wx ⟨g5, rfl, hT, hb⟩
        obtain ⟨E5, d5, rfl⟩ := bExt hb
        have HX5 := Lib.hid hT
        clear hb hT
        go_wp2_with fail
        refine (HUT.out _ g5 g1 (HX5.out.below (by repeat (first | exact Below.refl _ _ | refine Below.drew ?_ | refine below_drewN ?_ _ | refine Below.alloc ?_ (by first | exact Nat.le_refl _ | (simp; done) | (simp; omega) | omega) _ | refine Below.setCell ?_ (by first | exact Nat.le_refl _ | (simp; done) | (simp; omega) | omega) _ | refine bExtW ?_ (by first | exact Nat.le_refl _ | (simp; done) | (simp; omega) | omega) | refine Below.trans ?_ (Below.mono (by assumption) (by first | exact Nat.le_refl _ | (simp; done) | (simp; omega) | omega))))) (HX1.out.below (by repeat (first | exact Below.refl _ _ | refine Below.drew ?_ | refine below_drewN ?_ _ | refine Below.alloc ?_ (by first | exact Nat.le_refl _ | (simp; done) | (simp; omega) | omega) _ | refine Below.setCell ?_ (by first | exact Nat.le_refl _ | (simp; done) | (simp; omega) | omega) _ | refine bExtW ?_ (by first | exact Nat.le_refl _ | (simp; done) | (simp; omega) | omega) | refine Below.trans ?_ (Below.mono (by assumption) (by first | exact Nat.le_refl _ | (simp; done) | (simp; omega) | omega)))))).mono ?_
        rintro r wx ⟨g6, rfl, hT, hb⟩
        obtain ⟨E6, d6, rfl⟩ := bExt hb
        have HX6 := Lib.hid hT
        clear hb hT
        go_wp2_with fail
        refine (HV.out _ g4 (HX4.out.below (by repeat (first | exact Below.refl _ _ | refine Below.drew ?_ | refine below_drewN ?_ _ | refine Below.alloc ?_ (by first | exact Nat.le_refl _ | (simp; done) | (simp; omega) | omega) _ | refine Below.setCell ?_ (by first | exact Nat.le_refl _ | (simp; done) | (simp; omega) | omega) _ | refine bExtW ?_ (by first | exact Nat.le_refl _ | (simp; done) | (simp; omega) | omega) | refine Below.trans ?_ (Below.mono (by assumption) (by first | exact Nat.le_refl _ | (simp; done) | (simp; omega) | omega)))))).mono ?_
        rintro r wx ⟨g7, rfl, hT, hb⟩
        obtain ⟨E7, d7, rfl⟩ := bExt hb
        have HX7 := Lib.hid hT
        clear hb hT
        rw [HTP.out] at HX6
        go_wp2_with fail
        refine (Same_any H W (some ⟨g6, 0, none⟩) nab nab v H W (some ⟨g7, 0, none⟩) nab nab v _ (HX6.out.bits.below (by repeat (first | exact Below.refl _ _ | refine Below.drew ?_ | refine below_drewN ?_ _ | refine Below.alloc ?_ (by first | exact Nat.le_refl _ | (simp; done) | (simp; omega) | omega) _ | refine Below.setCell ?_ (by first | exact Nat.le_refl _ | (simp; done) | (simp; omega) | omega) _ | refine bExtW ?_ (by first | exact Nat.le_refl _ | (simp; done) | (simp; omega) | omega) | refine Below.trans ?_ (Below.mono (by assumption) (by first | exact Nat.le_refl _ | (simp; done) | (simp; omega) | omega))))) (HX7.out.bits.below (by repeat (first | exact Below.refl _ _ | refine Below.drew ?_ | refine below_drewN ?_ _ | refine Below.alloc ?_ (by first | exact Nat.le_refl _ | (simp; done) | (simp; omega) | omega) _ | refine Below.setCell ?_ (by first | exact Nat.le_refl _ | (simp; done) | (simp; omega) | omega) _ | refine bExtW ?_ (by first | exact Nat.le_refl _ | (simp; done) | (simp; omega) | omega) | refine Below.trans ?_ (Below.mono (by assumption) (by first | exact Nat.le_refl _ | (simp; done) | (simp; omega) | omega))))) (by omega) (by omega)).mono ?_
        rw [decide_eq_true (p := (((H : Nat) : Int) = ((H : Nat) : Int) ∧ ((W : Nat) : Int) = ((W : Nat) : Int) ∧ v = v)) ⟨rfl, rfl, rfl⟩]
        rintro r wx ⟨rfl, hb⟩
        obtain ⟨E8, d8, rfl⟩ := bExt hb
        clear hb
        (go_wp2_with fail; refine (HP2.out _).mono ?_; rintro r w1 ⟨rfl, hb⟩; obtain ⟨E, d, rfl⟩ := bExt hb; clear hb)
        go_wp2
        go_ret
        exact ⟨rfl, (by repeat (first | exact Below.refl _ _ | refine Below.drew ?_ | refine below_drewN ?_ _ | refine Below.alloc ?_ (by first | exact Nat.le_refl _ | (simp; done) | (simp; omega) | omega) _ | refine Below.setCell ?_ (by first | exact Nat.le_refl _ | (simp; done) | (simp; omega) | omega) _ | refine bExtW ?_ (by first | exact Nat.le_refl _ | (simp; done) | (simp; omega) | omega) | refine Below.trans ?_ (Below.mono (by assumption) (by first | exact Nat.le_refl _ | (simp; done) | (simp; omega) | omega))))⟩
    · have hb2 : (prE M H n1 W2 H2 n2 != 0) = true := by simpa using he2
      have HP := Lib.hid (fun w => Product_bad M H a1 n1 c1 W2 H2 a2 n2 c2 w u1 v1 m1 u2 v2 m2 he2)
      clear he2 hn1
      go_enter Try.func5, Try.ntmps5
      (go_wp2_with fail; refine (alive5_any _).mono ?_; rintro r w1 ⟨rfl, hb⟩; obtain ⟨E, d, rfl⟩ := bExt hb; clear hb)
      go_wp2_with fail
      refine (HT1.out _ (HA.out.below (by repeat (first | exact Below.refl _ _ | refine Below.drew ?_ | refine below_drewN ?_ _ | refine Below.alloc ?_ (by first | exact Nat.le_refl _ | (simp; done) | (simp; omega) | omega) _ | refine Below.setCell ?_ (by first | exact Nat.le_refl _ | (simp; done) | (simp; omega) | omega) _ | refine bExtW ?_ (by first | exact Nat.le_refl _ | (simp; done) | (simp; omega) | omega) | refine Below.trans ?_ (Below.mono (by assumption) (by first | exact Nat.le_refl _ | (simp; done) | (simp; omega) | omega)))))).mono ?_
      rintro r wx ⟨g1, rfl, hT, hb⟩
      obtain ⟨E1, d1, rfl⟩ := bExt hb
      have HX1 := Lib.hid hT
      clear hb hT
      go_wp2_with fail
      refine (HT2.out _ g1 (HX1.out.below (by repeat (first | exact Below.refl _ _ | refine Below.drew ?_ | refine below_drewN ?_ _ | refine Below.alloc ?_ (by first | exact Nat.le_refl _ | (simp; done) | (simp; omega) | omega) _ | refine Below.setCell ?_ (by first | exact Nat.le_refl _ | (simp; done) | (simp; omega) | omega) _ | refine bExtW ?_ (by first | exact Nat.le_refl _ | (simp; done) | (simp; omega) | omega) | refine Below.trans ?_ (Below.mono (by assumption) (by first | exact Nat.le_refl _ | (simp; done) | (simp; omega) | omega)))))).mono ?_
      rw [HTT.out]
      rintro r wx ⟨g2, rfl, hT, hb⟩
      obtain ⟨E2, d2, rfl⟩ := bExt hb
      have HX2 := Lib.hid hT
      clear hb hT
      go_wp2_with fail
      refine (Same_any M H (some ⟨g2, 0, none⟩) n1 n1 aa M H a1 n1 c1 aa _ (HX2.out.bits.below (by repeat (first | exact Below.refl _ _ | refine Below.drew ?_ | refine below_drewN ?_ _ | refine Below.alloc ?_ (by first | exact Nat.le_refl _ | (simp; done) | (simp; omega) | omega) _ | refine Below.setCell ?_ (by first | exact Nat.le_refl _ | (simp; done) | (simp; omega) | omega) _ | refine bExtW ?_ (by first | exact Nat.le_refl _ | (simp; done) | (simp; omega) | omega) | refine Below.trans ?_ (Below.mono (by assumption) (by first | exact Nat.le_refl _ | (simp; done) | (simp; omega) | omega))))) (HA.out.bits.below (by repeat (first | exact Below.refl _ _ | refine Below.drew ?_ | refine below_drewN ?_ _ | refine Below.alloc ?_ (by first | exact Nat.le_refl _ | (simp; done) | (simp; omega) | omega) _ | refine Below.setCell ?_ (by first | exact Nat.le_refl _ | (simp; done) | (simp; omega) | omega) _ | refine bExtW ?_ (by first | exact Nat.le_refl _ | (simp; done) | (simp; omega) | omega) | refine Below.trans ?_ (Below.mono (by assumption) (by first | exact Nat.le_refl _ | (simp; done) | (simp; omega) | omega))))) m1 m1).mono ?_
      rw [decide_eq_true (p := ((M : Int) = (M : Int) ∧ (H : Int) = (H : Int) ∧ aa = aa)) ⟨rfl, rfl, rfl⟩]
      rintro r wx ⟨rfl, hb⟩
      obtain ⟨E3, d3, rfl⟩ := bExt hb
      clear hb
      (go_wp2_with fail; refine (HP.out _).mono ?_; rintro r w1 ⟨rfl, hb⟩; obtain ⟨E, d, rfl⟩ := bExt hb; clear hb)
      go_wp2
      go_ret
      exact ⟨rfl, (by repeat (first | exact Below.refl _ _ | refine Below.drew ?_ | refine below_drewN ?_ _ | refine Below.alloc ?_ (by first | exact Nat.le_refl _ | (simp; done) | (simp; omega) | omega) _ | refine Below.setCell ?_ (by first | exact Nat.le_refl _ | (simp; done) | (simp; omega) | omega) _ | refine bExtW ?_ (by first | exact Nat.le_refl _ | (simp; done) | (simp; omega) | omega) | refine Below.trans ?_ (Below.mono (by assumption) (by first | exact Nat.le_refl _ | (simp; done) | (simp; omega) | omega))))⟩
  · have hb : (wrT W1 H1 n1 != 0) = true := by simpa using he1
    have HS := Lib.hid (fun w => Turned_bad W1 H1 a1 n1 c1 w u1 v1 m1 he1)
    clear he1 hA hB hC
    go_enter Try.func5, Try.ntmps5
    (go_wp2_with fail; refine (alive5_any _).mono ?_; rintro r w1 ⟨rfl, hb⟩; obtain ⟨E, d, rfl⟩ := bExt hb; clear hb)
    (go_wp2_with fail; refine (HS.out _).mono ?_; rintro r w1 ⟨rfl, hb⟩; obtain ⟨E, d, rfl⟩ := bExt hb; clear hb)
    go_wp2
    go_ret
    exact ⟨rfl, (by repeat (first | exact Below.refl _ _ | refine Below.drew ?_ | refine below_drewN ?_ _ | refine Below.alloc ?_ (by first | exact Nat.le_refl _ | (simp; done) | (simp; omega) | omega) _ | refine Below.setCell ?_ (by first | exact Nat.le_refl _ | (simp; done) | (simp; omega) | omega) _ | refine bExtW ?_ (by first | exact Nat.le_refl _ | (simp; done) | (simp; omega) | omega) | refine Below.trans ?_ (Below.mono (by assumption) (by first | exact Nat.le_refl _ | (simp; done) | (simp; omega) | omega))))⟩
end Go.Proofs.Ytikddfjickkhhaa
