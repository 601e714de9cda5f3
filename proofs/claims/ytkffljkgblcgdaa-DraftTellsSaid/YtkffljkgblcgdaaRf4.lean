/- Lemmas and contracts of functions (what each call returns, and that it changes nothing that was there) that the proof of a law of this seat uses; each lemma states its own conditions. -/
import Derived.Test.YtkffljkgblcgdaaRf3
namespace Go.Proofs.Ytkffljkgblcgdaa
open Go.RowKit
set_option linter.unusedVariables false
set_option linter.unusedSimpArgs false
open Go.Shelf
attribute [local go_sem] Oper.semAt_some
/-- What is wrong with a product. -/
def prE (W1 H1 : Int) (n1 : Nat) (W2 H2 : Int) (n2 : Nat) : Int := if wrT W1 H1 n1 ≠ 0 then wrT W1 H1 n1 else if wrT W2 H2 n2 ≠ 0 then wrT W2 H2 n2 else if W1 ≠ H2 then 8 else 0
def mulB (M W : Nat) (aa bb : List Bool) (Y X : Nat) : Bool := (List.range M).any fun k => aa.getD (Y * M + k) false && bb.getD (k * W + X) false
/-- The product: H rows of W. -/
def prodL (H M W : Nat) (aa bb : List Bool) : List Bool := (List.range (W * H)).map fun p => mulB M W aa bb (p / W) (p % W)
theorem prodL_len (H M W : Nat) (aa bb : List Bool) : (prodL H M W aa bb).length = W * H := by simp [prodL]
def prW (w : World) (W1 H1 : Int) (a1 : Option Addr) (n1 c1 : Nat) (W2 H2 : Int) (a2 : Option Addr) (n2 c2 : Nat) : World :=
  (((w.alloc (.cells #[.int .i64 (W1), .int .i64 (H1), .slice a1 n1 c1] 25)).alloc (.cells #[.int .i64 (W2), .int .i64 (H2), .slice a2 n2 c2] 25)).alloc (.cells #[.int .i64 (0), .int .i64 (0), .slice none 0 0] 25)).alloc (.cells #[.int .i64 (W1), .int .i64 (H1), .slice a1 n1 c1, .int .i64 (W2), .int .i64 (H2), .slice a2 n2 c2] 25)
set_option maxRecDepth 100000 in
set_option maxHeartbeats 8000000 in
theorem Product_bad (W1 H1 : Int) (a1 : Option Addr) (n1 c1 : Nat) (W2 H2 : Int) (a2 : Option Addr) (n2 c2 : Nat) (w : World) (u1 : (-9223372036854775808 ≤ W1 ∧ W1 ≤ 9223372036854775807)) (u2 : (-9223372036854775808 ≤ H1 ∧ H1 ≤ 9223372036854775807)) (u3 : n1 ≤ 9223372036854775807) (v1 : (-9223372036854775808 ≤ W2 ∧ W2 ≤ 9223372036854775807)) (v2 : (-9223372036854775808 ≤ H2 ∧ H2 ≤ 9223372036854775807)) (v3 : n2 ≤ 9223372036854775807) (he : prE W1 H1 n1 W2 H2 n2 ≠ 0) :
    Calls Try.prog 27 #[.agg #[.int .i64 (W1), .int .i64 (H1), .slice a1 n1 c1], .agg #[.int .i64 (W2), .int .i64 (H2), .slice a2 n2 c2]] w fun e w' => e = .returned (.tuple #[.agg #[.int .i64 0, .int .i64 0, .slice none 0 0], .int .i64 (prE W1 H1 n1 W2 H2 n2)]) ∧ Below w.heap.size w w' := by
  have HA := Lib.hid (fun w => tWrong_any W1 H1 a1 n1 c1 w u1 u2 u3)
  have HB := Lib.hid (fun w => tWrong_any W2 H2 a2 n2 c2 w v1 v2 v3)
  have HE := Lib.hid he
  clear he
  go_enter Try.func27, Try.ntmps27
  go_wp2_with fail
  go_loopw [19] (fun i wr => ∃ (k : Nat) (E : Array Obj) (d : Nat), i = .int .i64 k ∧ k ≤ 2 ∧ Hid (1 ≤ k → wrT W1 H1 n1 = 0) ∧ Hid (2 ≤ k → wrT W2 H2 n2 = 0) ∧ wr = extW (prW w W1 H1 a1 n1 c1 W2 H2 a2 n2 c2) E d) (fun i _ => 2 - (intOf i).toNat)
  case atStart => exact ⟨0, #[], _, rfl, by omega, Lib.hid (by omega), Lib.hid (by omega), extW_zero _⟩
  case round =>
    obtain ⟨k, E, d, rfl, hk, q1, q2, rfl⟩ := hrel
    unfold prW
    have hk3 : k = 0 ∨ k = 1 ∨ k = 2 := by omega
    clear hk
    rcases hk3 with rfl | rfl | rfl
    · by_cases h : wrT W1 H1 n1 = 0
      · have HZ := Lib.hid h
        clear h
        (go_wp2_with fail; refine (HA.out _).mono ?_; rintro r w1 ⟨rfl, hb⟩; obtain ⟨E, d, rfl⟩ := bExt hb; clear hb)
        rw [HZ.out]
        go_wp2
        go_roundw
        case rel => exact ⟨1, _, _, by go_num, by omega, Lib.hid fun _ => HZ.out, Lib.hid (by omega), by simp only [alloc_extW, extW_extW]; rfl⟩
        case measure => simp [intOf]
      · have hb : (wrT W1 H1 n1 != 0) = true := by simpa using h
        have HT : Hid (prE W1 H1 n1 W2 H2 n2 = wrT W1 H1 n1) := Lib.hid (by simp [prE, h])
        clear h
        (go_wp2_with fail; refine (HA.out _).mono ?_; rintro r w1 ⟨rfl, hb⟩; obtain ⟨E, d, rfl⟩ := bExt hb; clear hb)
        go_wp2
        refine bodyPost_ret (v := .tuple #[.agg #[.int .i64 0, .int .i64 0, .slice none 0 0], .int .i64 (wrT W1 H1 n1)]) (by simp [results, Try.results27, go_sem]) rfl ⟨by rw [HT.out], (by repeat (first | exact Below.refl _ _ | refine Below.drew ?_ | refine below_drewN ?_ _ | refine Below.alloc ?_ (by first | exact Nat.le_refl _ | (simp; done) | (simp; omega) | omega) _ | refine Below.setCell ?_ (by first | exact Nat.le_refl _ | (simp; done) | (simp; omega) | omega) _ | refine bExtW ?_ (by first | exact Nat.le_refl _ | (simp; done) | (simp; omega) | omega) | refine Below.trans ?_ (Below.mono (by assumption) (by first | exact Nat.le_refl _ | (simp; done) | (simp; omega) | omega))))⟩
    · have HQ1 := Lib.hid (q1.out (by omega))
      by_cases h : wrT W2 H2 n2 = 0
      · have HZ := Lib.hid h
        clear h
        (go_wp2_with fail; refine (HB.out _).mono ?_; rintro r w1 ⟨rfl, hb⟩; obtain ⟨E, d, rfl⟩ := bExt hb; clear hb)
        rw [HZ.out]
        go_wp2
        go_roundw
        case rel => exact ⟨2, _, _, by go_num, by omega, Lib.hid fun _ => HQ1.out, Lib.hid fun _ => HZ.out, by simp only [alloc_extW, extW_extW]; rfl⟩
        case measure => simp [intOf]
      · have hb : (wrT W2 H2 n2 != 0) = true := by simpa using h
        have HT : Hid (prE W1 H1 n1 W2 H2 n2 = wrT W2 H2 n2) := Lib.hid (by simp [prE, h, HQ1.out])
        clear h
        (go_wp2_with fail; refine (HB.out _).mono ?_; rintro r w1 ⟨rfl, hb⟩; obtain ⟨E, d, rfl⟩ := bExt hb; clear hb)
        go_wp2
        refine bodyPost_ret (v := .tuple #[.agg #[.int .i64 0, .int .i64 0, .slice none 0 0], .int .i64 (wrT W2 H2 n2)]) (by simp [results, Try.results27, go_sem]) rfl ⟨by rw [HT.out], (by repeat (first | exact Below.refl _ _ | refine Below.drew ?_ | refine below_drewN ?_ _ | refine Below.alloc ?_ (by first | exact Nat.le_refl _ | (simp; done) | (simp; omega) | omega) _ | refine Below.setCell ?_ (by first | exact Nat.le_refl _ | (simp; done) | (simp; omega) | omega) _ | refine bExtW ?_ (by first | exact Nat.le_refl _ | (simp; done) | (simp; omega) | omega) | refine Below.trans ?_ (Below.mono (by assumption) (by first | exact Nat.le_refl _ | (simp; done) | (simp; omega) | omega))))⟩
    · have h1 := q1.out (by omega)
      have h2 := q2.out (by omega)
      have hWH : W1 ≠ H2 := by
        intro e
        exact HE.out (by unfold prE; rw [if_neg (by simp [h1]), if_neg (by simp [h2]), if_neg (by simp [e])])
      have HT : Hid (prE W1 H1 n1 W2 H2 n2 = 8) := Lib.hid (by simp [prE, h1, h2, hWH])
      have hb : (W1 != H2) = true := by simpa using hWH
      clear h1 h2 hWH
      go_wp2
      refine bodyPost_ret (v := .tuple #[.agg #[.int .i64 0, .int .i64 0, .slice none 0 0], .int .i64 (8)]) (by simp [results, Try.results27, go_sem]) rfl ⟨by rw [HT.out], (by repeat (first | exact Below.refl _ _ | refine Below.drew ?_ | refine below_drewN ?_ _ | refine Below.alloc ?_ (by first | exact Nat.le_refl _ | (simp; done) | (simp; omega) | omega) _ | refine Below.setCell ?_ (by first | exact Nat.le_refl _ | (simp; done) | (simp; omega) | omega) _ | refine bExtW ?_ (by first | exact Nat.le_refl _ | (simp; done) | (simp; omega) | omega) | refine Below.trans ?_ (Below.mono (by assumption) (by first | exact Nat.le_refl _ | (simp; done) | (simp; omega) | omega))))⟩
end Go.Proofs.Ytkffljkgblcgdaa
