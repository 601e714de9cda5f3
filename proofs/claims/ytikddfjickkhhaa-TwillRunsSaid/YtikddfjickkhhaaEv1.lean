/- Lemmas and contracts of functions (what each call returns, and that it changes nothing that was there) that the proof of a law of this seat uses; each lemma states its own conditions. -/
import Derived.Test.YtikddfjickkhhaaQ3
namespace Go.Proofs.Ytikddfjickkhhaa
open Go.RowKit
set_option linter.unusedVariables false
set_option linter.unusedSimpArgs false
open Lo
open Go.Shelf
attribute [local go_sem] Oper.semAt_some
/-- How many of the first k hold. -/
def cn (f : Nat → Bool) : Nat → Nat
  | 0 => 0
  | k + 1 => cn f k + (if f k then 1 else 0)
theorem cn_le (f : Nat → Bool) (k : Nat) : cn f k ≤ k := by
  induction k with
  | zero => simp [cn]
  | succ k ih => unfold cn; split <;> omega
def rb (bs : List Bool) (W y x : Nat) : Bool := bs.getD (y * W + x) false
def evL (W H : Nat) (bs : List Bool) : Bool := decide (∀ y, y < H → cn (rb bs W y) W = cn (rb bs W 0) W)
def fstV (bs : List Bool) (W y : Nat) : Int := if y = 0 then -1 else (cn (rb bs W 0) W : Nat)
set_option maxRecDepth 100000 in
set_option maxHeartbeats 8000000 in
theorem even_ok (W H n : Nat) (hn : n = W * H) (a : Option Addr) (c : Nat) (bs : List Bool) (w : World) (hT : OkT w a n c bs) (hW : W ≤ 64) (hH : H ≤ 64) :
    Calls Try.prog 70 #[.agg #[.int .i64 (W), .int .i64 (H), .slice a n c]] w fun e w' => e = .returned (.bool (evL W H bs)) ∧ Below w.heap.size w w' := by
  have hn4 : n ≤ 4096 := by rw [hn]; exact mul64n hW hH
  have HN := Lib.hid hn
  have HT := Lib.hid (hT.below (show Below w.heap.size w (w.alloc (.cells #[.int .i64 (W), .int .i64 (H), .slice a n c] 26)) from (by repeat (first | exact Below.refl _ _ | refine Below.drew ?_ | refine below_drewN ?_ _ | refine Below.alloc ?_ (by first | exact Nat.le_refl _ | (simp; done) | (simp; omega) | omega) _ | refine Below.setCell ?_ (by first | exact Nat.le_refl _ | (simp; done) | (simp; omega) | omega) _ | refine bExtW ?_ (by first | exact Nat.le_refl _ | (simp; done) | (simp; omega) | omega) | refine Below.trans ?_ (Below.mono (by assumption) (by first | exact Nat.le_refl _ | (simp; done) | (simp; omega) | omega))))))
  have hcap := hT.cap
  have hlim := hT.lim
  have HEV : Hid (evL W H bs = decide (∀ y, y < H → cn (rb bs W y) W = cn (rb bs W 0) W)) := Lib.hid rfl
  clear hT hn
  go_enter Try.func70, Try.ntmps70
  go_wp2_with fail
  go_loopw [3, 10] (fun f i wr => ∃ y : Nat, y ≤ H ∧ f = .int .i64 (fstV bs W y) ∧ i = .int .i64 y ∧ (∀ j, j < y → cn (rb bs W j) W = cn (rb bs W 0) W) ∧ wr = (w.alloc (.cells #[.int .i64 (W), .int .i64 (H), .slice a n c] 26))) (fun _ i _ => H - (intOf i).toNat)
  case atStart => exact ⟨0, Nat.zero_le _, rfl, rfl, fun j h => absurd h (by omega), rfl⟩
  case round =>
    obtain ⟨y, hy, rfl, rfl, hrun, rfl⟩ := hrel
    have HRUN := Lib.hid hrun
    clear hrun
    by_cases hyH : y < H
    · obtain ⟨A, cc, hrv, hrow⟩ := rowV_bools (a := a) (bs := bs) hcap HN.out hyH
      obtain ⟨M, hM⟩ : ∃ M, y * W = M := ⟨_, rfl⟩
      have hM2 : (y + 1) * W = M + W := by rw [Nat.add_mul, Nat.one_mul, hM]
      have hle : M + W ≤ n := by rw [← hM2, HN.out, Nat.mul_comm]; exact Nat.mul_le_mul_left W (by omega)
      have hmul : (y : Int) * (W : Int) = (M : Int) := by rw [← Int.natCast_mul, hM]
      have hmul2 : ((y : Int) + 1) * (W : Int) = (M : Int) + (W : Int) := by rw [Int.add_mul, Int.one_mul, hmul]
      have hsl : ∀ wx, (Instr.slice 24 (.slice a n c) (some (.int .i64 (M))) (some (.int .i64 (M+W))) none).run Try.prog wx = .ok (.slice A W cc) wx := by
        intro wx
        have h1 := run_slice_lh (P := Try.prog) wx 24 a n c (by kernel_rfl) .i64 .i64 (M : Int) ((M : Int) + (W : Int)) (by omega) (by omega) (by omega)
        rw [h1]
        have e1 : ((M : Int)).toNat = M := by omega
        have e2 : (((M : Int) + (W : Int))).toNat = M + W := by omega
        rw [e1, e2]
        have hsz : (sizeOf (Try.prog.elem 24)).run Try.prog wx = .ok 1 wx := by go_simp
        rw [hsz, ← hrv]
        simp only [Result.andThen, sliced, rowV, hM, Nat.mul_one, show M + W - M = W by omega]
      have HR := Lib.hid (hrow _ HT.out)
      clear hM hM2 hrv hrow
      go_wp2_with fail
      go_loopw [5, 26] (fun u i wr => ∃ x : Nat, x ≤ W ∧ u = .int .i64 (cn (rb bs W y) x) ∧ i = .int .i64 x ∧ wr = (w.alloc (.cells #[.int .i64 (W), .int .i64 (H), .slice a n c] 26))) (fun _ i _ => W - (intOf i).toNat)
      case atStart => exact ⟨0, Nat.zero_le _, rfl, rfl, rfl⟩
      case round =>
        obtain ⟨x, hx, rfl, rfl, rfl⟩ := hrel
        have hkx := cn_le (rb bs W y) x
        by_cases hxW : x < W
        · obtain ⟨b, o, rfl, hb, hc⟩ := HR.out.bits.2 (by omega)
          have cb := hc x hxW
          rw [rowL_get bs hxW] at cb
          have HST : Hid (cn (rb bs W y) (x+1) = cn (rb bs W y) x + if bs.getD (y*W+x) false then 1 else 0) := Lib.hid rfl
          clear hc hsl
          generalize cn (rb bs W y) x = k at *
          generalize bs.getD (y * W + x) false = bit at *
          cases bit with
          | true =>
            go_wp2
            go_roundw
            case rel => exact ⟨x + 1, by omega, by rw [HST.out]; go_num, by go_num, trivial⟩
            case measure => simp [intOf]; omega
          | false =>
            go_wp2
            go_roundw
            case rel => exact ⟨x + 1, by omega, by rw [HST.out]; rfl, by go_num, trivial⟩
            case measure => simp [intOf]; omega
        · obtain rfl : W = x := by omega
          clear hsl
          by_cases hy0 : y = 0
          · subst hy0
            rw [show fstV bs W 0 = -1 from rfl]
            obtain ⟨k, hk⟩ : ∃ k, cn (rb bs W 0) W = k := ⟨_, rfl⟩
            rw [hk] at hkx ⊢
            have HK := Lib.hid hk
            clear hk
            go_wp2
            go_roundw
            case rel => exact ⟨1, by omega, by rw [show fstV bs W 1 = ((cn (rb bs W 0) W : Nat) : Int) from rfl, HK.out], by go_num, fun j hj => by
              obtain rfl : j = 0 := by omega
              rfl, trivial⟩
            case measure => simp [intOf]; omega
          · obtain ⟨k0, hk0⟩ : ∃ k, cn (rb bs W 0) W = k := ⟨_, rfl⟩
            obtain ⟨k, hk⟩ : ∃ k, cn (rb bs W y) W = k := ⟨_, rfl⟩
            rw [show fstV bs W y = ((k0 : Nat) : Int) by unfold fstV; rw [if_neg hy0, hk0]]
            rw [hk] at hkx ⊢
            have HK0 := Lib.hid hk0
            have HK := Lib.hid hk
            have hd : decide ((k0 : Int) < 0) = false := by simp
            clear hk hk0
            by_cases hkk : k = k0
            · have hd2 : ((k : Int) == (k0 : Int)) = true := by simp [hkk]
              have HKK := Lib.hid hkk
              clear hkk
              go_wp2
              go_roundw
              case rel => exact ⟨y + 1, by omega, by unfold fstV; rw [if_neg (by omega), HK0.out], by go_num, fun j hj => by
                rcases Nat.lt_or_ge j y with h | h
                · exact HRUN.out j h
                · obtain rfl : j = y := by omega
                  rw [HK.out, HK0.out, HKK.out], trivial⟩
              case measure => simp [intOf]; omega
            · have hd2 : ((k : Int) == (k0 : Int)) = false := by simp; omega
              have HNE : Hid (¬ ∀ y, y < H → cn (rb bs W y) W = cn (rb bs W 0) W) := Lib.hid fun h => hkk (by rw [← HK.out, ← HK0.out]; exact h y hyH)
              clear hkk
              go_wp2
              go_ret
              exact ⟨by rw [HEV.out, decide_eq_false HNE.out]; rfl, (by repeat (first | exact Below.refl _ _ | refine Below.drew ?_ | refine below_drewN ?_ _ | refine Below.alloc ?_ (by first | exact Nat.le_refl _ | (simp; done) | (simp; omega) | omega) _ | refine Below.setCell ?_ (by first | exact Nat.le_refl _ | (simp; done) | (simp; omega) | omega) _ | refine bExtW ?_ (by first | exact Nat.le_refl _ | (simp; done) | (simp; omega) | omega) | refine Below.trans ?_ (Below.mono (by assumption) (by first | exact Nat.le_refl _ | (simp; done) | (simp; omega) | omega))))⟩
    · obtain rfl : H = y := by omega
      go_wp2
      go_ret
      exact ⟨by rw [HEV.out, decide_eq_true HRUN.out]; rfl, (by repeat (first | exact Below.refl _ _ | refine Below.drew ?_ | refine below_drewN ?_ _ | refine Below.alloc ?_ (by first | exact Nat.le_refl _ | (simp; done) | (simp; omega) | omega) _ | refine Below.setCell ?_ (by first | exact Nat.le_refl _ | (simp; done) | (simp; omega) | omega) _ | refine bExtW ?_ (by first | exact Nat.le_refl _ | (simp; done) | (simp; omega) | omega) | refine Below.trans ?_ (Below.mono (by assumption) (by first | exact Nat.le_refl _ | (simp; done) | (simp; omega) | omega))))⟩
end Go.Proofs.Ytikddfjickkhhaa
