/- Lemmas and contracts of functions (what each call returns, and that it changes nothing that was there) that the proof of a law of this seat uses; each lemma states its own conditions. -/
import Derived.Test.YtikddfjickkhhaaCl1
import Derived.Test.YtikddfjickkhhaaClF
namespace Go.Proofs.Ytikddfjickkhhaa
open Go.RowKit
set_option linter.unusedVariables false
set_option linter.unusedSimpArgs false
open Cl
set_option maxRecDepth 100000 in
set_option maxHeartbeats 8000000 in
theorem lies_any (W H : Nat) (a : Option Addr) (n c : Nat) (bs : List Bool) (w : World) (h : IsBools w a n bs) (h1 : W ≤ 64) (h2 : H ≤ 64) (hn : n = W * H) (i j : Nat) (hi : i < W + H) (hj : j < W + H) :
    Calls Try.prog 60 #[.agg #[.int .i64 (W), .int .i64 (H), .slice a n c], .int .i64 (i), .int .i64 (j)] w fun e w' => e = .returned (.bool (abM W H bs i j)) ∧ Below w.heap.size w w' := by
  obtain ⟨hl, hb⟩ := h
  have hn4 : n ≤ 4096 := by rw [hn]; exact Nat.le_trans (Nat.mul_le_mul h1 h2) (by omega)
  by_cases hiw : i < W
  · by_cases hjw : W ≤ j
    · have hp := place_lt (W := W) (H := H) (x := i) (y := j - W) hiw (by omega)
      obtain ⟨m, hm⟩ : ∃ m, (j - W) * W = m := ⟨_, rfl⟩
      rw [← hn, hm] at hp
      have hmul : ((j : Int) - (W : Int)) * (W : Int) = (m : Int) := by
        have e : ((j - W : Nat) : Int) = (j : Int) - W := by omega
        rw [← e, ← Int.natCast_mul, hm]
      obtain ⟨b, o, rfl, hbl, hc⟩ := hb (by omega)
      have lb : LtW b w := hbl
      have c3 := hc (m + i) hp
      have hT : abM W H bs i j = bs.getD (m + i) false := by unfold abM; rw [if_pos ⟨hiw, hjw, hj⟩, hm]
      have HT := Lib.hid hT
      have HN := Lib.hid hn
      clear hT hn hc hb hm hl
      generalize bs.getD (m + i) false = v at *
      go_enter Try.func60, Try.ntmps60
      go_wp2
      go_ret
      exact ⟨by rw [HT.out]; rfl, (by repeat (first | exact Below.refl _ _ | refine Below.drew ?_ | refine below_drewN ?_ _ | refine Below.alloc ?_ (by first | exact Nat.le_refl _ | (simp; done) | (simp; omega) | omega) _ | refine Below.setCell ?_ (by first | exact Nat.le_refl _ | (simp; done) | (simp; omega) | omega) _ | refine bExtW ?_ (by first | exact Nat.le_refl _ | (simp; done) | (simp; omega) | omega) | refine Below.trans ?_ (Below.mono (by assumption) (by first | exact Nat.le_refl _ | (simp; done) | (simp; omega) | omega))))⟩
    · have hT : abM W H bs i j = false := by unfold abM; rw [if_neg (by omega), if_neg (by omega)]
      have HT := Lib.hid hT
      have HN := Lib.hid hn
      clear hT hn hb hl
      go_enter Try.func60, Try.ntmps60
      go_wp2
      go_ret
      exact ⟨by rw [HT.out]; rfl, (by repeat (first | exact Below.refl _ _ | refine Below.drew ?_ | refine below_drewN ?_ _ | refine Below.alloc ?_ (by first | exact Nat.le_refl _ | (simp; done) | (simp; omega) | omega) _ | refine Below.setCell ?_ (by first | exact Nat.le_refl _ | (simp; done) | (simp; omega) | omega) _ | refine bExtW ?_ (by first | exact Nat.le_refl _ | (simp; done) | (simp; omega) | omega) | refine Below.trans ?_ (Below.mono (by assumption) (by first | exact Nat.le_refl _ | (simp; done) | (simp; omega) | omega))))⟩
  · by_cases hjw : W ≤ j
    · have hT : abM W H bs i j = false := by unfold abM; rw [if_neg (by omega), if_neg (by omega)]
      have HT := Lib.hid hT
      have HN := Lib.hid hn
      clear hT hn hb hl
      go_enter Try.func60, Try.ntmps60
      go_wp2
      go_ret
      exact ⟨by rw [HT.out]; rfl, (by repeat (first | exact Below.refl _ _ | refine Below.drew ?_ | refine below_drewN ?_ _ | refine Below.alloc ?_ (by first | exact Nat.le_refl _ | (simp; done) | (simp; omega) | omega) _ | refine Below.setCell ?_ (by first | exact Nat.le_refl _ | (simp; done) | (simp; omega) | omega) _ | refine bExtW ?_ (by first | exact Nat.le_refl _ | (simp; done) | (simp; omega) | omega) | refine Below.trans ?_ (Below.mono (by assumption) (by first | exact Nat.le_refl _ | (simp; done) | (simp; omega) | omega))))⟩
    · have hp := place_lt (W := W) (H := H) (x := j) (y := i - W) (by omega) (by omega)
      have hiw' : W ≤ i := by omega
      obtain ⟨m, hm⟩ : ∃ m, (i - W) * W = m := ⟨_, rfl⟩
      rw [← hn, hm] at hp
      have hmul : ((i : Int) - (W : Int)) * (W : Int) = (m : Int) := by
        have e : ((i - W : Nat) : Int) = (i : Int) - W := by omega
        rw [← e, ← Int.natCast_mul, hm]
      obtain ⟨b, o, rfl, hbl, hc⟩ := hb (by omega)
      have lb : LtW b w := hbl
      have c3 := hc (m + j) hp
      have hT : abM W H bs i j = !bs.getD (m + j) false := by unfold abM; rw [if_neg (by omega), if_pos ⟨by omega, hi, by omega⟩, hm]
      have HT := Lib.hid hT
      have HN := Lib.hid hn
      clear hT hn hc hb hm hl
      generalize bs.getD (m + j) false = v at *
      go_enter Try.func60, Try.ntmps60
      go_wp2
      go_ret
      exact ⟨by rw [HT.out]; rfl, (by repeat (first | exact Below.refl _ _ | refine Below.drew ?_ | refine below_drewN ?_ _ | refine Below.alloc ?_ (by first | exact Nat.le_refl _ | (simp; done) | (simp; omega) | omega) _ | refine Below.setCell ?_ (by first | exact Nat.le_refl _ | (simp; done) | (simp; omega) | omega) _ | refine bExtW ?_ (by first | exact Nat.le_refl _ | (simp; done) | (simp; omega) | omega) | refine Below.trans ?_ (Below.mono (by assumption) (by first | exact Nat.le_refl _ | (simp; done) | (simp; omega) | omega))))⟩
end Go.Proofs.Ytikddfjickkhhaa
