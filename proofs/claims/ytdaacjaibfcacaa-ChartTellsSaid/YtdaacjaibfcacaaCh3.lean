/- Charts: how a colour is written. -/
import Derived.Test.YtdaacjaibfcacaaCh2
namespace Go.Proofs.Ytdaacjaibfcacaa
open Go.RowKit
set_option linter.unusedVariables false
set_option linter.unusedSimpArgs false
/-- The letters of Greek without the second small sigma. -/
def skipK (n : Nat) : Nat := if 17 ≤ n then n + 1 else n
/-- The rune of a colour. -/
def signK (c : Nat) : Nat := if c = 0 then 183 else if c = 1 then 9608 else if c < 12 then 46 + c else if c < 36 then 945 + skipK (c - 12) else 61 + c
set_option maxRecDepth 100000 in
set_option maxHeartbeats 8000000 in
theorem skipped_ok (n : Nat) (w : World) (hn : n < 62) :
    Calls Try.prog 109 #[.int .i64 (n)] w fun e w' => e = .returned (.int .i64 (skipK n)) ∧ Below w.heap.size w w' := by
  have v1 : IntKind.i64.wrap ((n : Int) + 1) = (n : Int) + 1 := IntWalk.i64_in _ (by omega)
  by_cases h : 17 ≤ n
  · have hd : decide ((n : Int) ≥ 17) = true := by simp; omega
    have hk : (skipK n : Int) = n + 1 := by unfold skipK; rw [if_pos h]; rfl
    rw [hk]
    clear hk
    go_enter Try.func109, Try.ntmps109
    go_wp2
    go_ret
    exact ⟨rfl, (by repeat (first | exact Below.refl _ _ | refine Below.drew ?_ | refine below_drewN ?_ _ | refine Below.alloc ?_ (by first | exact Nat.le_refl _ | (simp; done) | (simp; omega) | omega) _ | refine Below.setCell ?_ (by first | exact Nat.le_refl _ | (simp; done) | (simp; omega) | omega) _ | refine bExtW ?_ (by first | exact Nat.le_refl _ | (simp; done) | (simp; omega) | omega) | refine Below.trans ?_ (Below.mono (by assumption) (by first | exact Nat.le_refl _ | (simp; done) | (simp; omega) | omega))))⟩
  · have hd : decide ((n : Int) ≥ 17) = false := by simp; omega
    have hk : (skipK n : Int) = n := by unfold skipK; rw [if_neg h]
    rw [hk]
    clear hk
    go_enter Try.func109, Try.ntmps109
    go_wp2
    go_ret
    exact ⟨rfl, (by repeat (first | exact Below.refl _ _ | refine Below.drew ?_ | refine below_drewN ?_ _ | refine Below.alloc ?_ (by first | exact Nat.le_refl _ | (simp; done) | (simp; omega) | omega) _ | refine Below.setCell ?_ (by first | exact Nat.le_refl _ | (simp; done) | (simp; omega) | omega) _ | refine bExtW ?_ (by first | exact Nat.le_refl _ | (simp; done) | (simp; omega) | omega) | refine Below.trans ?_ (Below.mono (by assumption) (by first | exact Nat.le_refl _ | (simp; done) | (simp; omega) | omega))))⟩
set_option maxRecDepth 100000 in
set_option maxHeartbeats 8000000 in
theorem sign_ok (c : Nat) (w : World) (hn : c < 62) :
    Calls Try.prog 69 #[.int .i64 (c)] w fun e w' => e = .returned (.int .i32 (signK c)) ∧ Below w.heap.size w w' := by
  by_cases h0 : c = 0
  · subst h0
    go_enter Try.func69, Try.ntmps69
    go_wp2
    go_ret
    exact ⟨rfl, (by repeat (first | exact Below.refl _ _ | refine Below.drew ?_ | refine below_drewN ?_ _ | refine Below.alloc ?_ (by first | exact Nat.le_refl _ | (simp; done) | (simp; omega) | omega) _ | refine Below.setCell ?_ (by first | exact Nat.le_refl _ | (simp; done) | (simp; omega) | omega) _ | refine bExtW ?_ (by first | exact Nat.le_refl _ | (simp; done) | (simp; omega) | omega) | refine Below.trans ?_ (Below.mono (by assumption) (by first | exact Nat.le_refl _ | (simp; done) | (simp; omega) | omega))))⟩
  have d0 : ((c : Int) == 0) = false := by simp; omega
  by_cases h1 : c = 1
  · subst h1
    go_enter Try.func69, Try.ntmps69
    go_wp2
    go_ret
    exact ⟨rfl, (by repeat (first | exact Below.refl _ _ | refine Below.drew ?_ | refine below_drewN ?_ _ | refine Below.alloc ?_ (by first | exact Nat.le_refl _ | (simp; done) | (simp; omega) | omega) _ | refine Below.setCell ?_ (by first | exact Nat.le_refl _ | (simp; done) | (simp; omega) | omega) _ | refine bExtW ?_ (by first | exact Nat.le_refl _ | (simp; done) | (simp; omega) | omega) | refine Below.trans ?_ (Below.mono (by assumption) (by first | exact Nat.le_refl _ | (simp; done) | (simp; omega) | omega))))⟩
  have d1 : ((c : Int) == 1) = false := by simp; omega
  by_cases h2 : c < 12
  · have d2 : decide ((c : Int) < 12) = true := by simp; omega
    have e : (signK c : Int) = 48 + c - 2 := by unfold signK; rw [if_neg h0, if_neg h1, if_pos h2]; omega
    have v1 : IntKind.i64.wrap (48 + (c : Int)) = 48 + c := IntWalk.i64_in _ (by omega)
    have v2 : IntKind.i64.wrap (48 + (c : Int) - 2) = 48 + c - 2 := IntWalk.i64_in _ (by omega)
    have v3 : IntKind.i32.wrap (48 + (c : Int) - 2) = 48 + c - 2 := IntWalk.i32_in _ (by omega)
    rw [e]
    clear e h0 h1 h2
    go_enter Try.func69, Try.ntmps69
    go_wp2
    go_ret
    exact ⟨rfl, (by repeat (first | exact Below.refl _ _ | refine Below.drew ?_ | refine below_drewN ?_ _ | refine Below.alloc ?_ (by first | exact Nat.le_refl _ | (simp; done) | (simp; omega) | omega) _ | refine Below.setCell ?_ (by first | exact Nat.le_refl _ | (simp; done) | (simp; omega) | omega) _ | refine bExtW ?_ (by first | exact Nat.le_refl _ | (simp; done) | (simp; omega) | omega) | refine Below.trans ?_ (Below.mono (by assumption) (by first | exact Nat.le_refl _ | (simp; done) | (simp; omega) | omega))))⟩
  have d2 : decide ((c : Int) < 12) = false := by simp; omega
  by_cases h3 : c < 36
  · have d3 : decide ((c : Int) < 36) = true := by simp; omega
    obtain ⟨k, rfl⟩ : ∃ k, c = k + 12 := ⟨c - 12, by omega⟩
    have hk : skipK k ≤ 24 := by unfold skipK; split <;> omega
    have HS := Lib.hid (fun w => skipped_ok k w (by omega))
    have e : (signK (k + 12) : Int) = 945 + skipK k := by unfold signK; rw [if_neg h0, if_neg h1, if_neg h2, if_pos h3, Nat.add_sub_cancel]; push_cast; rfl
    obtain ⟨s, hs⟩ : ∃ s, skipK k = s := ⟨_, rfl⟩
    rw [hs] at e hk HS
    have v0 : IntKind.i64.wrap (((k + 12 : Nat) : Int) - 12) = (k : Int) := by rw [IntWalk.i64_in _ (by omega)]; omega
    have v1 : IntKind.i64.wrap (945 + (s : Int)) = 945 + s := IntWalk.i64_in _ (by omega)
    have v3 : IntKind.i32.wrap (945 + (s : Int)) = 945 + s := IntWalk.i32_in _ (by omega)
    rw [e]
    clear e h0 h1 h2 hs
    generalize ((k + 12 : Nat) : Int) = C at *
    go_enter Try.func69, Try.ntmps69
    (go_wp2_with fail; refine (HS.out _).mono ?_; rintro r w1 ⟨rfl, hb⟩; obtain ⟨E, d, rfl⟩ := bExt hb; clear hb)
    go_wp2
    go_ret
    exact ⟨rfl, (by repeat (first | exact Below.refl _ _ | refine Below.drew ?_ | refine below_drewN ?_ _ | refine Below.alloc ?_ (by first | exact Nat.le_refl _ | (simp; done) | (simp; omega) | omega) _ | refine Below.setCell ?_ (by first | exact Nat.le_refl _ | (simp; done) | (simp; omega) | omega) _ | refine bExtW ?_ (by first | exact Nat.le_refl _ | (simp; done) | (simp; omega) | omega) | refine Below.trans ?_ (Below.mono (by assumption) (by first | exact Nat.le_refl _ | (simp; done) | (simp; omega) | omega))))⟩
  · have d3 : decide ((c : Int) < 36) = false := by simp; omega
    have e : (signK c : Int) = 97 + c - 36 := by unfold signK; rw [if_neg h0, if_neg h1, if_neg h2, if_neg h3]; omega
    have v1 : IntKind.i64.wrap (97 + (c : Int)) = 97 + c := IntWalk.i64_in _ (by omega)
    have v2 : IntKind.i64.wrap (97 + (c : Int) - 36) = 97 + c - 36 := IntWalk.i64_in _ (by omega)
    have v3 : IntKind.i32.wrap (97 + (c : Int) - 36) = 97 + c - 36 := IntWalk.i32_in _ (by omega)
    rw [e]
    clear e h0 h1 h2 h3
    go_enter Try.func69, Try.ntmps69
    go_wp2
    go_ret
    exact ⟨rfl, (by repeat (first | exact Below.refl _ _ | refine Below.drew ?_ | refine below_drewN ?_ _ | refine Below.alloc ?_ (by first | exact Nat.le_refl _ | (simp; done) | (simp; omega) | omega) _ | refine Below.setCell ?_ (by first | exact Nat.le_refl _ | (simp; done) | (simp; omega) | omega) _ | refine bExtW ?_ (by first | exact Nat.le_refl _ | (simp; done) | (simp; omega) | omega) | refine Below.trans ?_ (Below.mono (by assumption) (by first | exact Nat.le_refl _ | (simp; done) | (simp; omega) | omega))))⟩
end Go.Proofs.Ytdaacjaibfcacaa
