/- Chapter 10: the document's answer: in which states an event may come; what it does. -/
import Derived.Test.YtefmlepogpjhmaaLm12
namespace Go.Proofs.Ytefmlepogpjhmaa
open Go.RowKit
set_option linter.unusedVariables false
set_option linter.unusedSimpArgs false
open Lm
def allowL (ev : Int) : List Int := if ev = 1 then [0] else if ev = 2 then [1] else if ev = 3 then [2] else if ev = 4 then [2] else if ev = 5 then [3] else if ev = 6 then [4] else if ev = 7 then [1, 2, 3, 4] else [5]
theorem allow_may {ev : Int} {a : Nat} (h : 1 ≤ ev ∧ ev ≤ 9) : (allowL ev).any (fun x => x == (a : Int)) = may ev a := by
  have hc : ev = 1 ∨ ev = 2 ∨ ev = 3 ∨ ev = 4 ∨ ev = 5 ∨ ev = 6 ∨ ev = 7 ∨ ev = 8 ∨ ev = 9 := by omega
  have e : ∀ k : Nat, (((k : Nat) : Int) == (a : Int)) = (a == k) := fun k => by
    rw [Bool.eq_iff_iff]; simp; omega
  have e0 := e 0; have e1 := e 1; have e2 := e 2; have e3 := e 3; have e4 := e 4; have e5 := e 5
  rcases hc with rfl | rfl | rfl | rfl | rfl | rfl | rfl | rfl | rfl <;> simp_all [allowL, may, Bool.or_assoc]
def AllowPost (ev : Int) (w : World) (e : Ending) (w' : World) : Prop := ∃ A n c, e = .returned (.slice A n c) ∧ IsInts w' A n (allowL ev) ∧ Below w.heap.size w w'
set_option maxRecDepth 100000 in
set_option maxHeartbeats 8000000 in
theorem Allowed_ok (ev : Int) (w : World) (h : 1 ≤ ev ∧ ev ≤ 9) : Calls Try.prog 19 #[.int .i64 (ev)] w (AllowPost ev w) := by
  have hc : ev = 1 ∨ ev = 2 ∨ ev = 3 ∨ ev = 4 ∨ ev = 5 ∨ ev = 6 ∨ ev = 7 ∨ ev = 8 ∨ ev = 9 := by omega
  clear h
  rcases hc with rfl | rfl | rfl | rfl | rfl | rfl | rfl | rfl | rfl
  · skip
    go_enter Try.func19, Try.ntmps19
    go_wp2
    go_ret
    refine ⟨_, _, _, rfl, ⟨rfl, fun _ => ⟨_, 0, rfl, ?_, fun j hj => ?_⟩⟩, (by repeat (first | exact Below.refl _ _ | refine Below.drew ?_ | refine below_drewN ?_ _ | refine Below.alloc ?_ (by first | exact Nat.le_refl _ | (simp; done) | (simp; omega) | omega) _ | refine Below.setCell ?_ (by first | exact Nat.le_refl _ | (simp; done) | (simp; omega) | omega) _ | refine bExtW ?_ (by first | exact Nat.le_refl _ | (simp; done) | (simp; omega) | omega) | refine Below.trans ?_ (Below.mono (by assumption) (by first | exact Nat.le_refl _ | (simp; done) | (simp; omega) | omega))))⟩
    · first | (simp; done) | (simp; omega)
    · have hj0 : j = 0 := by omega
      subst hj0
      simp [go_sem, allowL]
  · skip
    go_enter Try.func19, Try.ntmps19
    go_wp2
    go_ret
    refine ⟨_, _, _, rfl, ⟨rfl, fun _ => ⟨_, 0, rfl, ?_, fun j hj => ?_⟩⟩, (by repeat (first | exact Below.refl _ _ | refine Below.drew ?_ | refine below_drewN ?_ _ | refine Below.alloc ?_ (by first | exact Nat.le_refl _ | (simp; done) | (simp; omega) | omega) _ | refine Below.setCell ?_ (by first | exact Nat.le_refl _ | (simp; done) | (simp; omega) | omega) _ | refine bExtW ?_ (by first | exact Nat.le_refl _ | (simp; done) | (simp; omega) | omega) | refine Below.trans ?_ (Below.mono (by assumption) (by first | exact Nat.le_refl _ | (simp; done) | (simp; omega) | omega))))⟩
    · first | (simp; done) | (simp; omega)
    · have hj0 : j = 0 := by omega
      subst hj0
      simp [go_sem, allowL]
  · skip
    go_enter Try.func19, Try.ntmps19
    go_wp2
    go_ret
    refine ⟨_, _, _, rfl, ⟨rfl, fun _ => ⟨_, 0, rfl, ?_, fun j hj => ?_⟩⟩, (by repeat (first | exact Below.refl _ _ | refine Below.drew ?_ | refine below_drewN ?_ _ | refine Below.alloc ?_ (by first | exact Nat.le_refl _ | (simp; done) | (simp; omega) | omega) _ | refine Below.setCell ?_ (by first | exact Nat.le_refl _ | (simp; done) | (simp; omega) | omega) _ | refine bExtW ?_ (by first | exact Nat.le_refl _ | (simp; done) | (simp; omega) | omega) | refine Below.trans ?_ (Below.mono (by assumption) (by first | exact Nat.le_refl _ | (simp; done) | (simp; omega) | omega))))⟩
    · first | (simp; done) | (simp; omega)
    · have hj0 : j = 0 := by omega
      subst hj0
      simp [go_sem, allowL]
  · skip
    go_enter Try.func19, Try.ntmps19
    go_wp2
    go_ret
    refine ⟨_, _, _, rfl, ⟨rfl, fun _ => ⟨_, 0, rfl, ?_, fun j hj => ?_⟩⟩, (by repeat (first | exact Below.refl _ _ | refine Below.drew ?_ | refine below_drewN ?_ _ | refine Below.alloc ?_ (by first | exact Nat.le_refl _ | (simp; done) | (simp; omega) | omega) _ | refine Below.setCell ?_ (by first | exact Nat.le_refl _ | (simp; done) | (simp; omega) | omega) _ | refine bExtW ?_ (by first | exact Nat.le_refl _ | (simp; done) | (simp; omega) | omega) | refine Below.trans ?_ (Below.mono (by assumption) (by first | exact Nat.le_refl _ | (simp; done) | (simp; omega) | omega))))⟩
    · first | (simp; done) | (simp; omega)
    · have hj0 : j = 0 := by omega
      subst hj0
      simp [go_sem, allowL]
  · skip
    go_enter Try.func19, Try.ntmps19
    go_wp2
    go_ret
    refine ⟨_, _, _, rfl, ⟨rfl, fun _ => ⟨_, 0, rfl, ?_, fun j hj => ?_⟩⟩, (by repeat (first | exact Below.refl _ _ | refine Below.drew ?_ | refine below_drewN ?_ _ | refine Below.alloc ?_ (by first | exact Nat.le_refl _ | (simp; done) | (simp; omega) | omega) _ | refine Below.setCell ?_ (by first | exact Nat.le_refl _ | (simp; done) | (simp; omega) | omega) _ | refine bExtW ?_ (by first | exact Nat.le_refl _ | (simp; done) | (simp; omega) | omega) | refine Below.trans ?_ (Below.mono (by assumption) (by first | exact Nat.le_refl _ | (simp; done) | (simp; omega) | omega))))⟩
    · first | (simp; done) | (simp; omega)
    · have hj0 : j = 0 := by omega
      subst hj0
      simp [go_sem, allowL]
  · skip
    go_enter Try.func19, Try.ntmps19
    go_wp2
    go_ret
    refine ⟨_, _, _, rfl, ⟨rfl, fun _ => ⟨_, 0, rfl, ?_, fun j hj => ?_⟩⟩, (by repeat (first | exact Below.refl _ _ | refine Below.drew ?_ | refine below_drewN ?_ _ | refine Below.alloc ?_ (by first | exact Nat.le_refl _ | (simp; done) | (simp; omega) | omega) _ | refine Below.setCell ?_ (by first | exact Nat.le_refl _ | (simp; done) | (simp; omega) | omega) _ | refine bExtW ?_ (by first | exact Nat.le_refl _ | (simp; done) | (simp; omega) | omega) | refine Below.trans ?_ (Below.mono (by assumption) (by first | exact Nat.le_refl _ | (simp; done) | (simp; omega) | omega))))⟩
    · first | (simp; done) | (simp; omega)
    · have hj0 : j = 0 := by omega
      subst hj0
      simp [go_sem, allowL]
  · go_enter Try.func19, Try.ntmps19
    go_wp2
    go_ret
    refine ⟨_, _, _, rfl, ⟨rfl, fun _ => ⟨_, 0, rfl, ?_, fun j hj => ?_⟩⟩, (by repeat (first | exact Below.refl _ _ | refine Below.drew ?_ | refine below_drewN ?_ _ | refine Below.alloc ?_ (by first | exact Nat.le_refl _ | (simp; done) | (simp; omega) | omega) _ | refine Below.setCell ?_ (by first | exact Nat.le_refl _ | (simp; done) | (simp; omega) | omega) _ | refine bExtW ?_ (by first | exact Nat.le_refl _ | (simp; done) | (simp; omega) | omega) | refine Below.trans ?_ (Below.mono (by assumption) (by first | exact Nat.le_refl _ | (simp; done) | (simp; omega) | omega))))⟩
    · first | (simp; done) | (simp; omega)
    · have hj0 : j = 0 ∨ j = 1 ∨ j = 2 ∨ j = 3 := by omega
      rcases hj0 with rfl | rfl | rfl | rfl <;> simp [go_sem, allowL]
  · skip
    go_enter Try.func19, Try.ntmps19
    go_wp2
    go_ret
    refine ⟨_, _, _, rfl, ⟨rfl, fun _ => ⟨_, 0, rfl, ?_, fun j hj => ?_⟩⟩, (by repeat (first | exact Below.refl _ _ | refine Below.drew ?_ | refine below_drewN ?_ _ | refine Below.alloc ?_ (by first | exact Nat.le_refl _ | (simp; done) | (simp; omega) | omega) _ | refine Below.setCell ?_ (by first | exact Nat.le_refl _ | (simp; done) | (simp; omega) | omega) _ | refine bExtW ?_ (by first | exact Nat.le_refl _ | (simp; done) | (simp; omega) | omega) | refine Below.trans ?_ (Below.mono (by assumption) (by first | exact Nat.le_refl _ | (simp; done) | (simp; omega) | omega))))⟩
    · first | (simp; done) | (simp; omega)
    · have hj0 : j = 0 := by omega
      subst hj0
      simp [go_sem, allowL]
  · skip
    go_enter Try.func19, Try.ntmps19
    go_wp2
    go_ret
    refine ⟨_, _, _, rfl, ⟨rfl, fun _ => ⟨_, 0, rfl, ?_, fun j hj => ?_⟩⟩, (by repeat (first | exact Below.refl _ _ | refine Below.drew ?_ | refine below_drewN ?_ _ | refine Below.alloc ?_ (by first | exact Nat.le_refl _ | (simp; done) | (simp; omega) | omega) _ | refine Below.setCell ?_ (by first | exact Nat.le_refl _ | (simp; done) | (simp; omega) | omega) _ | refine bExtW ?_ (by first | exact Nat.le_refl _ | (simp; done) | (simp; omega) | omega) | refine Below.trans ?_ (Below.mono (by assumption) (by first | exact Nat.le_refl _ | (simp; done) | (simp; omega) | omega))))⟩
    · first | (simp; done) | (simp; omega)
    · have hj0 : j = 0 := by omega
      subst hj0
      simp [go_sem, allowL]
end Go.Proofs.Ytefmlepogpjhmaa
