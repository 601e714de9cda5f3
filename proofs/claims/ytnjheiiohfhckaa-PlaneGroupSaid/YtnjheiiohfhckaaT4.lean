/- Lemmas and contracts of functions (what each call returns, and that it changes nothing that was there) that the proof of a law of this seat uses; each lemma states its own conditions. -/
import Derived.Test.YtnjheiiohfhckaaT3
import Derived.Test.YtnjheiiohfhckaaExt
namespace Go.Proofs.Ytnjheiiohfhckaa
open Go.RowKit
set_option linter.unusedVariables false
set_option linter.unusedSimpArgs false
theorem two_cells {W : World} {b : Nat} {x y x2 y2 : Int} (h0 : W.cell? ⟨b, 0, none⟩ = some (.int .i64 (x))) (h1 : W.cell? ⟨b, 1, none⟩ = some (.int .i64 (y))) (h2 : W.cell? ⟨b, 2, none⟩ = some (.int .i64 (x2))) (h3 : W.cell? ⟨b, 3, none⟩ = some (.int .i64 (y2))) :
  ∀ i, i < 2 → W.cell? ⟨b, i * 2, none⟩ = some (.int .i64 (([(x,y),(x2,y2)].getD i (0,0)).1)) ∧ W.cell? ⟨b, i * 2 + 1, none⟩ = some (.int .i64 (([(x,y),(x2,y2)].getD i (0,0)).2)) := by
  intro i hi
  have : i = 0 ∨ i = 1 := by omega
  rcases this with rfl | rfl
  · exact ⟨h0, h1⟩
  · exact ⟨h2, h3⟩
theorem one_cells {W : World} {b : Nat} {x y : Int} (h0 : W.cell? ⟨b, 0, none⟩ = some (.int .i64 (x))) (h1 : W.cell? ⟨b, 1, none⟩ = some (.int .i64 (y))) :
  ∀ i, i < 1 → W.cell? ⟨b, i * 2, none⟩ = some (.int .i64 (([(x,y)].getD i (0,0)).1)) ∧ W.cell? ⟨b, i * 2 + 1, none⟩ = some (.int .i64 (([(x,y)].getD i (0,0)).2)) := by
  intro i hi
  have : i = 0 := by omega
  subst this
  exact ⟨h0, h1⟩
theorem two_wf {x y x2 y2 : Int} (h0 : (-9223372036854775808 ≤ x ∧ x ≤ 9223372036854775807)) (h1 : (-9223372036854775808 ≤ y ∧ y ≤ 9223372036854775807)) (h2 : (-9223372036854775808 ≤ x2 ∧ x2 ≤ 9223372036854775807)) (h3 : (-9223372036854775808 ≤ y2 ∧ y2 ≤ 9223372036854775807)) : ∀ i, i < 2 → ((-9223372036854775808 ≤ ([(x,y),(x2,y2)].getD i (0,0)).1 ∧ ([(x,y),(x2,y2)].getD i (0,0)).1 ≤ 9223372036854775807)) ∧ ((-9223372036854775808 ≤ ([(x,y),(x2,y2)].getD i (0,0)).2 ∧ ([(x,y),(x2,y2)].getD i (0,0)).2 ≤ 9223372036854775807)) := by
  intro i hi
  have : i = 0 ∨ i = 1 := by omega
  rcases this with rfl | rfl
  · exact ⟨h0, h1⟩
  · exact ⟨h2, h3⟩
theorem one_wf {x y : Int} (h0 : (-9223372036854775808 ≤ x ∧ x ≤ 9223372036854775807)) (h1 : (-9223372036854775808 ≤ y ∧ y ≤ 9223372036854775807)) : ∀ i, i < 1 → ((-9223372036854775808 ≤ ([(x,y)].getD i (0,0)).1 ∧ ([(x,y)].getD i (0,0)).1 ≤ 9223372036854775807)) ∧ ((-9223372036854775808 ≤ ([(x,y)].getD i (0,0)).2 ∧ ([(x,y)].getD i (0,0)).2 ≤ 9223372036854775807)) := by
  intro i hi
  have : i = 0 := by omega
  subst this
  exact ⟨h0, h1⟩

def tdX (x y : Int) : Int := if smB x y = true then x else 0
def tdY (x y : Int) : Int := if smB x y = true then y else 0
def tdE (x y : Int) : Int := if smB x y = true then 0 else 4
set_option maxHeartbeats 400000 in
theorem told_any (x y : Int) (w : World) (h0 : (-9223372036854775808 ≤ x ∧ x ≤ 9223372036854775807)) (h1 : (-9223372036854775808 ≤ y ∧ y ≤ 9223372036854775807)) :
    Calls Try.prog 32 #[.agg #[.int .i64 (x), .int .i64 (y)]] w fun e w' => e = .returned (.tuple #[.agg #[.int .i64 (tdX x y), .int .i64 (tdY x y)], .int .i64 (tdE x y)]) ∧ Below w.heap.size w w' := by
  have HW := Lib.hid (one_wf h0 h1)
  clear h0 h1
  rcases hs : smB x y with _ | _
  · have HS : Hid (smL [(x,y)] = false) := Lib.hid (by simp [smL, hs])
    have HX : Hid (smB x y = false) := Lib.hid hs
    clear hs
    go_enter Try.func32, Try.ntmps32
    go_wp2_with fail
    refine (small_any (w.heap.size+1+1) 1 1 [(x,y)] _ rfl (by simp) (one_cells (by simp [go_sem]) (by simp [go_sem])) HW.out (by omega)).mono ?_
    rintro e w1 ⟨rfl, hb1⟩
    rw [HS.out]
    obtain ⟨E1, d1, rfl⟩ := bExt hb1; clear hb1
    go_wp2
    refine bodyPost_ret (v := .tuple #[.agg #[.int .i64 (0), .int .i64 (0)], .int .i64 4]) (by simp [results, Try.results32, go_sem]) rfl ⟨by simp [tdX, tdY, tdE, HX.out], (by repeat (first | exact Below.refl _ _ | refine Below.drew ?_ | refine below_drewN ?_ _ | refine Below.alloc ?_ (by first | exact Nat.le_refl _ | (simp; done) | (simp; omega) | omega) _ | refine Below.setCell ?_ (by first | exact Nat.le_refl _ | (simp; done) | (simp; omega) | omega) _ | refine bExtW ?_ (by first | exact Nat.le_refl _ | (simp; done) | (simp; omega) | omega) | refine Below.trans ?_ (Below.mono (by assumption) (by first | exact Nat.le_refl _ | (simp; done) | (simp; omega) | omega))))⟩
  · have HS : Hid (smL [(x,y)] = true) := Lib.hid (by simp [smL, hs])
    have HX : Hid (smB x y = true) := Lib.hid hs
    clear hs
    go_enter Try.func32, Try.ntmps32
    go_wp2_with fail
    refine (small_any (w.heap.size+1+1) 1 1 [(x,y)] _ rfl (by simp) (one_cells (by simp [go_sem]) (by simp [go_sem])) HW.out (by omega)).mono ?_
    rintro e w1 ⟨rfl, hb1⟩
    rw [HS.out]
    obtain ⟨E1, d1, rfl⟩ := bExt hb1; clear hb1
    go_wp2
    refine bodyPost_ret (v := .tuple #[.agg #[.int .i64 (x), .int .i64 (y)], .int .i64 0]) (by simp [results, Try.results32, go_sem]) rfl ⟨by simp [tdX, tdY, tdE, HX.out], (by repeat (first | exact Below.refl _ _ | refine Below.drew ?_ | refine below_drewN ?_ _ | refine Below.alloc ?_ (by first | exact Nat.le_refl _ | (simp; done) | (simp; omega) | omega) _ | refine Below.setCell ?_ (by first | exact Nat.le_refl _ | (simp; done) | (simp; omega) | omega) _ | refine bExtW ?_ (by first | exact Nat.le_refl _ | (simp; done) | (simp; omega) | omega) | refine Below.trans ?_ (Below.mono (by assumption) (by first | exact Nat.le_refl _ | (simp; done) | (simp; omega) | omega))))⟩
end Go.Proofs.Ytnjheiiohfhckaa
