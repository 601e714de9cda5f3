/- Chapter 10: the document's answer: what an event does. -/
import Derived.Test.YtefmlepogpjhmaaLm13
namespace Go.Proofs.Ytefmlepogpjhmaa
open Go.RowKit
set_option linter.unusedVariables false
set_option linter.unusedSimpArgs false
open Lm
def sF (l : St) : Nat → Value := fun j => if j = 0 then .int .i64 l.wv else if j = 1 then .int .i64 l.at_ else if j = 2 then .bool l.stop else .bool l.dead
/-- What an event does, as the document's answer has it: the state behind it, which word is put (-1: none), what, what is done. -/
def toldV (H : Nat) (ev : Int) (l : St) : St × Int × Int × Int :=
  if ev = 1 then ({ l with at_ := 1 }, -1, 0, 1)
  else if ev = 2 then ({ l with at_ := 2 }, -1, 0, 2)
  else if ev = 3 then ({ l with at_ := 4 }, 1, (l.wv : Int) + 1, 3)
  else if ev = 4 then ({ l with at_ := 3 }, -1, 0, 4)
  else if ev = 5 then ({ l with at_ := 1 }, -1, 0, 1)
  else if ev = 6 ∨ ev = 8 then ((Lm.next H l).2, 0, (l.wv : Int) + 1, (Lm.next H l).1)
  else if ev = 7 then ({ l with stop := true }, -1, 0, 0)
  else ({ l with at_ := 0 }, 1, 0, 0)
def ToldPost (B : Nat) (R : St × Int × Int × Int) (w : World) (e : Ending) (w' : World) : Prop := e = .returned (.tuple #[.agg #[.int .i64 ((R.1).wv : Nat), .int .i64 ((R.1).at_ : Nat), .bool (R.1).stop, .bool (R.1).dead], .int .i64 (R.2.1), .int .i64 (R.2.2.1), .int .i64 (R.2.2.2)]) ∧ Below B w w'
set_option maxRecDepth 100000 in
set_option maxHeartbeats 8000000 in
theorem behind_ok (nb mb sb H : Nat) (l : St) (bv : Value) (W : Nat) (B : Nat) (w : World) (hn : w.rowIs nb 61 4 (sF l)) (hm : w.rowIs mb 24 3 (tF W H bv)) (hs : w.rowIs sb 61 4 (sF l)) (hsn : sb ≠ nb) (hB : B ≤ nb) (hw : l.wv ≤ 64) :
    Calls Try.prog 30 #[.pointer (some ⟨nb, 0, none⟩), .pointer (some ⟨mb, 0, none⟩), .pointer (some ⟨sb, 0, none⟩)] w (ToldPost B ((Lm.next H l).2, 0, (l.wv : Int) + 1, (Lm.next H l).1) w) := by
  have n0 : w.cell? ⟨nb, 0, none⟩ = some (.int .i64 ((l.wv : Nat))) := hn.cell (i := 0) (by omega)
  have n1 : w.cell? ⟨nb, 1, none⟩ = some (.int .i64 ((l.at_ : Nat))) := hn.cell (i := 1) (by omega)
  have n2 : w.cell? ⟨nb, 2, none⟩ = some (.bool l.stop) := hn.cell (i := 2) (by omega)
  have n3 : w.cell? ⟨nb, 3, none⟩ = some (.bool l.dead) := hn.cell (i := 3) (by omega)
  have fn0 := hn.frozen 0; have fn1 := hn.frozen 1; have fn2 := hn.frozen 2
  have ln : LtW nb w := hn.lt
  have m1 : w.cell? ⟨mb, 1, none⟩ = some (.int .i64 (H)) := hm.cell (i := 1) (by omega)
  have lm : LtW mb w := hm.lt
  have s1 : w.cell? ⟨sb, 1, none⟩ = some (.int .i64 ((l.at_ : Nat))) := hs.cell (i := 1) (by omega)
  have s2 : w.cell? ⟨sb, 2, none⟩ = some (.bool l.stop) := hs.cell (i := 2) (by omega)
  have ls : LtW sb w := hs.lt
  have hmn : mb ≠ nb := fun e => by
    subst e
    obtain ⟨c1, e1, _⟩ := hn
    exact absurd (ty_ne hm e1) (by decide)
  have v1 : IntKind.i64.wrap ((l.wv : Int) + 1) = (l.wv : Int) + 1 := IntWalk.i64_in _ (by omega)
  have hBs : B ≤ w.heap.size := by have := hn.lt; omega
  clear hn hm hs
  obtain ⟨wv, at_, stop, dead⟩ := l
  simp only at n0 n1 n2 n3 s1 s2 v1 ⊢
  by_cases h1 : wv + 1 = H
  · have hv : Lm.next H ⟨wv, at_, stop, dead⟩ = (4, ⟨wv + 1, 6, stop, dead⟩) := by unfold Lm.next; rw [if_pos h1]
    have b1 : ((wv : Int) + 1 == (H : Int)) = true := by simp; omega
    rw [hv]
    clear hv h1
    go_enter Try.func30, Try.ntmps30
    go_wp2_with fail
    go_region
    go_wp2
    refine bodyPost_ret (v := .tuple #[.agg #[.int .i64 (((wv + 1 : Nat) : Int)), .int .i64 (((6 : Nat) : Int)), .bool stop, .bool dead], .int .i64 (0), .int .i64 ((wv : Int) + 1), .int .i64 ((4 : Int))]) (by simp [results, Try.results30, go_sem]) rfl ?_
    exact ⟨rfl, (by repeat (first | exact Below.refl _ _ | refine Below.drew ?_ | refine below_drewN ?_ _ | refine Below.alloc ?_ (by first | exact Nat.le_refl _ | (simp; done) | (simp; omega) | omega) _ | refine Below.setCell ?_ (by first | exact Nat.le_refl _ | (simp; done) | (simp; omega) | omega) _ | refine bExtW ?_ (by first | exact Nat.le_refl _ | (simp; done) | (simp; omega) | omega) | refine Below.trans ?_ (Below.mono (by assumption) (by first | exact Nat.le_refl _ | (simp; done) | (simp; omega) | omega))))⟩
  · have b1 : ((wv : Int) + 1 == (H : Int)) = false := by simp; omega
    by_cases hst : stop = true
    · have hv : Lm.next H ⟨wv, at_, stop, dead⟩ = (4, ⟨wv + 1, 0, false, dead⟩) := by unfold Lm.next; rw [if_neg h1, if_pos (.inl hst)]
      rw [hv]
      subst hst
      clear hv h1
      go_enter Try.func30, Try.ntmps30
      go_wp2_with fail
      go_region
      go_wp2
      refine bodyPost_ret (v := .tuple #[.agg #[.int .i64 (((wv + 1 : Nat) : Int)), .int .i64 (((0 : Nat) : Int)), .bool false, .bool dead], .int .i64 (0), .int .i64 ((wv : Int) + 1), .int .i64 ((4 : Int))]) (by simp [results, Try.results30, go_sem]) rfl ?_
      exact ⟨rfl, (by repeat (first | exact Below.refl _ _ | refine Below.drew ?_ | refine below_drewN ?_ _ | refine Below.alloc ?_ (by first | exact Nat.le_refl _ | (simp; done) | (simp; omega) | omega) _ | refine Below.setCell ?_ (by first | exact Nat.le_refl _ | (simp; done) | (simp; omega) | omega) _ | refine bExtW ?_ (by first | exact Nat.le_refl _ | (simp; done) | (simp; omega) | omega) | refine Below.trans ?_ (Below.mono (by assumption) (by first | exact Nat.le_refl _ | (simp; done) | (simp; omega) | omega))))⟩
    · have hst' : stop = false := by simpa using hst
      subst hst'
      by_cases h5 : at_ = 5
      · have hv : Lm.next H ⟨wv, at_, false, dead⟩ = (4, ⟨wv + 1, 0, false, dead⟩) := by unfold Lm.next; rw [if_neg h1, if_pos (.inr h5)]
        have b3 : ((at_ : Int) == 5) = true := by simp; omega
        have b4 : (at_ == 5) = true := by simpa using h5
        rw [hv]
        clear hv h1 h5 hst
        go_enter Try.func30, Try.ntmps30
        go_wp2_with fail
        go_region
        go_wp2
        refine bodyPost_ret (v := .tuple #[.agg #[.int .i64 (((wv + 1 : Nat) : Int)), .int .i64 (((0 : Nat) : Int)), .bool false, .bool dead], .int .i64 (0), .int .i64 ((wv : Int) + 1), .int .i64 ((4 : Int))]) (by simp [results, Try.results30, go_sem]) rfl ?_
        exact ⟨rfl, (by repeat (first | exact Below.refl _ _ | refine Below.drew ?_ | refine below_drewN ?_ _ | refine Below.alloc ?_ (by first | exact Nat.le_refl _ | (simp; done) | (simp; omega) | omega) _ | refine Below.setCell ?_ (by first | exact Nat.le_refl _ | (simp; done) | (simp; omega) | omega) _ | refine bExtW ?_ (by first | exact Nat.le_refl _ | (simp; done) | (simp; omega) | omega) | refine Below.trans ?_ (Below.mono (by assumption) (by first | exact Nat.le_refl _ | (simp; done) | (simp; omega) | omega))))⟩
      · have hv : Lm.next H ⟨wv, at_, false, dead⟩ = (1, ⟨wv + 1, 1, false, dead⟩) := by unfold Lm.next; rw [if_neg h1, if_neg (by rintro (e | e); exact hst e; exact h5 e)]
        have b3 : ((at_ : Int) == 5) = false := by simp; omega
        have b4 : (at_ == 5) = false := by simpa using h5
        rw [hv]
        clear hv h1 h5 hst
        go_enter Try.func30, Try.ntmps30
        go_wp2_with fail
        go_region
        go_wp2
        refine bodyPost_ret (v := .tuple #[.agg #[.int .i64 (((wv + 1 : Nat) : Int)), .int .i64 (((1 : Nat) : Int)), .bool false, .bool dead], .int .i64 (0), .int .i64 ((wv : Int) + 1), .int .i64 ((1 : Int))]) (by simp [results, Try.results30, go_sem]) rfl ?_
        exact ⟨rfl, (by repeat (first | exact Below.refl _ _ | refine Below.drew ?_ | refine below_drewN ?_ _ | refine Below.alloc ?_ (by first | exact Nat.le_refl _ | (simp; done) | (simp; omega) | omega) _ | refine Below.setCell ?_ (by first | exact Nat.le_refl _ | (simp; done) | (simp; omega) | omega) _ | refine bExtW ?_ (by first | exact Nat.le_refl _ | (simp; done) | (simp; omega) | omega) | refine Below.trans ?_ (Below.mono (by assumption) (by first | exact Nat.le_refl _ | (simp; done) | (simp; omega) | omega))))⟩
theorem sF_alloc (w : World) (l : St) : (w.alloc (.cells #[.int .i64 ((l.wv : Nat)), .int .i64 ((l.at_ : Nat)), .bool l.stop, .bool l.dead] 61)).rowIs w.heap.size 61 4 (sF l) :=
  World.rowIs_alloc w #[.int .i64 ((l.wv : Nat)), .int .i64 ((l.at_ : Nat)), .bool l.stop, .bool l.dead] 61 _ (by
    intro i hi
    have hi2 : i = 0 ∨ i = 1 ∨ i = 2 ∨ i = 3 := by simp at hi; omega
    rcases hi2 with rfl | rfl | rfl | rfl <;> rfl)
set_option maxRecDepth 100000 in
set_option maxHeartbeats 8000000 in
theorem Told_ok (W H : Nat) (A : Option Addr) (n c : Nat) (ev : Int) (l : St) (w : World) (hev : 1 ≤ ev ∧ ev ≤ 9) (hw : l.wv ≤ 64) :
    Calls Try.prog 20 #[.agg #[.int .i64 (W), .int .i64 (H), .slice A n c], .agg #[.int .i64 ((l).wv : Nat), .int .i64 ((l).at_ : Nat), .bool (l).stop, .bool (l).dead], .int .i64 (ev)] w (ToldPost w.heap.size (toldV H ev l) w) := by
  have hc : ev = 1 ∨ ev = 2 ∨ ev = 3 ∨ ev = 4 ∨ ev = 5 ∨ ev = 7 ∨ ev = 9 ∨ ev = 6 ∨ ev = 8 := by omega
  clear hev
  have HBH := Lib.hid (fun nb mb sb B w' hn hm hs hsn hB => behind_ok nb mb sb H l (.slice A n c) W B w' hn hm hs hsn hB hw)
  have v1 : IntKind.i64.wrap ((l.wv : Int) + 1) = (l.wv : Int) + 1 := IntWalk.i64_in _ (by omega)
  obtain ⟨wv, at_, stop, dead⟩ := l
  simp only at v1 hw ⊢
  rcases hc with rfl | rfl | rfl | rfl | rfl | rfl | rfl | rfl | rfl
  · have hv : toldV H 1 ⟨wv, at_, stop, dead⟩ = (⟨wv, 1, stop, dead⟩, -1, 0, 1) := by simp [toldV]
    rw [hv]
    clear hv
    go_enter Try.func20, Try.ntmps20
    go_wp2
    refine bodyPost_ret (v := .tuple #[.agg #[.int .i64 (((wv : Nat) : Int)), .int .i64 (((1 : Nat) : Int)), .bool stop, .bool dead], .int .i64 ((-1 : Int)), .int .i64 ((0 : Int)), .int .i64 ((1 : Int))]) (by simp [results, Try.results20, go_sem]) rfl ?_
    exact ⟨rfl, (by repeat (first | exact Below.refl _ _ | refine Below.drew ?_ | refine below_drewN ?_ _ | refine Below.alloc ?_ (by first | exact Nat.le_refl _ | (simp; done) | (simp; omega) | omega) _ | refine Below.setCell ?_ (by first | exact Nat.le_refl _ | (simp; done) | (simp; omega) | omega) _ | refine bExtW ?_ (by first | exact Nat.le_refl _ | (simp; done) | (simp; omega) | omega) | refine Below.trans ?_ (Below.mono (by assumption) (by first | exact Nat.le_refl _ | (simp; done) | (simp; omega) | omega))))⟩
  · have hv : toldV H 2 ⟨wv, at_, stop, dead⟩ = (⟨wv, 2, stop, dead⟩, -1, 0, 2) := by simp [toldV]
    rw [hv]
    clear hv
    go_enter Try.func20, Try.ntmps20
    go_wp2
    refine bodyPost_ret (v := .tuple #[.agg #[.int .i64 (((wv : Nat) : Int)), .int .i64 (((2 : Nat) : Int)), .bool stop, .bool dead], .int .i64 ((-1 : Int)), .int .i64 ((0 : Int)), .int .i64 ((2 : Int))]) (by simp [results, Try.results20, go_sem]) rfl ?_
    exact ⟨rfl, (by repeat (first | exact Below.refl _ _ | refine Below.drew ?_ | refine below_drewN ?_ _ | refine Below.alloc ?_ (by first | exact Nat.le_refl _ | (simp; done) | (simp; omega) | omega) _ | refine Below.setCell ?_ (by first | exact Nat.le_refl _ | (simp; done) | (simp; omega) | omega) _ | refine bExtW ?_ (by first | exact Nat.le_refl _ | (simp; done) | (simp; omega) | omega) | refine Below.trans ?_ (Below.mono (by assumption) (by first | exact Nat.le_refl _ | (simp; done) | (simp; omega) | omega))))⟩
  · have hv : toldV H 3 ⟨wv, at_, stop, dead⟩ = (⟨wv, 4, stop, dead⟩, 1, (wv : Int) + 1, 3) := by simp [toldV]
    rw [hv]
    clear hv
    go_enter Try.func20, Try.ntmps20
    (go_wp2_with fail; go_region; go_wp2)
    refine bodyPost_ret (v := .tuple #[.agg #[.int .i64 (((wv : Nat) : Int)), .int .i64 (((4 : Nat) : Int)), .bool stop, .bool dead], .int .i64 ((1 : Int)), .int .i64 ((wv : Int) + 1), .int .i64 ((3 : Int))]) (by simp [results, Try.results20, go_sem]) rfl ?_
    exact ⟨rfl, (by repeat (first | exact Below.refl _ _ | refine Below.drew ?_ | refine below_drewN ?_ _ | refine Below.alloc ?_ (by first | exact Nat.le_refl _ | (simp; done) | (simp; omega) | omega) _ | refine Below.setCell ?_ (by first | exact Nat.le_refl _ | (simp; done) | (simp; omega) | omega) _ | refine bExtW ?_ (by first | exact Nat.le_refl _ | (simp; done) | (simp; omega) | omega) | refine Below.trans ?_ (Below.mono (by assumption) (by first | exact Nat.le_refl _ | (simp; done) | (simp; omega) | omega))))⟩
  · have hv : toldV H 4 ⟨wv, at_, stop, dead⟩ = (⟨wv, 3, stop, dead⟩, -1, 0, 4) := by simp [toldV]
    rw [hv]
    clear hv
    go_enter Try.func20, Try.ntmps20
    go_wp2
    refine bodyPost_ret (v := .tuple #[.agg #[.int .i64 (((wv : Nat) : Int)), .int .i64 (((3 : Nat) : Int)), .bool stop, .bool dead], .int .i64 ((-1 : Int)), .int .i64 ((0 : Int)), .int .i64 ((4 : Int))]) (by simp [results, Try.results20, go_sem]) rfl ?_
    exact ⟨rfl, (by repeat (first | exact Below.refl _ _ | refine Below.drew ?_ | refine below_drewN ?_ _ | refine Below.alloc ?_ (by first | exact Nat.le_refl _ | (simp; done) | (simp; omega) | omega) _ | refine Below.setCell ?_ (by first | exact Nat.le_refl _ | (simp; done) | (simp; omega) | omega) _ | refine bExtW ?_ (by first | exact Nat.le_refl _ | (simp; done) | (simp; omega) | omega) | refine Below.trans ?_ (Below.mono (by assumption) (by first | exact Nat.le_refl _ | (simp; done) | (simp; omega) | omega))))⟩
  · have hv : toldV H 5 ⟨wv, at_, stop, dead⟩ = (⟨wv, 1, stop, dead⟩, -1, 0, 1) := by simp [toldV]
    rw [hv]
    clear hv
    go_enter Try.func20, Try.ntmps20
    go_wp2
    refine bodyPost_ret (v := .tuple #[.agg #[.int .i64 (((wv : Nat) : Int)), .int .i64 (((1 : Nat) : Int)), .bool stop, .bool dead], .int .i64 ((-1 : Int)), .int .i64 ((0 : Int)), .int .i64 ((1 : Int))]) (by simp [results, Try.results20, go_sem]) rfl ?_
    exact ⟨rfl, (by repeat (first | exact Below.refl _ _ | refine Below.drew ?_ | refine below_drewN ?_ _ | refine Below.alloc ?_ (by first | exact Nat.le_refl _ | (simp; done) | (simp; omega) | omega) _ | refine Below.setCell ?_ (by first | exact Nat.le_refl _ | (simp; done) | (simp; omega) | omega) _ | refine bExtW ?_ (by first | exact Nat.le_refl _ | (simp; done) | (simp; omega) | omega) | refine Below.trans ?_ (Below.mono (by assumption) (by first | exact Nat.le_refl _ | (simp; done) | (simp; omega) | omega))))⟩
  · have hv : toldV H 7 ⟨wv, at_, stop, dead⟩ = (⟨wv, at_, true, dead⟩, -1, 0, 0) := by simp [toldV]
    rw [hv]
    clear hv
    go_enter Try.func20, Try.ntmps20
    go_wp2
    refine bodyPost_ret (v := .tuple #[.agg #[.int .i64 (((wv : Nat) : Int)), .int .i64 (((at_ : Nat) : Int)), .bool true, .bool dead], .int .i64 ((-1 : Int)), .int .i64 ((0 : Int)), .int .i64 ((0 : Int))]) (by simp [results, Try.results20, go_sem]) rfl ?_
    exact ⟨rfl, (by repeat (first | exact Below.refl _ _ | refine Below.drew ?_ | refine below_drewN ?_ _ | refine Below.alloc ?_ (by first | exact Nat.le_refl _ | (simp; done) | (simp; omega) | omega) _ | refine Below.setCell ?_ (by first | exact Nat.le_refl _ | (simp; done) | (simp; omega) | omega) _ | refine bExtW ?_ (by first | exact Nat.le_refl _ | (simp; done) | (simp; omega) | omega) | refine Below.trans ?_ (Below.mono (by assumption) (by first | exact Nat.le_refl _ | (simp; done) | (simp; omega) | omega))))⟩
  · have hv : toldV H 9 ⟨wv, at_, stop, dead⟩ = (⟨wv, 0, stop, dead⟩, 1, 0, 0) := by simp [toldV]
    rw [hv]
    clear hv
    go_enter Try.func20, Try.ntmps20
    go_wp2
    refine bodyPost_ret (v := .tuple #[.agg #[.int .i64 (((wv : Nat) : Int)), .int .i64 (((0 : Nat) : Int)), .bool stop, .bool dead], .int .i64 ((1 : Int)), .int .i64 ((0 : Int)), .int .i64 ((0 : Int))]) (by simp [results, Try.results20, go_sem]) rfl ?_
    exact ⟨rfl, (by repeat (first | exact Below.refl _ _ | refine Below.drew ?_ | refine below_drewN ?_ _ | refine Below.alloc ?_ (by first | exact Nat.le_refl _ | (simp; done) | (simp; omega) | omega) _ | refine Below.setCell ?_ (by first | exact Nat.le_refl _ | (simp; done) | (simp; omega) | omega) _ | refine bExtW ?_ (by first | exact Nat.le_refl _ | (simp; done) | (simp; omega) | omega) | refine Below.trans ?_ (Below.mono (by assumption) (by first | exact Nat.le_refl _ | (simp; done) | (simp; omega) | omega))))⟩
  · have hv : toldV H 6 ⟨wv, at_, stop, dead⟩ = ((Lm.next H ⟨wv, at_, stop, dead⟩).2, 0, (wv : Int) + 1, (Lm.next H ⟨wv, at_, stop, dead⟩).1) := by simp [toldV]
    rw [hv]
    clear hv
    go_enter Try.func20, Try.ntmps20
    go_wp2_with fail
    have k1 := (((tF_alloc w W H (.slice A n c) rfl).alloc (.cells #[.int .i64 (wv), .int .i64 (at_), .bool stop, .bool dead] 61)).alloc (.cells #[.int .i64 (0), .int .i64 (0), .bool false, .bool false] 61)).alloc (.cells #[.int .i64 (wv), .int .i64 (at_), .bool stop, .bool dead] 61)
    have k2 := ((sF_alloc (w.alloc (.cells #[.int .i64 (W), .int .i64 (H), .slice A n c] 24)) ⟨wv, at_, stop, dead⟩).alloc (.cells #[.int .i64 (0), .int .i64 (0), .bool false, .bool false] 61)).alloc (.cells #[.int .i64 (wv), .int .i64 (at_), .bool stop, .bool dead] 61)
    have k3 := sF_alloc (((w.alloc (.cells #[.int .i64 (W), .int .i64 (H), .slice A n c] 24)).alloc (.cells #[.int .i64 (wv), .int .i64 (at_), .bool stop, .bool dead] 61)).alloc (.cells #[.int .i64 (0), .int .i64 (0), .bool false, .bool false] 61)) ⟨wv, at_, stop, dead⟩
    rw [World.size_alloc] at k2
    rw [World.size_alloc, World.size_alloc, World.size_alloc] at k3
    refine (HBH.out _ _ _ (w.heap.size + 1 + 1 + 1) _ k3 k1 k2 (by omega) (Nat.le_refl _)).mono ?_
    rintro r w5 ⟨rfl, hb5⟩
    have r0 : w5.cell? ⟨w.heap.size + 1 + 1, 0, none⟩ = some (.int .i64 (0)) := (hb5.cell (p := ⟨w.heap.size + 1 + 1, 0, none⟩) (by simp)).trans (by simp [go_sem])
    have r1 : w5.cell? ⟨w.heap.size + 1 + 1, 1, none⟩ = some (.int .i64 (0)) := (hb5.cell (p := ⟨w.heap.size + 1 + 1, 1, none⟩) (by simp)).trans (by simp [go_sem])
    have r2 : w5.cell? ⟨w.heap.size + 1 + 1, 2, none⟩ = some (.bool false) := (hb5.cell (p := ⟨w.heap.size + 1 + 1, 2, none⟩) (by simp)).trans (by simp [go_sem])
    have r3 : w5.cell? ⟨w.heap.size + 1 + 1, 3, none⟩ = some (.bool false) := (hb5.cell (p := ⟨w.heap.size + 1 + 1, 3, none⟩) (by simp)).trans (by simp [go_sem])
    have f0 : w5.frozen? ⟨w.heap.size + 1 + 1, 0, none⟩ = false := (hb5.frozen (p := ⟨w.heap.size + 1 + 1, 0, none⟩) (by simp)).trans (by simp [go_sem])
    have f1 : w5.frozen? ⟨w.heap.size + 1 + 1, 1, none⟩ = false := (hb5.frozen (p := ⟨w.heap.size + 1 + 1, 1, none⟩) (by simp)).trans (by simp [go_sem])
    have f2 : w5.frozen? ⟨w.heap.size + 1 + 1, 2, none⟩ = false := (hb5.frozen (p := ⟨w.heap.size + 1 + 1, 2, none⟩) (by simp)).trans (by simp [go_sem])
    have f3 : w5.frozen? ⟨w.heap.size + 1 + 1, 3, none⟩ = false := (hb5.frozen (p := ⟨w.heap.size + 1 + 1, 3, none⟩) (by simp)).trans (by simp [go_sem])
    have lr : LtW (w.heap.size + 1 + 1) w5 := Nat.lt_of_lt_of_le (show w.heap.size + 1 + 1 < ((((w.alloc (.cells #[.int .i64 (W), .int .i64 (H), .slice A n c] 24)).alloc (.cells #[.int .i64 (wv), .int .i64 (at_), .bool stop, .bool dead] 61)).alloc (.cells #[.int .i64 (0), .int .i64 (0), .bool false, .bool false] 61)).alloc (.cells #[.int .i64 (wv), .int .i64 (at_), .bool stop, .bool dead] 61)).heap.size by simp) hb5.size
    have hbw : Below w.heap.size w w5 := Below.trans (show Below w.heap.size w ((((w.alloc (.cells #[.int .i64 (W), .int .i64 (H), .slice A n c] 24)).alloc (.cells #[.int .i64 (wv), .int .i64 (at_), .bool stop, .bool dead] 61)).alloc (.cells #[.int .i64 (0), .int .i64 (0), .bool false, .bool false] 61)).alloc (.cells #[.int .i64 (wv), .int .i64 (at_), .bool stop, .bool dead] 61)) from (by repeat (first | exact Below.refl _ _ | refine Below.drew ?_ | refine below_drewN ?_ _ | refine Below.alloc ?_ (by first | exact Nat.le_refl _ | (simp; done) | (simp; omega) | omega) _ | refine Below.setCell ?_ (by first | exact Nat.le_refl _ | (simp; done) | (simp; omega) | omega) _ | refine bExtW ?_ (by first | exact Nat.le_refl _ | (simp; done) | (simp; omega) | omega) | refine Below.trans ?_ (Below.mono (by assumption) (by first | exact Nat.le_refl _ | (simp; done) | (simp; omega) | omega))))) (hb5.mono (by omega))
    have HBW := Lib.hid hbw
    obtain ⟨NX, hNX⟩ : ∃ NX, Lm.next H ⟨wv, at_, stop, dead⟩ = NX := ⟨_, rfl⟩
    rw [hNX]
    have HN := Lib.hid hNX
    clear hb5 hbw hNX k1 k2 k3
    go_wp2
    refine bodyPost_ret (v := .tuple #[.agg #[.int .i64 ((NX.2).wv : Nat), .int .i64 ((NX.2).at_ : Nat), .bool (NX.2).stop, .bool (NX.2).dead], .int .i64 (0), .int .i64 ((wv : Int) + 1), .int .i64 (NX.1)]) (by simp [results, Try.results20, go_sem, r0, r1, r2, r3]) rfl ?_
    exact ⟨by rw [← HN.out], (((HBW.out.setCell (by simp; omega) _).setCell (by simp; omega) _).setCell (by simp; omega) _).setCell (by simp; omega) _⟩
  · have hv : toldV H 8 ⟨wv, at_, stop, dead⟩ = ((Lm.next H ⟨wv, at_, stop, dead⟩).2, 0, (wv : Int) + 1, (Lm.next H ⟨wv, at_, stop, dead⟩).1) := by simp [toldV]
    rw [hv]
    clear hv
    go_enter Try.func20, Try.ntmps20
    go_wp2_with fail
    have k1 := (((tF_alloc w W H (.slice A n c) rfl).alloc (.cells #[.int .i64 (wv), .int .i64 (at_), .bool stop, .bool dead] 61)).alloc (.cells #[.int .i64 (0), .int .i64 (0), .bool false, .bool false] 61)).alloc (.cells #[.int .i64 (wv), .int .i64 (at_), .bool stop, .bool dead] 61)
    have k2 := ((sF_alloc (w.alloc (.cells #[.int .i64 (W), .int .i64 (H), .slice A n c] 24)) ⟨wv, at_, stop, dead⟩).alloc (.cells #[.int .i64 (0), .int .i64 (0), .bool false, .bool false] 61)).alloc (.cells #[.int .i64 (wv), .int .i64 (at_), .bool stop, .bool dead] 61)
    have k3 := sF_alloc (((w.alloc (.cells #[.int .i64 (W), .int .i64 (H), .slice A n c] 24)).alloc (.cells #[.int .i64 (wv), .int .i64 (at_), .bool stop, .bool dead] 61)).alloc (.cells #[.int .i64 (0), .int .i64 (0), .bool false, .bool false] 61)) ⟨wv, at_, stop, dead⟩
    rw [World.size_alloc] at k2
    rw [World.size_alloc, World.size_alloc, World.size_alloc] at k3
    refine (HBH.out _ _ _ (w.heap.size + 1 + 1 + 1) _ k3 k1 k2 (by omega) (Nat.le_refl _)).mono ?_
    rintro r w5 ⟨rfl, hb5⟩
    have r0 : w5.cell? ⟨w.heap.size + 1 + 1, 0, none⟩ = some (.int .i64 (0)) := (hb5.cell (p := ⟨w.heap.size + 1 + 1, 0, none⟩) (by simp)).trans (by simp [go_sem])
    have r1 : w5.cell? ⟨w.heap.size + 1 + 1, 1, none⟩ = some (.int .i64 (0)) := (hb5.cell (p := ⟨w.heap.size + 1 + 1, 1, none⟩) (by simp)).trans (by simp [go_sem])
    have r2 : w5.cell? ⟨w.heap.size + 1 + 1, 2, none⟩ = some (.bool false) := (hb5.cell (p := ⟨w.heap.size + 1 + 1, 2, none⟩) (by simp)).trans (by simp [go_sem])
    have r3 : w5.cell? ⟨w.heap.size + 1 + 1, 3, none⟩ = some (.bool false) := (hb5.cell (p := ⟨w.heap.size + 1 + 1, 3, none⟩) (by simp)).trans (by simp [go_sem])
    have f0 : w5.frozen? ⟨w.heap.size + 1 + 1, 0, none⟩ = false := (hb5.frozen (p := ⟨w.heap.size + 1 + 1, 0, none⟩) (by simp)).trans (by simp [go_sem])
    have f1 : w5.frozen? ⟨w.heap.size + 1 + 1, 1, none⟩ = false := (hb5.frozen (p := ⟨w.heap.size + 1 + 1, 1, none⟩) (by simp)).trans (by simp [go_sem])
    have f2 : w5.frozen? ⟨w.heap.size + 1 + 1, 2, none⟩ = false := (hb5.frozen (p := ⟨w.heap.size + 1 + 1, 2, none⟩) (by simp)).trans (by simp [go_sem])
    have f3 : w5.frozen? ⟨w.heap.size + 1 + 1, 3, none⟩ = false := (hb5.frozen (p := ⟨w.heap.size + 1 + 1, 3, none⟩) (by simp)).trans (by simp [go_sem])
    have lr : LtW (w.heap.size + 1 + 1) w5 := Nat.lt_of_lt_of_le (show w.heap.size + 1 + 1 < ((((w.alloc (.cells #[.int .i64 (W), .int .i64 (H), .slice A n c] 24)).alloc (.cells #[.int .i64 (wv), .int .i64 (at_), .bool stop, .bool dead] 61)).alloc (.cells #[.int .i64 (0), .int .i64 (0), .bool false, .bool false] 61)).alloc (.cells #[.int .i64 (wv), .int .i64 (at_), .bool stop, .bool dead] 61)).heap.size by simp) hb5.size
    have hbw : Below w.heap.size w w5 := Below.trans (show Below w.heap.size w ((((w.alloc (.cells #[.int .i64 (W), .int .i64 (H), .slice A n c] 24)).alloc (.cells #[.int .i64 (wv), .int .i64 (at_), .bool stop, .bool dead] 61)).alloc (.cells #[.int .i64 (0), .int .i64 (0), .bool false, .bool false] 61)).alloc (.cells #[.int .i64 (wv), .int .i64 (at_), .bool stop, .bool dead] 61)) from (by repeat (first | exact Below.refl _ _ | refine Below.drew ?_ | refine below_drewN ?_ _ | refine Below.alloc ?_ (by first | exact Nat.le_refl _ | (simp; done) | (simp; omega) | omega) _ | refine Below.setCell ?_ (by first | exact Nat.le_refl _ | (simp; done) | (simp; omega) | omega) _ | refine bExtW ?_ (by first | exact Nat.le_refl _ | (simp; done) | (simp; omega) | omega) | refine Below.trans ?_ (Below.mono (by assumption) (by first | exact Nat.le_refl _ | (simp; done) | (simp; omega) | omega))))) (hb5.mono (by omega))
    have HBW := Lib.hid hbw
    obtain ⟨NX, hNX⟩ : ∃ NX, Lm.next H ⟨wv, at_, stop, dead⟩ = NX := ⟨_, rfl⟩
    rw [hNX]
    have HN := Lib.hid hNX
    clear hb5 hbw hNX k1 k2 k3
    go_wp2
    refine bodyPost_ret (v := .tuple #[.agg #[.int .i64 ((NX.2).wv : Nat), .int .i64 ((NX.2).at_ : Nat), .bool (NX.2).stop, .bool (NX.2).dead], .int .i64 (0), .int .i64 ((wv : Int) + 1), .int .i64 (NX.1)]) (by simp [results, Try.results20, go_sem, r0, r1, r2, r3]) rfl ?_
    exact ⟨by rw [← HN.out], (((HBW.out.setCell (by simp; omega) _).setCell (by simp; omega) _).setCell (by simp; omega) _).setCell (by simp; omega) _⟩
end Go.Proofs.Ytefmlepogpjhmaa
