/- Chapter 10: a loom's small parts. -/
import Derived.Test.YtefmlepogpjhmaaLm1
import Derived.Handy
namespace Go.Proofs.Ytefmlepogpjhmaa
open Go.RowKit
set_option linter.unusedVariables false
set_option linter.unusedSimpArgs false
open Lm
def lmF (W H : Nat) (bv : Value) (b : Nat) (l : St) : Nat → Value := fun j =>
  if j = 0 then .int .i64 W else if j = 1 then .int .i64 H else if j = 2 then bv else if j = 3 then .iface 46 (.pointer (some ⟨b, 0, none⟩)) else if j = 4 then .int .i64 l.wv else if j = 5 then .int .i64 l.at_ else if j = 6 then .bool l.stop else .bool l.dead
/-- A loom in memory. -/
abbrev LMr (a b : Nat) (W H : Nat) (bv : Value) (l : St) (w : World) : Prop := w.rowIs a 73 8 (lmF W H bv b l)
theorem LMr.cells {a b W H : Nat} {bv : Value} {l : St} {w : World} (h : LMr a b W H bv l w) :
    w.cell? ⟨a, 0, none⟩ = some (.int .i64 W) ∧ w.cell? ⟨a, 1, none⟩ = some (.int .i64 H) ∧ w.cell? ⟨a, 2, none⟩ = some bv ∧ w.cell? ⟨a, 3, none⟩ = some (.iface 46 (.pointer (some ⟨b, 0, none⟩))) ∧ w.cell? ⟨a, 4, none⟩ = some (.int .i64 l.wv) ∧ w.cell? ⟨a, 5, none⟩ = some (.int .i64 l.at_) ∧ w.cell? ⟨a, 6, none⟩ = some (.bool l.stop) ∧ w.cell? ⟨a, 7, none⟩ = some (.bool l.dead) :=
  ⟨h.cell (i := 0) (by omega), h.cell (i := 1) (by omega), h.cell (i := 2) (by omega), h.cell (i := 3) (by omega), h.cell (i := 4) (by omega), h.cell (i := 5) (by omega), h.cell (i := 6) (by omega), h.cell (i := 7) (by omega)⟩
theorem LMr.setW {a b W H : Nat} {bv : Value} {l : St} {w : World} (h : LMr a b W H bv l w) (x : Nat) : LMr a b W H bv { l with wv := x } (w.setCell ⟨a, 4, none⟩ (.int .i64 (x : Int))) :=
  (h.set 4 _).congr fun i hi => by
    have hi3 : i = 0 ∨ i = 1 ∨ i = 2 ∨ i = 3 ∨ i = 4 ∨ i = 5 ∨ i = 6 ∨ i = 7 := by omega
    rcases hi3 with rfl | rfl | rfl | rfl | rfl | rfl | rfl | rfl <;> rfl
theorem LMr.setA {a b W H : Nat} {bv : Value} {l : St} {w : World} (h : LMr a b W H bv l w) (x : Nat) : LMr a b W H bv { l with at_ := x } (w.setCell ⟨a, 5, none⟩ (.int .i64 (x : Int))) :=
  (h.set 5 _).congr fun i hi => by
    have hi3 : i = 0 ∨ i = 1 ∨ i = 2 ∨ i = 3 ∨ i = 4 ∨ i = 5 ∨ i = 6 ∨ i = 7 := by omega
    rcases hi3 with rfl | rfl | rfl | rfl | rfl | rfl | rfl | rfl <;> rfl
theorem LMr.setS {a b W H : Nat} {bv : Value} {l : St} {w : World} (h : LMr a b W H bv l w) (x : Bool) : LMr a b W H bv { l with stop := x } (w.setCell ⟨a, 6, none⟩ (.bool x)) :=
  (h.set 6 _).congr fun i hi => by
    have hi3 : i = 0 ∨ i = 1 ∨ i = 2 ∨ i = 3 ∨ i = 4 ∨ i = 5 ∨ i = 6 ∨ i = 7 := by omega
    rcases hi3 with rfl | rfl | rfl | rfl | rfl | rfl | rfl | rfl <;> rfl
theorem LMr.setD {a b W H : Nat} {bv : Value} {l : St} {w : World} (h : LMr a b W H bv l w) (x : Bool) : LMr a b W H bv { l with dead := x } (w.setCell ⟨a, 7, none⟩ (.bool x)) :=
  (h.set 7 _).congr fun i hi => by
    have hi3 : i = 0 ∨ i = 1 ∨ i = 2 ∨ i = 3 ∨ i = 4 ∨ i = 5 ∨ i = 6 ∨ i = 7 := by omega
    rcases hi3 with rfl | rfl | rfl | rfl | rfl | rfl | rfl | rfl <;> rfl
set_option maxRecDepth 100000 in
set_option maxHeartbeats 8000000 in
theorem state_ok (a b W H : Nat) (bv : Value) (l : St) (w : World) (h : LMr a b W H bv l w) :
    Calls Try.prog 14 #[.pointer (some ⟨a, 0, none⟩)] w fun e w' => e = .returned (.int .i64 ((l.at_ : Nat))) ∧ Below w.heap.size w w' := by
  obtain ⟨m0, m1, m2, m3, m4, m5, m6, m7⟩ := (h).cells
  have lm := (h).lt
  have fm4 := (h).frozen 4; have fm5 := (h).frozen 5; have fm6 := (h).frozen 6; have fm7 := (h).frozen 7
  have lm2 : LtW a w := lm
  clear h
  go_enter Try.func14, Try.ntmps14
  go_wp2
  go_ret
  exact ⟨rfl, (by repeat (first | exact Below.refl _ _ | refine Below.drew ?_ | refine below_drewN ?_ _ | refine Below.alloc ?_ (by first | exact Nat.le_refl _ | (simp; done) | (simp; omega) | omega) _ | refine Below.setCell ?_ (by first | exact Nat.le_refl _ | (simp; done) | (simp; omega) | omega) _ | refine bExtW ?_ (by first | exact Nat.le_refl _ | (simp; done) | (simp; omega) | omega) | refine Below.trans ?_ (Below.mono (by assumption) (by first | exact Nat.le_refl _ | (simp; done) | (simp; omega) | omega))))⟩
set_option maxRecDepth 100000 in
set_option maxHeartbeats 8000000 in
theorem woven_ok (a b W H : Nat) (bv : Value) (l : St) (w : World) (h : LMr a b W H bv l w) :
    Calls Try.prog 15 #[.pointer (some ⟨a, 0, none⟩)] w fun e w' => e = .returned (.int .i64 ((l.wv : Nat))) ∧ Below w.heap.size w w' := by
  obtain ⟨m0, m1, m2, m3, m4, m5, m6, m7⟩ := (h).cells
  have lm := (h).lt
  have fm4 := (h).frozen 4; have fm5 := (h).frozen 5; have fm6 := (h).frozen 6; have fm7 := (h).frozen 7
  have lm2 : LtW a w := lm
  clear h
  go_enter Try.func15, Try.ntmps15
  go_wp2
  go_ret
  exact ⟨rfl, (by repeat (first | exact Below.refl _ _ | refine Below.drew ?_ | refine below_drewN ?_ _ | refine Below.alloc ?_ (by first | exact Nat.le_refl _ | (simp; done) | (simp; omega) | omega) _ | refine Below.setCell ?_ (by first | exact Nat.le_refl _ | (simp; done) | (simp; omega) | omega) _ | refine bExtW ?_ (by first | exact Nat.le_refl _ | (simp; done) | (simp; omega) | omega) | refine Below.trans ?_ (Below.mono (by assumption) (by first | exact Nat.le_refl _ | (simp; done) | (simp; omega) | omega))))⟩
/-- What a loom's word's putting tells. -/
def LPutPost (a b g cp W H : Nat) (bv : Value) (l : St) (d : Dk) (r : Option Dk) (w : World) (e : Ending) (w' : World) : Prop :=
  match r with
  | none => e = .returned (.bool false) ∧ LMr a b W H bv { l with dead := true } w' ∧ DK b g cp d w' ∧ Keep3 a b g w w'
  | some d' => e = .returned (.bool true) ∧ LMr a b W H bv { l with dead := false } w' ∧ DK b g cp d' w' ∧ Keep3 a b g w w'
theorem DK.ofSet {b g cp a i : Nat} {d : Dk} {w : World} {v : Value} (h : DK b g cp d w) (h1 : a ≠ b) (h2 : a ≠ g) : DK b g cp d (w.setCell ⟨a, i, none⟩ v) :=
  ⟨h.row.of_block (Below.heap_setCell _ _ _ b (fun e => h1 e.symm)), own_other h.own (fun e => h2 e.symm), h.ne, h.wf, h.lf⟩
theorem Keep3.mono {a b c a' b' c' : Nat} {W w : World} (h : Keep3 a b c W w) (ha : a = a' ∨ a = b' ∨ a = c') (hb : b = a' ∨ b = b' ∨ b = c') (hc : c = a' ∨ c = b' ∨ c = c') : Keep3 a' b' c' W w :=
  ⟨h.os, h.tape, h.output, h.size, fun k hk h1 h2 h3 => h.block k hk (by omega) (by omega) (by omega)⟩
set_option maxRecDepth 100000 in
set_option maxHeartbeats 8000000 in
theorem lput_ok (a b g cp W H i : Nat) (bv : Value) (x : Int) (l : St) (d : Dk) (w : World) (hm : LMr a b W H bv l w) (h : DK b g cp d w) (hi : i < d.ws.length) (hl : d.ws.length ≤ 9223372036854775807) (hx : (-9223372036854775808 ≤ x ∧ x ≤ 9223372036854775807)) :
    Calls Try.prog 28 #[.pointer (some ⟨a, 0, none⟩), .int .i64 (i), .int .i64 (x)] w (LPutPost a b g cp W H bv l d (put d i x) w) := by
  have hab : a ≠ b := fun e => by
    subst e
    obtain ⟨c1, e1, _⟩ := hm
    obtain ⟨c2, e2, _⟩ := h.row
    rw [e1] at e2
    injection e2 with e2
    injection e2 with _ e3
    exact absurd e3 (by decide)
  have hag : a ≠ g := fun e => by
    subst e
    obtain ⟨c1, e1, _⟩ := hm
    obtain ⟨_, _, _, _, cur, e2, _⟩ := own_parts h.own
    rw [e1] at e2
    injection e2 with e2
    injection e2 with _ e3
    exact absurd e3 (by decide)
  have HP := Lib.hid (put_ok b b g cp i x d w h hi hl hx)
  have vx : IntKind.i64.wrap x = x := IntWalk.i64_in _ (by omega)
  obtain ⟨m0, m1, m2, m3, m4, m5, m6, m7⟩ := (hm).cells
  have lm := (hm).lt
  have fm4 := (hm).frozen 4; have fm5 := (hm).frozen 5; have fm6 := (hm).frozen 6; have fm7 := (hm).frozen 7
  have lm2 : LtW a w := lm
  have HM := Lib.hid hm
  clear h hi hl hx hm
  cases hp : put d i x with
  | none =>
    rw [hp] at HP
    clear hp
    go_enter Try.func28, Try.ntmps28
    go_wp2_with fail
    refine HP.out.mono ?_
    rintro r w2 ⟨rfl, hd, hk⟩
    have hm2 : LMr a b W H bv l w2 := hk.rowIs HM.out hab hab hag
    have HM2 := Lib.hid hm2; have HD := Lib.hid hd; have HK := Lib.hid (hk.mono (a' := a) (b' := b) (c' := g) (.inr (.inl rfl)) (.inr (.inl rfl)) (.inr (.inr rfl)))
    have lm3 : LtW a w2 := hm2.lt
    have m7' := hm2.cell (i := 7) (by omega)
    have fm7' := hm2.frozen 7
    clear hm2 hd hk HM m0 m1 m2 m3 m4 m5 m6 m7 lm fm4 fm5 fm6 fm7 lm2
    have m7 : w2.cell? ⟨a, 7, none⟩ = some (.bool l.dead) := m7'
    clear m7'
    go_wp2
    go_ret
    exact ⟨rfl, LMr.setD HM2.out true, HD.out.ofSet hab hag, HK.out.set _ _ _ (.inl rfl)⟩
  | some d' =>
    rw [hp] at HP
    clear hp
    go_enter Try.func28, Try.ntmps28
    go_wp2_with fail
    refine HP.out.mono ?_
    rintro r w2 ⟨rfl, hd, hk⟩
    have hm2 : LMr a b W H bv l w2 := hk.rowIs HM.out hab hab hag
    have HM2 := Lib.hid hm2; have HD := Lib.hid hd; have HK := Lib.hid (hk.mono (a' := a) (b' := b) (c' := g) (.inr (.inl rfl)) (.inr (.inl rfl)) (.inr (.inr rfl)))
    have lm3 : LtW a w2 := hm2.lt
    have m7' := hm2.cell (i := 7) (by omega)
    have fm7' := hm2.frozen 7
    clear hm2 hd hk HM m0 m1 m2 m3 m4 m5 m6 m7 lm fm4 fm5 fm6 fm7 lm2
    have m7 : w2.cell? ⟨a, 7, none⟩ = some (.bool l.dead) := m7'
    clear m7'
    go_wp2
    go_ret
    exact ⟨rfl, LMr.setD HM2.out false, HD.out.ofSet hab hag, HK.out.set _ _ _ (.inl rfl)⟩
/-- What an event does of which nothing is written. -/
def plainV (ev : Int) : Int × Int × Int × Bool :=
  if ev = 1 then (0, 1, 1, true) else if ev = 2 then (1, 2, 2, true) else if ev = 4 then (2, 3, 4, true) else if ev = 5 then (3, 1, 1, true) else (0, 0, 0, false)
set_option maxRecDepth 100000 in
set_option maxHeartbeats 8000000 in
theorem plain_ok (ev : Int) (w : World) : Calls Try.prog 27 #[.int .i64 (ev)] w fun e w' => e = .returned (.tuple #[.agg #[.int .i64 ((plainV ev).1), .int .i64 ((plainV ev).2.1), .int .i64 ((plainV ev).2.2.1)], .bool (plainV ev).2.2.2]) ∧ Below w.heap.size w w' := by
  by_cases h1 : ev = 1
  · subst h1
    go_enter Try.func27, Try.ntmps27
    go_wp2
    refine bodyPost_ret (v := .tuple #[.agg #[.int .i64 (0), .int .i64 (1), .int .i64 (1)], .bool true]) (by simp [results, Try.results27, go_sem]) rfl ?_
    exact ⟨rfl, (by repeat (first | exact Below.refl _ _ | refine Below.drew ?_ | refine below_drewN ?_ _ | refine Below.alloc ?_ (by first | exact Nat.le_refl _ | (simp; done) | (simp; omega) | omega) _ | refine Below.setCell ?_ (by first | exact Nat.le_refl _ | (simp; done) | (simp; omega) | omega) _ | refine bExtW ?_ (by first | exact Nat.le_refl _ | (simp; done) | (simp; omega) | omega) | refine Below.trans ?_ (Below.mono (by assumption) (by first | exact Nat.le_refl _ | (simp; done) | (simp; omega) | omega))))⟩
  · by_cases h2 : ev = 2
    · subst h2
      go_enter Try.func27, Try.ntmps27
      go_wp2
      refine bodyPost_ret (v := .tuple #[.agg #[.int .i64 (1), .int .i64 (2), .int .i64 (2)], .bool true]) (by simp [results, Try.results27, go_sem]) rfl ?_
      exact ⟨rfl, (by repeat (first | exact Below.refl _ _ | refine Below.drew ?_ | refine below_drewN ?_ _ | refine Below.alloc ?_ (by first | exact Nat.le_refl _ | (simp; done) | (simp; omega) | omega) _ | refine Below.setCell ?_ (by first | exact Nat.le_refl _ | (simp; done) | (simp; omega) | omega) _ | refine bExtW ?_ (by first | exact Nat.le_refl _ | (simp; done) | (simp; omega) | omega) | refine Below.trans ?_ (Below.mono (by assumption) (by first | exact Nat.le_refl _ | (simp; done) | (simp; omega) | omega))))⟩
    · by_cases h4 : ev = 4
      · subst h4
        go_enter Try.func27, Try.ntmps27
        go_wp2
        refine bodyPost_ret (v := .tuple #[.agg #[.int .i64 (2), .int .i64 (3), .int .i64 (4)], .bool true]) (by simp [results, Try.results27, go_sem]) rfl ?_
        exact ⟨rfl, (by repeat (first | exact Below.refl _ _ | refine Below.drew ?_ | refine below_drewN ?_ _ | refine Below.alloc ?_ (by first | exact Nat.le_refl _ | (simp; done) | (simp; omega) | omega) _ | refine Below.setCell ?_ (by first | exact Nat.le_refl _ | (simp; done) | (simp; omega) | omega) _ | refine bExtW ?_ (by first | exact Nat.le_refl _ | (simp; done) | (simp; omega) | omega) | refine Below.trans ?_ (Below.mono (by assumption) (by first | exact Nat.le_refl _ | (simp; done) | (simp; omega) | omega))))⟩
      · by_cases h5 : ev = 5
        · subst h5
          go_enter Try.func27, Try.ntmps27
          go_wp2
          refine bodyPost_ret (v := .tuple #[.agg #[.int .i64 (3), .int .i64 (1), .int .i64 (1)], .bool true]) (by simp [results, Try.results27, go_sem]) rfl ?_
          exact ⟨rfl, (by repeat (first | exact Below.refl _ _ | refine Below.drew ?_ | refine below_drewN ?_ _ | refine Below.alloc ?_ (by first | exact Nat.le_refl _ | (simp; done) | (simp; omega) | omega) _ | refine Below.setCell ?_ (by first | exact Nat.le_refl _ | (simp; done) | (simp; omega) | omega) _ | refine bExtW ?_ (by first | exact Nat.le_refl _ | (simp; done) | (simp; omega) | omega) | refine Below.trans ?_ (Below.mono (by assumption) (by first | exact Nat.le_refl _ | (simp; done) | (simp; omega) | omega))))⟩
        · have hv : plainV ev = (0, 0, 0, false) := by unfold plainV; rw [if_neg h1, if_neg h2, if_neg h4, if_neg h5]
          rw [hv]
          have b1 : (ev == 1) = false := by simpa using h1
          have b2 : (ev == 2) = false := by simpa using h2
          have b4 : (ev == 4) = false := by simpa using h4
          have b5 : (ev == 5) = false := by simpa using h5
          clear h1 h2 h4 h5 hv
          go_enter Try.func27, Try.ntmps27
          go_wp2
          refine bodyPost_ret (v := .tuple #[.agg #[.int .i64 (0), .int .i64 (0), .int .i64 (0)], .bool false]) (by simp [results, Try.results27, go_sem]) rfl ?_
          exact ⟨rfl, (by repeat (first | exact Below.refl _ _ | refine Below.drew ?_ | refine below_drewN ?_ _ | refine Below.alloc ?_ (by first | exact Nat.le_refl _ | (simp; done) | (simp; omega) | omega) _ | refine Below.setCell ?_ (by first | exact Nat.le_refl _ | (simp; done) | (simp; omega) | omega) _ | refine bExtW ?_ (by first | exact Nat.le_refl _ | (simp; done) | (simp; omega) | omega) | refine Below.trans ?_ (Below.mono (by assumption) (by first | exact Nat.le_refl _ | (simp; done) | (simp; omega) | omega))))⟩
end Go.Proofs.Ytefmlepogpjhmaa
