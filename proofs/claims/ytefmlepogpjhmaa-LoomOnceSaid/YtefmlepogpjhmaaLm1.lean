/- Chapter 10: the disk. -/
import Derived.Test.YtefmlepogpjhmaaLmM
import Derived.Test.YtefmlepogpjhmaaOwnS
namespace Go.Proofs.Ytefmlepogpjhmaa
open Go.RowKit
set_option linter.unusedVariables false
set_option linter.unusedSimpArgs false
open Lm
/-- Nothing else than three blocks is changed. -/
structure Keep3 (a b c : Nat) (W w : World) : Prop where
  os : w.os = W.os
  tape : w.tape = W.tape
  output : w.output = W.output
  size : W.heap.size ≤ w.heap.size
  block : ∀ k, k < W.heap.size → k ≠ a → k ≠ b → k ≠ c → w.heap[k]? = W.heap[k]?
theorem Keep3.refl (a b c : Nat) (W : World) : Keep3 a b c W W := ⟨rfl, rfl, rfl, Nat.le_refl _, fun _ _ _ _ _ => rfl⟩
theorem Keep3.trans {a b c : Nat} {w1 w2 w3 : World} (h : Keep3 a b c w1 w2) (h' : Keep3 a b c w2 w3) : Keep3 a b c w1 w3 :=
  ⟨h'.os.trans h.os, h'.tape.trans h.tape, h'.output.trans h.output, Nat.le_trans h.size h'.size, fun k hk h1 h2 h3 => (h'.block k (Nat.lt_of_lt_of_le hk h.size) h1 h2 h3).trans (h.block k hk h1 h2 h3)⟩
theorem Keep3.below {a b c : Nat} {w w' : World} (h : Below w.heap.size w w') : Keep3 a b c w w' := ⟨h.os, h.tape, h.output, h.size, fun k hk _ _ _ => h.block k hk⟩
theorem Keep3.set {a b c : Nat} {w w' : World} (h : Keep3 a b c w w') (k i : Nat) (v : Value) (hk : k = a ∨ k = b ∨ k = c) : Keep3 a b c w (w'.setCell ⟨k, i, none⟩ v) :=
  ⟨h.os, h.tape, h.output, by rw [World.size_setCell]; exact h.size, fun j hj h1 h2 h3 => by
    rw [Below.heap_setCell _ _ _ j (fun e => by simp only at e; omega)]; exact h.block j hj h1 h2 h3⟩
theorem Keep3.rowIs {a b c r t n : Nat} {f : Nat → Value} {W w : World} (h : Keep3 a b c W w) (hr : W.rowIs r t n f) (h1 : r ≠ a) (h2 : r ≠ b) (h3 : r ≠ c) : w.rowIs r t n f := hr.of_block (h.block r hr.lt h1 h2 h3)
def dkF (v : Value) (left : Int) : Nat → Value := fun j => if j = 0 then v else if j = 1 then .int .i64 left else .bool false
/-- A disk in memory. -/
structure DK (b g cp : Nat) (d : Dk) (w : World) : Prop where
  row : w.rowIs b 48 3 (dkF (.slice (some ⟨g, 0, none⟩) d.ws.length cp) d.left)
  own : w.ownsRow 0 2 1 (.slice (some ⟨g, 0, none⟩) d.ws.length cp) d.ws.length (d.ws.map (Value.int .i64))
  ne : b ≠ g
  wf : ∀ x ∈ d.ws, (-9223372036854775808 ≤ x ∧ x ≤ 9223372036854775807)
  lf : (-9223372036854775808 ≤ d.left ∧ d.left ≤ 9223372036854775807)
theorem DK.keep {b g cp a1 : Nat} {d : Dk} {w w' : World} (h : DK b g cp d w) (hb : Below w.heap.size w w') : DK b g cp d w' :=
  ⟨rowBelow h.row hb h.row.lt, ownBelow h.own hb, h.ne, h.wf, h.lf⟩
theorem DK.cells {b g cp : Nat} {d : Dk} {w : World} (h : DK b g cp d w) : w.cell? ⟨b, 0, none⟩ = some (.slice (some ⟨g, 0, none⟩) d.ws.length cp) ∧ w.cell? ⟨b, 1, none⟩ = some (.int .i64 d.left) ∧ w.cell? ⟨b, 2, none⟩ = some (.bool false) :=
  ⟨h.row.cell (i := 0) (by omega), h.row.cell (i := 1) (by omega), h.row.cell (i := 2) (by omega)⟩
set_option maxRecDepth 100000 in
set_option maxHeartbeats 8000000 in
theorem size_ok (b g cp : Nat) (d : Dk) (w : World) (h : DK b g cp d w) :
    Calls Try.prog 49 #[.pointer (some ⟨b, 0, none⟩)] w fun e w' => e = .returned (.int .i64 ((d.ws.length : Nat))) ∧ Below w.heap.size w w' := by
  obtain ⟨c0, c1, c2⟩ := h.cells
  have lb : LtW b w := h.row.lt
  clear h
  go_enter Try.func49, Try.ntmps49
  go_wp2
  go_ret
  exact ⟨rfl, (by repeat (first | exact Below.refl _ _ | refine Below.drew ?_ | refine below_drewN ?_ _ | refine Below.alloc ?_ (by first | exact Nat.le_refl _ | (simp; done) | (simp; omega) | omega) _ | refine Below.setCell ?_ (by first | exact Nat.le_refl _ | (simp; done) | (simp; omega) | omega) _ | refine bExtW ?_ (by first | exact Nat.le_refl _ | (simp; done) | (simp; omega) | omega) | refine Below.trans ?_ (Below.mono (by assumption) (by first | exact Nat.le_refl _ | (simp; done) | (simp; omega) | omega))))⟩
set_option maxRecDepth 100000 in
set_option maxHeartbeats 8000000 in
theorem get_ok (b g cp i : Nat) (d : Dk) (w : World) (h : DK b g cp d w) (hi : i < d.ws.length) (hl : d.ws.length ≤ 9223372036854775807) :
    Calls Try.prog 47 #[.pointer (some ⟨b, 0, none⟩), .int .i64 (i)] w fun e w' => e = .returned (.int .i64 (d.ws.getD i 0)) ∧ Below w.heap.size w w' := by
  obtain ⟨c0, c1, c2⟩ := h.cells
  have lb : LtW b w := h.row.lt
  have lg : LtW g w := own_lt h.own
  have cg := (own_cell h.own hi).1
  rw [List.getElem?_map, List.getElem?_eq_getElem hi] at cg
  have e : d.ws.getD i 0 = d.ws[i] := by rw [List.getD_eq_getElem?_getD, List.getElem?_eq_getElem hi]; rfl
  rw [e]
  obtain ⟨x, hx⟩ : ∃ x, d.ws[i] = x := ⟨_, rfl⟩
  rw [hx] at cg ⊢
  simp only [Option.map_some] at cg
  obtain ⟨n, hn⟩ : ∃ n, d.ws.length = n := ⟨_, rfl⟩
  rw [hn] at hi hl c0
  have t0 : decide ((i : Int) < 0) = false := by simp
  have t1 : decide ((i : Int) ≥ (n : Int)) = false := by simp; omega
  have t2 : decide ((n : Int) ≤ (i : Int)) = false := by simp; omega
  have t3 : decide (n ≤ i) = false := by simp; omega
  clear h e hx hn
  go_enter Try.func47, Try.ntmps47
  go_wp2
  go_ret
  exact ⟨rfl, (by repeat (first | exact Below.refl _ _ | refine Below.drew ?_ | refine below_drewN ?_ _ | refine Below.alloc ?_ (by first | exact Nat.le_refl _ | (simp; done) | (simp; omega) | omega) _ | refine Below.setCell ?_ (by first | exact Nat.le_refl _ | (simp; done) | (simp; omega) | omega) _ | refine bExtW ?_ (by first | exact Nat.le_refl _ | (simp; done) | (simp; omega) | omega) | refine Below.trans ?_ (Below.mono (by assumption) (by first | exact Nat.le_refl _ | (simp; done) | (simp; omega) | omega))))⟩
theorem DK.setL {b g cp : Nat} {d : Dk} {w : World} (h : DK b g cp d w) (x : Int) (hx : (-9223372036854775808 ≤ x ∧ x ≤ 9223372036854775807)) : DK b g cp { d with left := x } (w.setCell ⟨b, 1, none⟩ (.int .i64 x)) :=
  ⟨(h.row.set 1 _).congr fun i hi => by
    have hi3 : i = 0 ∨ i = 1 ∨ i = 2 := by omega
    rcases hi3 with rfl | rfl | rfl <;> rfl, own_other h.own (fun e => h.ne e.symm), h.ne, h.wf, hx⟩
theorem DK.setW {b g cp i : Nat} {d : Dk} {w : World} (h : DK b g cp d w) (hi : i < d.ws.length) (x : Int) (hx : (-9223372036854775808 ≤ x ∧ x ≤ 9223372036854775807)) : DK b g cp { d with ws := d.ws.set i x } (w.setCell ⟨g, i, none⟩ (.int .i64 x)) := by
  refine ⟨?_, ?_, h.ne, ?_, h.lf⟩
  · rw [List.length_set]
    exact h.row.of_block (Below.heap_setCell _ _ _ b (fun e => h.ne e))
  · have h1 := own_set h.own hi (u := .int .i64 x)
    rw [List.length_set, List.map_set]
    exact h1
  · intro y hy
    rcases List.mem_or_eq_of_mem_set hy with h1 | h1
    · exact h.wf y h1
    · rw [h1]; exact hx
/-- What a word's putting tells. -/
def PutPost (a b g cp : Nat) (d : Dk) (r : Option Dk) (w : World) (e : Ending) (w' : World) : Prop :=
  match r with
  | none => e = .returned (.bool false) ∧ DK b g cp d w' ∧ Keep3 a b g w w'
  | some d' => e = .returned (.bool true) ∧ DK b g cp d' w' ∧ Keep3 a b g w w'
set_option maxRecDepth 100000 in
set_option maxHeartbeats 8000000 in
theorem put_ok (a b g cp i : Nat) (x : Int) (d : Dk) (w : World) (h : DK b g cp d w) (hi : i < d.ws.length) (hl : d.ws.length ≤ 9223372036854775807) (hx : (-9223372036854775808 ≤ x ∧ x ≤ 9223372036854775807)) :
    Calls Try.prog 48 #[.pointer (some ⟨b, 0, none⟩), .int .i64 (i), .int .i64 (x)] w (PutPost a b g cp d (put d i x) w) := by
  obtain ⟨c0, c1, c2⟩ := h.cells
  have lb : LtW b w := h.row.lt
  have lg : LtW g w := own_lt h.own
  have fb := h.row.frozen 1
  have cg := own_cell h.own hi
  obtain ⟨y, hy⟩ : ∃ y, w.cell? ⟨g, i, none⟩ = some y := by
    rw [cg.1, List.getElem?_map, List.getElem?_eq_getElem hi]; exact ⟨_, rfl⟩
  have fg := cg.2
  have hne := h.ne
  have HD := Lib.hid h
  have HLF := Lib.hid h.lf
  have HX := Lib.hid hx
  have HI := Lib.hid hi
  obtain ⟨n, hn⟩ : ∃ n, d.ws.length = n := ⟨_, rfl⟩
  rw [hn] at hi hl c0
  have t0 : decide ((i : Int) < 0) = false := by simp
  have t1 : decide ((i : Int) ≥ (n : Int)) = false := by simp; omega
  have t2 : decide ((n : Int) ≤ (i : Int)) = false := by simp; omega
  have t3 : decide (n ≤ i) = false := by simp; omega
  clear h cg hn hx
  by_cases h0 : d.left = 0
  · have hp : put d i x = none := by unfold put; rw [if_pos h0]
    have b1 : (d.left == 0) = true := by simpa using h0
    rw [hp]
    obtain ⟨lf, hlf⟩ : ∃ lf, d.left = lf := ⟨_, rfl⟩
    rw [hlf] at b1 c1 h0
    subst h0
    clear hp hlf HX HI HLF
    go_enter Try.func48, Try.ntmps48
    go_wp2
    go_ret
    exact ⟨rfl, HD.out.keep (a1 := 0) (by repeat (first | exact Below.refl _ _ | refine Below.drew ?_ | refine below_drewN ?_ _ | refine Below.alloc ?_ (by first | exact Nat.le_refl _ | (simp; done) | (simp; omega) | omega) _ | refine Below.setCell ?_ (by first | exact Nat.le_refl _ | (simp; done) | (simp; omega) | omega) _ | refine bExtW ?_ (by first | exact Nat.le_refl _ | (simp; done) | (simp; omega) | omega) | refine Below.trans ?_ (Below.mono (by assumption) (by first | exact Nat.le_refl _ | (simp; done) | (simp; omega) | omega)))), Keep3.below (by repeat (first | exact Below.refl _ _ | refine Below.drew ?_ | refine below_drewN ?_ _ | refine Below.alloc ?_ (by first | exact Nat.le_refl _ | (simp; done) | (simp; omega) | omega) _ | refine Below.setCell ?_ (by first | exact Nat.le_refl _ | (simp; done) | (simp; omega) | omega) _ | refine bExtW ?_ (by first | exact Nat.le_refl _ | (simp; done) | (simp; omega) | omega) | refine Below.trans ?_ (Below.mono (by assumption) (by first | exact Nat.le_refl _ | (simp; done) | (simp; omega) | omega))))⟩
  · have b1 : (d.left == 0) = false := by simpa using h0
    by_cases hp0 : 0 < d.left
    · have hp : put d i x = some { ws := d.ws.set i x, left := d.left - 1 } := by unfold put; rw [if_neg h0, if_pos hp0]
      have b2 : decide (d.left > 0) = true := by simpa using hp0
      have b3 : decide (0 < d.left) = true := by simpa using hp0
      have v1 : IntKind.i64.wrap (d.left - 1) = d.left - 1 := IntWalk.i64_in _ (by have := HLF.out; omega)
      have HR := Lib.hid ((HD.out.setL (d.left - 1) (by have := HLF.out; omega)).setW HI.out x HX.out)
      rw [hp]
      clear hp h0 hp0 HLF HX HI
      go_enter Try.func48, Try.ntmps48
      go_wp2
      go_ret
      exact ⟨rfl, HR.out, ((Keep3.refl _ _ _ _).set _ _ _ (.inr (.inl rfl))).set _ _ _ (.inr (.inr rfl))⟩
    · have hp : put d i x = some { ws := d.ws.set i x, left := d.left } := by unfold put; rw [if_neg h0, if_neg hp0]
      have b2 : decide (d.left > 0) = false := by simpa using hp0
      have b3 : decide (0 < d.left) = false := by simpa using hp0
      have HR := Lib.hid (HD.out.setW HI.out x HX.out)
      rw [hp]
      clear hp h0 hp0 HLF HX HI
      go_enter Try.func48, Try.ntmps48
      go_wp2
      go_ret
      exact ⟨rfl, HR.out, (Keep3.refl _ _ _ _).set _ _ _ (.inr (.inr rfl))⟩
end Go.Proofs.Ytefmlepogpjhmaa
