/- Lemmas and contracts of functions (what each call returns, and that it changes nothing that was there) that the proof of a law of this seat uses; each lemma states its own conditions. -/
import Derived.Test.YtikddfjickkhhaaLL
import Derived.Test.YtikddfjickkhhaaCl2
import Derived.Test.YtikddfjickkhhaaCl3
import Derived.Test.YtikddfjickkhhaaClL
import Derived.Test.YtikddfjickkhhaaRegT
namespace Go.Proofs.Ytikddfjickkhhaa
open Go.RowKit
set_option linter.unusedVariables false
set_option linter.unusedSimpArgs false
open Cl
/-- What lies above the first k strands, in the rows of rb; counts, in cb. -/
def RInv (N : Nat) (ab : Nat → Nat → Bool) (rb cb k : Nat) (cf : Nat → Nat) (w : World) : Prop :=
  ∃ blk : Nat → Nat, w.rowIs rb 24 N (fun s => if s < k then .slice (some ⟨blk s, 0, none⟩) N N else .slice none 0 0) ∧
    w.rowIs cb 3 N (fun s => .int .i64 (cf s : Nat)) ∧ ∀ s, s < k → w.rowIs (blk s) 4 N (fun a => .bool (wp ab N a s))
section
variable {N : Nat} {ab : Nat → Nat → Bool} {rb cb k : Nat} {cf : Nat → Nat} {w w' : World}
theorem RInv.below (h : RInv N ab rb cb k cf w) (hb : Below w.heap.size w w') : RInv N ab rb cb k cf w' := by
  obtain ⟨blk, h1, h2, h3⟩ := h
  exact ⟨blk, rowBelow h1 hb h1.lt, rowBelow h2 hb h2.lt, fun s hs => rowBelow (h3 s hs) hb (h3 s hs).lt⟩
theorem RInv.push {g : Nat} (h : RInv N ab rb cb k cf w) (hb : Below w.heap.size w w') (hr : w'.rowIs g 4 N (fun a => .bool (wp ab N a k))) : RInv N ab rb cb (k+1) cf (w'.setCell ⟨rb, k, none⟩ (.slice (some ⟨g, 0, none⟩) N N)) := by
  obtain ⟨blk, h1, h2, h3⟩ := h.below hb
  refine ⟨fun s => if s = k then g else blk s, ?_, h2.setOther (rowIs_ne_type h2 h1 (by decide)) _, fun s hs => ?_⟩
  · refine (h1.set k (.slice (some ⟨g, 0, none⟩) N N)).congr fun i hi => ?_
    by_cases e : i = k
    · subst e; simp
    · simp only [e, if_false]
      by_cases e2 : i < k
      · rw [if_pos e2, if_pos (by omega)]
      · rw [if_neg e2, if_neg (by omega)]
  · by_cases e : s = k
    · subst e
      simp only [if_true]
      exact hr.setOther (rowIs_ne_type hr h1 (by decide)) _
    · simp only [e, if_false]
      exact (h3 s (by omega)).setOther (rowIs_ne_type (h3 s (by omega)) h1 (by decide)) _
theorem RInv.count (h : RInv N ab rb cb k cf w) (j m : Nat) : RInv N ab rb cb k (fun s => if s = j then m else cf s) (w.setCell ⟨cb, j, none⟩ (.int .i64 (m : Nat))) := by
  obtain ⟨blk, h1, h2, h3⟩ := h
  refine ⟨blk, h1.setOther (rowIs_ne_type h1 h2 (by decide)) _, ?_, fun s hs => (h3 s hs).setOther (rowIs_ne_type (h3 s hs) h2 (by decide)) _⟩
  refine (h2.set j _).congr fun i hi => ?_
  by_cases e : i = j <;> simp [e]
theorem RInv.cong {cg : Nat → Nat} (h : RInv N ab rb cb k cf w) (e : ∀ s, s < N → cf s = cg s) : RInv N ab rb cb k cg w := by
  obtain ⟨blk, h1, h2, h3⟩ := h
  exact ⟨blk, h1, h2.congr fun i hi => by rw [e i hi], h3⟩
theorem RInv.reach (h : RInv N ab rb cb k cf w) {s : Nat} (hs : s < k) (hN : s < N) : ∃ g, w.cell? ⟨rb, s, none⟩ = some (.slice (some ⟨g, 0, none⟩) N N) ∧ LtW g w ∧ ∀ a, a < N → w.cell? ⟨g, a, none⟩ = some (.bool (wp ab N a s)) := by
  obtain ⟨blk, h1, h2, h3⟩ := h
  refine ⟨blk s, ?_, (h3 s hs).lt, fun a ha => (h3 s hs).cell ha⟩
  rw [h1.cell hN, if_pos hs]
theorem RInv.cnt_lt (h : RInv N ab rb cb k cf w) : rb < w.heap.size ∧ cb < w.heap.size := by
  obtain ⟨blk, h1, h2, h3⟩ := h
  exact ⟨h1.lt, h2.lt⟩
theorem RInv.slot (h : RInv N ab rb cb k cf w) (hN : k < N) : w.cell? ⟨rb, k, none⟩ = some (.slice none 0 0) := by
  obtain ⟨blk, h1, _, _⟩ := h
  rw [h1.cell hN, if_neg (by omega)]
theorem RInv.cnt (h : RInv N ab rb cb k cf w) {s : Nat} (hN : s < N) : w.cell? ⟨cb, s, none⟩ = some (.int .i64 (cf s : Nat)) ∧ LtW cb w ∧ LtW rb w ∧ w.frozen? ⟨cb, s, none⟩ = false ∧ w.frozen? ⟨rb, s, none⟩ = false := by
  obtain ⟨blk, h1, h2, h3⟩ := h
  exact ⟨h2.cell hN, h2.lt, h1.lt, h2.frozen s, h1.frozen s⟩
end
def cfO (N : Nat) (ab : Nat → Nat → Bool) (s x : Nat) : Nat := if x < s then cov N ab x else 0
def cfI (N : Nat) (ab : Nat → Nat → Bool) (s k x : Nat) : Nat := if x = s then cnt k (fun a => wp ab N a s) else cfO N ab s x
theorem cfI_zero {N : Nat} {ab : Nat → Nat → Bool} {s x : Nat} : cfI N ab s 0 x = cfO N ab s x := by
  unfold cfI
  by_cases e : x = s
  · subst e; simp [cnt, cfO]
  · rw [if_neg e]
theorem cfI_all {N : Nat} {ab : Nat → Nat → Bool} {s x : Nat} : cfI N ab s N x = cfO N ab (s+1) x := by
  unfold cfI cfO
  by_cases e : x = s
  · subst e; rw [if_pos rfl, if_pos (by omega)]; rfl
  · rw [if_neg e]
    by_cases h : x < s
    · rw [if_pos h, if_pos (by omega)]
    · rw [if_neg h, if_neg (by omega)]
theorem IsCloth.belowB {w0 W0 w' : World} {tb W H B : Nat} {a : Option Addr} {n c : Nat} {bs : List Bool} (h : IsCloth W0 tb W H a n c bs) (hi : IsBools w0 a n bs) (h0 : Below w0.heap.size w0 W0) (hb : Below B W0 w') (htb : tb < B) (hB : w0.heap.size ≤ B) : IsCloth w' tb W H a n c bs :=
  ⟨(hb.cell (p := ⟨tb, 0, none⟩) htb).trans h.c0, (hb.cell (p := ⟨tb, 1, none⟩) htb).trans h.c1, (hb.cell (p := ⟨tb, 2, none⟩) htb).trans h.c2, hi.below (h0.trans (hb.mono hB))⟩
def ov : Option Nat → Int
  | none => -1
  | some x => (x : Nat)
theorem BelowX.extW {base mb : Nat} {W w : World} (h : BelowX base mb W w) (E : Array Obj) (d : Nat) : BelowX base mb W (extW w E d) :=
  ⟨h.os, h.tape, h.output, by rw [size_extW]; exact Nat.le_trans h.size (Nat.le_add_right _ _), fun k hk hm => (heap_extW k (Nat.lt_of_lt_of_le hk h.size)).trans (h.block k hk hm)⟩
theorem BelowX.setM {base mb : Nat} {W w : World} (h : BelowX base mb W w) (i : Nat) (v : Value) : BelowX base mb W (w.setCell ⟨mb, i, none⟩ v) :=
  ⟨h.os, h.tape, h.output, by rw [World.size_setCell]; exact h.size, fun k hk hm => (Below.heap_setCell _ _ _ k (fun e => hm (by rw [e]))).trans (h.block k hk hm)⟩
theorem BelowX.then {base mb : Nat} {W w w' : World} (h : BelowX base mb W w) (hb : Below base w w') : BelowX base mb W w' :=
  ⟨hb.os.trans h.os, hb.tape.trans h.tape, hb.output.trans h.output, Nat.le_trans h.size hb.size, fun k hk hm => (hb.block k hk).trans (h.block k hk hm)⟩
theorem BelowX.trans {base base2 mb : Nat} {W S w : World} (h : BelowX base mb W S) (h2 : BelowX base2 mb S w) (hb : base ≤ base2) : BelowX base mb W w :=
  ⟨h2.os.trans h.os, h2.tape.trans h.tape, h2.output.trans h.output, Nat.le_trans hb h2.size, fun k hk hm => (h2.block k (Nat.lt_of_lt_of_le hk hb) hm).trans (h.block k hk hm)⟩
theorem BelowX.grown {base mb : Nat} {W w w' : World} {row : Option Nat} (h : BelowX base mb W w) (hg : w.grownBy w' row) (hr : ∀ k, row = some k → base ≤ k) : BelowX base mb W w' :=
  ⟨hg.os.trans h.os, hg.tape.trans h.tape, hg.output.trans h.output, Nat.le_trans h.size hg.size, fun k hk hm => (hg.block k (Nat.lt_of_lt_of_le hk h.size) (fun e => by have := hr k e.symm; omega)).trans (h.block k hk hm)⟩
theorem extW_nil (W : World) : extW W #[] W.drawn = W := by unfold extW; simp
set_option maxRecDepth 100000 in
set_option maxHeartbeats 8000000 in
theorem Layers_bad (W H : Int) (a : Option Addr) (n c : Nat) (w : World) (h1 : (-9223372036854775808 ≤ W ∧ W ≤ 9223372036854775807)) (h2 : (-9223372036854775808 ≤ H ∧ H ≤ 9223372036854775807)) (h3 : n ≤ 9223372036854775807) (he : wrC W H n ≠ 0) :
    Calls Try.prog 27 #[.agg #[.int .i64 (W), .int .i64 (H), .slice a n c]] w fun e w' => e = .returned (.tuple #[.slice none 0 0, .int .i64 (wrC W H n)]) ∧ Below w.heap.size w w' := by
  have hb : (wrC W H n != 0) = true := by simpa using he
  have HS := Lib.hid (fun w => spun_bad W H a n c w h1 h2 h3 he)
  clear he
  go_enter Try.func27, Try.ntmps27
  (go_wp2_with fail; refine (HS.out _).mono ?_; rintro r w1 ⟨rfl, hb⟩; obtain ⟨E, d, rfl⟩ := bExt hb; clear hb)
  go_wp2
  go_ret2
  exact ⟨rfl, (by repeat (first | exact Below.refl _ _ | refine Below.drew ?_ | refine below_drewN ?_ _ | refine Below.alloc ?_ (by first | exact Nat.le_refl _ | (simp; done) | (simp; omega) | omega) _ | refine Below.setCell ?_ (by first | exact Nat.le_refl _ | (simp; done) | (simp; omega) | omega) _ | refine bExtW ?_ (by first | exact Nat.le_refl _ | (simp; done) | (simp; omega) | omega) | refine Below.trans ?_ (Below.mono (by assumption) (by first | exact Nat.le_refl _ | (simp; done) | (simp; omega) | omega))))⟩
def LayersPost (LL : List (List Nat)) (w : World) (r : Ending) (w' : World) : Prop :=
  ∃ A c, r = .returned (.tuple #[.slice A LL.length c, .int .i64 (0)]) ∧ IsLists w' A LL.length (natLL LL) ∧ Below w.heap.size w w'
set_option maxRecDepth 100000 in
set_option maxHeartbeats 8000000 in
theorem Layers_ok (W H : Nat) (a : Option Addr) (n c : Nat) (bs : List Bool) (w : World) (hi : IsBools w a n bs) (h1 : W ≤ 64) (h2 : H ≤ 64) (hn : n = W * H) (he : wrC W H n = 0) :
    Calls Try.prog 27 #[.agg #[.int .i64 (W), .int .i64 (H), .slice a n c]] w (LayersPost (layers (W+H) (abM W H bs)) w) := by
  have hn4 : n ≤ 4096 := by rw [hn]; exact Nat.le_trans (Nat.mul_le_mul h1 h2) (by omega)
  have HS := Lib.hid (fun w => spun_ok W H a n c w h1 h2 hn4 he)
  have HOv := Lib.hid (fun (tb : Nat) (w' : World) (hC : IsCloth w' tb W H a n c bs) (s : Nat) (hs : s < W + H) => over_any tb W H a n c bs w' hC h1 h2 hn s hs)
  have HI := Lib.hid hi
  have hNl : W + H ≤ 128 := by omega
  have HBd := Lib.hid (abM_bnd W H bs)
  clear hi he hn hn4
  generalize hN : W + H = N at *
  have HN := Lib.hid hN
  generalize abM W H bs = ab at *
  clear hN h1 h2
  have hmk1 := makeRow okRowsB rfl N (by omega) (by omega)
  have hmk2 := makeRow okInts' rfl N (by omega) (by omega)
  have hmk3 := makeRow okBools rfl N (by omega) (by omega)
  go_enter Try.func27, Try.ntmps27
  go_wp2_with fail
  refine (HS.out _).mono ?_
  rintro r w1 ⟨rfl, E, d, rfl⟩
  unfold webV
  go_wp2_with fail
  have hC0 : IsCloth ((((extW ((w.alloc (.cells #[.int .i64 (W), .int .i64 (H), .slice a n c] 26)).alloc (.cells #[.int .i64 (W), .int .i64 (H), .slice a n c] 26)) E d).alloc (.cells #[.int .i64 (W), .int .i64 (N), .func (.func 81) #[] #[.pointer (some ⟨w.heap.size+1, 0, none⟩)]] 67)).alloc (.cells (madeCells #[.slice none 0 0] N) 24)).alloc (.cells (madeCells #[.int .i64 0] N) 3)) (w.heap.size+1) W H a n c bs := ⟨by simp [go_sem], by simp [go_sem], by simp [go_sem], HI.out.below (by repeat (first | exact Below.refl _ _ | refine Below.drew ?_ | refine below_drewN ?_ _ | refine Below.alloc ?_ (by first | exact Nat.le_refl _ | (simp; done) | (simp; omega) | omega) _ | refine Below.setCell ?_ (by first | exact Nat.le_refl _ | (simp; done) | (simp; omega) | omega) _ | refine bExtW ?_ (by first | exact Nat.le_refl _ | (simp; done) | (simp; omega) | omega) | refine Below.trans ?_ (Below.mono (by assumption) (by first | exact Nat.le_refl _ | (simp; done) | (simp; omega) | omega))))⟩
  have hw0 : ((((extW ((w.alloc (.cells #[.int .i64 (W), .int .i64 (H), .slice a n c] 26)).alloc (.cells #[.int .i64 (W), .int .i64 (H), .slice a n c] 26)) E d).alloc (.cells #[.int .i64 (W), .int .i64 (N), .func (.func 81) #[] #[.pointer (some ⟨w.heap.size+1, 0, none⟩)]] 67)).alloc (.cells (madeCells #[.slice none 0 0] N) 24)).alloc (.cells (madeCells #[.int .i64 0] N) 3)).cell? ⟨w.heap.size+1+1+E.size, 0, none⟩ = some (.int .i64 (W)) := by simp [go_sem]
  have hw1 : ((((extW ((w.alloc (.cells #[.int .i64 (W), .int .i64 (H), .slice a n c] 26)).alloc (.cells #[.int .i64 (W), .int .i64 (H), .slice a n c] 26)) E d).alloc (.cells #[.int .i64 (W), .int .i64 (N), .func (.func 81) #[] #[.pointer (some ⟨w.heap.size+1, 0, none⟩)]] 67)).alloc (.cells (madeCells #[.slice none 0 0] N) 24)).alloc (.cells (madeCells #[.int .i64 0] N) 3)).cell? ⟨w.heap.size+1+1+E.size, 1, none⟩ = some (.int .i64 (N)) := by simp [go_sem]
  have hw2 : ((((extW ((w.alloc (.cells #[.int .i64 (W), .int .i64 (H), .slice a n c] 26)).alloc (.cells #[.int .i64 (W), .int .i64 (H), .slice a n c] 26)) E d).alloc (.cells #[.int .i64 (W), .int .i64 (N), .func (.func 81) #[] #[.pointer (some ⟨w.heap.size+1, 0, none⟩)]] 67)).alloc (.cells (madeCells #[.slice none 0 0] N) 24)).alloc (.cells (madeCells #[.int .i64 0] N) 3)).cell? ⟨w.heap.size+1+1+E.size, 2, none⟩ = some (.func (.func 81) #[] #[.pointer (some ⟨w.heap.size+1, 0, none⟩)]) := by simp [go_sem]
  have hB0 : Below w.heap.size w ((((extW ((w.alloc (.cells #[.int .i64 (W), .int .i64 (H), .slice a n c] 26)).alloc (.cells #[.int .i64 (W), .int .i64 (H), .slice a n c] 26)) E d).alloc (.cells #[.int .i64 (W), .int .i64 (N), .func (.func 81) #[] #[.pointer (some ⟨w.heap.size+1, 0, none⟩)]] 67)).alloc (.cells (madeCells #[.slice none 0 0] N) 24)).alloc (.cells (madeCells #[.int .i64 0] N) 3)) := (by repeat (first | exact Below.refl _ _ | refine Below.drew ?_ | refine below_drewN ?_ _ | refine Below.alloc ?_ (by first | exact Nat.le_refl _ | (simp; done) | (simp; omega) | omega) _ | refine Below.setCell ?_ (by first | exact Nat.le_refl _ | (simp; done) | (simp; omega) | omega) _ | refine bExtW ?_ (by first | exact Nat.le_refl _ | (simp; done) | (simp; omega) | omega) | refine Below.trans ?_ (Below.mono (by assumption) (by first | exact Nat.le_refl _ | (simp; done) | (simp; omega) | omega))))
  have hR0 : RInv N ab (w.heap.size+1+1+E.size+1) (w.heap.size+1+1+E.size+1+1) 0 (fun _ => 0) ((((extW ((w.alloc (.cells #[.int .i64 (W), .int .i64 (H), .slice a n c] 26)).alloc (.cells #[.int .i64 (W), .int .i64 (H), .slice a n c] 26)) E d).alloc (.cells #[.int .i64 (W), .int .i64 (N), .func (.func 81) #[] #[.pointer (some ⟨w.heap.size+1, 0, none⟩)]] 67)).alloc (.cells (madeCells #[.slice none 0 0] N) 24)).alloc (.cells (madeCells #[.int .i64 0] N) 3)) := by
    refine ⟨fun _ => 0, ?_, ?_, fun s hs => absurd hs (by omega)⟩
    · have := (World.rowIs_made ((extW ((w.alloc (.cells #[.int .i64 (W), .int .i64 (H), .slice a n c] 26)).alloc (.cells #[.int .i64 (W), .int .i64 (H), .slice a n c] 26)) E d).alloc (.cells #[.int .i64 (W), .int .i64 (N), .func (.func 81) #[] #[.pointer (some ⟨w.heap.size+1, 0, none⟩)]] 67)) (.slice none 0 0) N 24).alloc (.cells (madeCells #[.int .i64 0] N) 3)
      simpa using this
    · have := World.rowIs_made (((extW ((w.alloc (.cells #[.int .i64 (W), .int .i64 (H), .slice a n c] 26)).alloc (.cells #[.int .i64 (W), .int .i64 (H), .slice a n c] 26)) E d).alloc (.cells #[.int .i64 (W), .int .i64 (N), .func (.func 81) #[] #[.pointer (some ⟨w.heap.size+1, 0, none⟩)]] 67)).alloc (.cells (madeCells #[.slice none 0 0] N) 24)) (.int .i64 0) N 3
      simpa using this
  generalize ((((extW ((w.alloc (.cells #[.int .i64 (W), .int .i64 (H), .slice a n c] 26)).alloc (.cells #[.int .i64 (W), .int .i64 (H), .slice a n c] 26)) E d).alloc (.cells #[.int .i64 (W), .int .i64 (N), .func (.func 81) #[] #[.pointer (some ⟨w.heap.size+1, 0, none⟩)]] 67)).alloc (.cells (madeCells #[.slice none 0 0] N) 24)).alloc (.cells (madeCells #[.int .i64 0] N) 3)) = W0 at *
  have hwb : w.heap.size+1 < w.heap.size+1+1+E.size := by omega
  generalize w.heap.size+1+1+E.size = wb at *
  generalize htb : w.heap.size+1 = tb at *
  generalize hrb : wb + 1 = rb at *
  generalize hcb : rb + 1 = cb at *
  have hrbw : w.heap.size ≤ rb ∧ wb < rb ∧ tb < rb ∧ rb < cb := by omega
  have HB0 := Lib.hid hB0
  have HC0 := Lib.hid hC0
  have HR0 := Lib.hid hR0
  clear htb hrb hcb hB0 hC0 hR0 hmk1 hmk2
  go_loopw [34] (fun i wr => ∃ s : Nat, s ≤ N ∧ i = .int .i64 s ∧ RInv N ab rb cb s (cfO N ab s) wr ∧ Below rb W0 wr) (fun i _ => N - (intOf i).toNat)
  case atStart => exact ⟨0, Nat.zero_le _, rfl, HR0.out.cong fun s hs => rfl, Below.refl _ _⟩
  case round =>
    obtain ⟨s, hs, rfl, hri, hbel⟩ := hrel
    by_cases hsN : s < N
    · have c0 := (hbel.cell (p := ⟨wb, 0, none⟩) hrbw.2.1).trans hw0
      have c1 := (hbel.cell (p := ⟨wb, 1, none⟩) hrbw.2.1).trans hw1
      have c2 := (hbel.cell (p := ⟨wb, 2, none⟩) hrbw.2.1).trans hw2
      have HCl := Lib.hid (HC0.out.belowB HI.out HB0.out hbel hrbw.2.2.1 hrbw.1)
      have HB := Lib.hid hbel
      have HR := Lib.hid hri
      clear hbel hri
      go_wp2_with fail
      refine (HOv.out tb _ HCl.out s hsN).mono ?_
      rintro r w1 ⟨rfl, hrow, hb1⟩
      have HR1 := Lib.hid (HR.out.push hb1 hrow)
      have hrw := hrow
      have r1 := (HR.out.below hb1).cnt hsN
      have r2 := (HR.out.below hb1).slot hsN
      have HB1 := Lib.hid (HB.out.trans (hb1.mono (by have := HR.out.cnt_lt; omega)))
      generalize hge : wr.heap.size + 1 = g at *
      have hgr : rb ≠ g := Ne.symm (by obtain ⟨blk, q1, _⟩ := HR.out.below hb1; exact rowIs_ne_type hrw q1 (by decide))
      have hrw2 := hrw.setOther (a := ⟨rb, s, none⟩) (Ne.symm hgr) (.slice (some ⟨g, 0, none⟩) N N)
      obtain ⟨_, l2, l3, _, l5⟩ := r1
      have l4 : LtW g w1 := hrw.lt
      clear hb1 hrow hrw hge c0 c1 c2 HR
      go_wp2_with fail
      have HB2 := Lib.hid (HB1.out.setCell (p := ⟨rb, s, none⟩) (Nat.le_refl rb) (.slice (some ⟨g, 0, none⟩) N N))
      clear HB1 l2 l3 l5 l4 r2
      have HRW := Lib.hid hrw2
      clear hrw2
      generalize w1.setCell ⟨rb, s, none⟩ (.slice (some ⟨g, 0, none⟩) N N) = W1 at *
      go_loopw [48] (fun i wq => ∃ k : Nat, k ≤ N ∧ i = .int .i64 k ∧ RInv N ab rb cb (s+1) (cfI N ab s k) wq ∧ wq.rowIs g 4 N (fun a => .bool (wp ab N a s)) ∧ Below rb W0 wq) (fun i _ => N - (intOf i).toNat)
      case atStart => exact ⟨0, Nat.zero_le _, rfl, HR1.out.cong fun x hx => cfI_zero.symm, HRW.out, HB2.out⟩
      case round =>
        clear HR1 HRW HB2
        obtain ⟨k, hk, rfl, hri, hrw, hbel⟩ := hrel
        by_cases hkN : k < N
        · have ck := hrw.cell hkN
          have lg : LtW g wr := hrw.lt
          obtain ⟨d1, d2, _, d4, _⟩ := hri.cnt hsN
          have hck : cfI N ab s k s = cnt k (fun a => wp ab N a s) := by unfold cfI; rw [if_pos rfl]
          rw [hck] at d1
          have HCK := Lib.hid hck
          clear hck
          have hcl := cnt_le k (fun a => wp ab N a s)
          have hcs := cnt_succ k (fun a => wp ab N a s)
          have HRI := Lib.hid hri; have HRW := Lib.hid hrw; have HBE := Lib.hid hbel
          have HCS : Hid (∀ x, cfI N ab s (k+1) x = if x = s then cnt (k+1) (fun a => wp ab N a s) else cfI N ab s k x) := Lib.hid fun x => by
            unfold cfI
            by_cases e : x = s
            · rw [if_pos e, if_pos e]
            · rw [if_neg e, if_neg e, if_neg e]
          have HC1 := Lib.hid hcs
          clear hri hrw hbel hcs
          generalize cnt (k+1) (fun a => wp ab N a s) = m1 at *
          generalize cnt k (fun a => wp ab N a s) = m at *
          cases hv : wp ab N k s with
          | false =>
            rw [hv] at ck HC1
            have HM : Hid (m1 = m) := Lib.hid (by have := HC1.out; simpa using this)
            go_wp2
            go_roundw
            case rel => exact ⟨k + 1, by omega, by go_num, HRI.out.cong fun x hx => by
              rw [HCS.out, HM.out]
              by_cases e : x = s
              · rw [if_pos e, e]; exact HCK.out
              · rw [if_neg e], HRW.out, HBE.out⟩
            case measure => simp [intOf]; omega
          | true =>
            rw [hv] at ck HC1
            have HM : Hid (m1 = m + 1) := Lib.hid (by have := HC1.out; simpa using this)
            go_wp2
            go_roundw
            case rel => exact ⟨k + 1, by omega, by go_num, by
              have := (HRI.out.count s (m+1)).cong (cg := cfI N ab s (k+1)) (fun x hx => by rw [HCS.out, HM.out])
              exact this, HRW.out.setOther (by obtain ⟨_, _, q1, _⟩ := HRI.out; exact rowIs_ne_type HRW.out q1 (by decide)) _, HBE.out.setCell (by simp; omega) _⟩
            case measure => simp [intOf]; omega
        · obtain rfl : k = N := by omega
          have HRI := Lib.hid hri; have HBE := Lib.hid hbel
          clear hri hbel hrw
          go_wp2
          go_roundw
          case rel => exact ⟨s + 1, by omega, by go_num, HRI.out.cong fun x hx => cfI_all, HBE.out⟩
          case measure => simp [intOf]; omega
    · obtain rfl : N = s := by omega
      have c1 := (hbel.cell (p := ⟨wb, 1, none⟩) hrbw.2.1).trans hw1
      have hri2 := hri.cong (cg := cov N ab) (fun x hx => by unfold cfO; rw [if_pos hx])
      have HRP := Lib.hid hri2
      have HB := Lib.hid (hbel.alloc (by have := hri.cnt_lt; omega) (.cells (madeCells #[.bool false] N) 4))
      have HD := Lib.hid (World.rowIs_made wr (.bool false) N 4)
      have HPA := Lib.hid ((Below.refl _ _).alloc (Nat.le_refl _) (.cells (madeCells #[.bool false] N) 4) : Below wr.heap.size wr (wr.alloc (.cells (madeCells #[.bool false] N) 4)))
      have lwb : LtW wb wr := by unfold LtW; have := hri.cnt_lt; omega
      have hsz : (wr.alloc (.cells (madeCells #[.bool false] N) 4)).heap.size = wr.heap.size + 1 := by simp
      have hdb : rb < wr.heap.size ∧ cb < wr.heap.size := hri.cnt_lt
      clear hbel hri hri2
      go_wp2_with fail
      generalize wr.alloc (.cells (madeCells #[.bool false] N) 4) = W3 at *
      obtain ⟨db, hdbe⟩ : ∃ db, wr.heap.size = db := ⟨_, rfl⟩
      rw [hdbe] at HD hsz hdb HPA ⊢
      obtain ⟨base, hbase⟩ : ∃ base, base = W3.heap.size := ⟨_, rfl⟩
      have hbs : db < base := by omega
      have HRX : Hid (∀ wq : World, BelowX base db W3 wq → RInv N ab rb cb N (cov N ab) wq ∧ Below rb W0 wq) := Lib.hid fun wq hX => by
        have h1 : Below db W3 wq := hX.below hbase.symm (Nat.le_refl _) hbs
        refine ⟨HRP.out.below (by rw [hdbe]; exact HPA.out.trans h1), HB.out.trans (h1.mono (by omega))⟩
      have HBS := Lib.hid hbase
      clear hbase hsz hdbe HRP HPA HB lwb c1 hw0 hw1 hw2 HR0 HC0
      have hdbr : rb < db ∧ cb < db := hdb
      clear hdb
      obtain ⟨M, hM⟩ : ∃ M, (heads N ab).length = M := ⟨_, rfl⟩
      have HM := Lib.hid hM
      clear hM
      go_loopw [13, 11] (fun lf v wr => ∃ k : Nat, k ≤ M ∧ lf = .int .i64 ((N - cnt N (dn N ab ((heads N ab).take k)) : Nat) : Int) ∧ OutL base v (natLL ((layers N ab).take k)) wr ∧ wr.rowIs db 4 N (fun s => .bool (dn N ab ((heads N ab).take k) s)) ∧ BelowX base db W3 wr) (fun lf _ _ => (intOf lf).toNat)
      case atStart => exact ⟨0, Nat.zero_le _, by rw [show cnt N (dn N ab ((heads N ab).take 0)) = 0 by simp [cnt, dn]]; rfl, OutL.nil _ _, HD.out.congr fun i hi => by simp [dn], BelowX.refl (by rw [HBS.out]; exact Nat.le_refl _)⟩
      case round =>
        clear HD
        obtain ⟨k, hk, rfl, hout, hdn, hX⟩ := hrel
        by_cases hkM : k < M
        · have hkH : k < (heads N ab).length := by rw [HM.out]; exact hkM
          have hleft := notall hkH
          have HNX := Lib.hid (bst_next HBd.out hkH)
          have HHN := Lib.hid (heads_get hkH)
          have HFX := Lib.hid (fun s => dn_fresh (n := N) (ab := ab) (s := s) HBd.out hkH)
          have HDS := Lib.hid (fun s => dn_succ (n := N) (ab := ab) hkH s)
          have HLS : Hid ((layers N ab).take (k+1) = (layers N ab).take k ++ [sheet N ab (heads N ab)[k]]) := Lib.hid (by
            unfold layers
            rw [List.take_succ_eq_append_getElem (by simpa using hkH)]
            simp)
          have HOUT := Lib.hid hout
          have HDR := Lib.hid hdn
          have HX := Lib.hid hX
          have HRI := Lib.hid (HRX.out _ hX).1
          clear hout hdn hX
          generalize (heads N ab)[k] = fst at *
          clear hkH
          generalize dn N ab ((heads N ab).take k) = dnk at *
          generalize hdk1 : dn N ab ((heads N ab).take (k+1)) = dnk1 at *
          have HDK1 := Lib.hid hdk1
          clear hdk1
          generalize hcd : cnt N dnk = cd at *
          have HCD := Lib.hid hcd
          clear hcd
          have hlp : decide (0 < ((N - cd : Nat) : Int)) = true := by simp; omega
          obtain ⟨lf, hlf⟩ : ∃ lf, N - cd = lf := ⟨_, rfl⟩
          have HLF := Lib.hid hlf
          have hlf0 : 0 < lf ∧ lf ≤ N := by omega
          rw [hlf] at hlp ⊢
          clear hlf hleft
          go_wp2_with fail
          go_loopw [14, 70] (fun f i wq => ∃ (x : Nat) (E : Array Obj) (d : Nat), x ≤ N ∧ i = .int .i64 x ∧ f = .int .i64 (ov (bst dnk (cov N ab) x)) ∧ wq = extW wr E d) (fun _ i _ => N - (intOf i).toNat)
          case atStart => exact ⟨0, #[], wr.drawn, Nat.zero_le _, rfl, rfl, (extW_nil wr).symm⟩
          case round =>
            obtain ⟨x, E, d, hx, rfl, rfl, rfl⟩ := hrel
            by_cases hxN : x < N
            · have cd := HDR.out.cell hxN
              obtain ⟨cx, lcb, lrb, _, _⟩ := HRI.out.cnt hxN
              have ldb : LtW db wr := HDR.out.lt
              have hcx := cov_le (n := N) (ab := ab) x
              have HBSP := Lib.hid (bst_spec dnk (cov N ab) x)
              have hi0 : (0 : Int) ≤ (x : Int) := by omega
              have hi1 : (x : Int) < (N : Int) := by omega
              have HBS1 : Hid (bst dnk (cov N ab) (x+1) = match bst dnk (cov N ab) x with
                | none => if dnk x = false then some x else none
                | some b => if dnk x = false ∧ cov N ab x < cov N ab b then some x else some b) := Lib.hid rfl
              cases hdx : dnk x with
              | true =>
                rw [hdx] at cd HBS1
                have HBN : Hid (ov (bst dnk (cov N ab) (x+1)) = ov (bst dnk (cov N ab) x)) := Lib.hid (by
                  rw [HBS1.out]
                  cases bst dnk (cov N ab) x <;> simp)
                clear hdx HBS1 HBSP
                obtain ⟨bv, hbv⟩ : ∃ bv, ov (bst dnk (cov N ab) x) = bv := ⟨_, rfl⟩
                rw [hbv] at HBN ⊢
                clear hbv
                go_wp2_with fail
                (refine wp_region_ext (by kernel_rfl) (by kernel_rfl) ?_; (repeat (first | ((with_reducible refine ext_step (fun K hK => ?_)); go_simp; first | (refine hK _ ?_; clear hK K) | (apply Exists.intro; refine ⟨fun _ _ => ?_, hK _ ?_⟩; fail; clear hK K)))); refine wpQuiet_nil ?_; intro E d)
                simp only [extW_extW]
                go_wp2
                go_roundw
                case rel => exact ⟨x + 1, _, _, by omega, by go_num, by rw [HBN.out], rfl⟩
                case measure => simp [intOf]; omega
              | false =>
                rw [hdx] at cd HBS1
                clear hdx
                cases hbo : bst dnk (cov N ab) x with
                | none =>
                  rw [hbo] at HBS1
                  have HBN : Hid (ov (bst dnk (cov N ab) (x+1)) = (x : Nat)) := Lib.hid (by rw [HBS1.out]; rfl)
                  clear hbo HBS1 HBSP
                  rw [show ov none = -1 from rfl]
                  go_wp2_with fail
                  (refine wp_region_ext (by kernel_rfl) (by kernel_rfl) ?_; (repeat (first | ((with_reducible refine ext_step (fun K hK => ?_)); go_simp; first | (refine hK _ ?_; clear hK K) | (apply Exists.intro; refine ⟨fun _ _ => ?_, hK _ ?_⟩; fail; clear hK K)))); refine wpQuiet_nil ?_; intro E d)
                  simp only [extW_extW]
                  go_wp2
                  go_roundw
                  case rel => exact ⟨x + 1, _, _, by omega, by go_num, by rw [HBN.out], rfl⟩
                  case measure => simp [intOf]; omega
                | some b =>
                  have hbx : b < x := by
                    rcases HBSP.out with ⟨h, _⟩ | ⟨b', h, h2, _⟩
                    · rw [hbo] at h; cases h
                    · rw [hbo] at h; injection h with h; omega
                  rw [hbo] at HBS1
                  rw [show ov (some b) = (b : Nat) from rfl]
                  have cb2 := (HRI.out.cnt (show b < N by omega)).1
                  have hb0 : decide ((b : Int) < 0) = false := by simp
                  have hi2 : (0 : Int) ≤ (b : Int) := by omega
                  have hi3 : (b : Int) < (N : Int) := by omega
                  by_cases hcc : cov N ab x < cov N ab b
                  · have HBN : Hid (ov (bst dnk (cov N ab) (x+1)) = (x : Nat)) := Lib.hid (by rw [HBS1.out]; simp only [if_pos (And.intro trivial hcc)]; rfl)
                    have hcd : decide (cov N ab x < cov N ab b) = true := by simpa using hcc
                    clear hbo HBS1 HBSP hcc
                    generalize cov N ab x = vx at *
                    generalize cov N ab b = vb at *
                    go_wp2_with fail
                    (refine wp_region_ext (by kernel_rfl) (by kernel_rfl) ?_; (repeat (first | ((with_reducible refine ext_step (fun K hK => ?_)); go_simp; first | (refine hK _ ?_; clear hK K) | (apply Exists.intro; refine ⟨fun _ _ => ?_, hK _ ?_⟩; fail; clear hK K)))); refine wpQuiet_nil ?_; intro E d)
                    simp only [extW_extW]
                    go_wp2
                    go_roundw
                    case rel => exact ⟨x + 1, _, _, by omega, by go_num, by rw [HBN.out], rfl⟩
                    case measure => simp [intOf]; omega
                  · have HBN : Hid (ov (bst dnk (cov N ab) (x+1)) = (b : Nat)) := Lib.hid (by rw [HBS1.out]; simp only [if_neg (fun h : _ ∧ _ => hcc h.2)]; rfl)
                    have hcd : decide (cov N ab x < cov N ab b) = false := by simpa using hcc
                    clear hbo HBS1 HBSP hcc
                    generalize cov N ab x = vx at *
                    generalize cov N ab b = vb at *
                    go_wp2_with fail
                    (refine wp_region_ext (by kernel_rfl) (by kernel_rfl) ?_; (repeat (first | ((with_reducible refine ext_step (fun K hK => ?_)); go_simp; first | (refine hK _ ?_; clear hK K) | (apply Exists.intro; refine ⟨fun _ _ => ?_, hK _ ?_⟩; fail; clear hK K)))); refine wpQuiet_nil ?_; intro E d)
                    simp only [extW_extW]
                    go_wp2
                    go_roundw
                    case rel => exact ⟨x + 1, _, _, by omega, by go_num, by rw [HBN.out], rfl⟩
                    case measure => simp [intOf]; omega
            · obtain rfl : N = x := by omega
              rw [HNX.out, show ov (some fst) = (fst : Nat) from rfl]
              have hX2 := HX.out.extW E d
              have HDR2 := Lib.hid (rowBelow HDR.out (bExtW (Below.refl _ _) (Nat.le_refl _) : Below wr.heap.size wr (extW wr E d)) HDR.out.lt)
              have HOUT2 := Lib.hid (HOUT.out.below (bExtW (Below.refl _ _) (Nat.le_refl _) : Below wr.heap.size wr (extW wr E d)))
              have HX2 := Lib.hid hX2
              clear hX2
              go_wp2_with fail
              have hsS : base ≤ (extW wr E d).heap.size := HX2.out.size
              obtain ⟨S, hS⟩ : ∃ S, S = extW wr E d := ⟨_, rfl⟩
              rw [← hS] at hsS HX2 HOUT2 HDR2 ⊢
              clear hS
              obtain ⟨bs5, hb5⟩ : ∃ b, b = S.heap.size := ⟨_, rfl⟩
              have HB5 := Lib.hid hb5
              rw [← hb5] at hsS
              clear hb5 HX HDR HOUT HRI
              go_loopw [97, 16, 13] (fun i v lf wq => ∃ x : Nat, x ≤ N ∧ i = .int .i64 x ∧ wq.ownsRow bs5 3 1 v ((List.range x).filter (fun a => scc N ab a fst)).length (natV ((List.range x).filter (fun a => scc N ab a fst))) ∧ wq.rowIs db 4 N (fun s => .bool (mkd dnk (fun s => scc N ab s fst) x s)) ∧ BelowX bs5 db S wq ∧ lf = .int .i64 ((N - cnt N (mkd dnk (fun s => scc N ab s fst) x) : Nat) : Int)) (fun i _ _ _ => N - (intOf i).toNat)
              case atStart =>
                refine ⟨0, Nat.zero_le _, rfl, World.ownsRow_nil _ _ _ _, HDR2.out.congr fun i hi => by simp [mkd], BelowX.refl (by rw [HB5.out]; exact Nat.le_refl _), ?_⟩
                rw [cnt_congr (n := N) (g := dnk) (fun a ha => by simp [mkd]), HCD.out, HLF.out]
              case round =>
                obtain ⟨x, hx, rfl, hown, hdr, hX5, rfl⟩ := hrel
                by_cases hxN : x < N
                · obtain ⟨hri, _⟩ := HRX.out _ (HX2.out.trans hX5 hsS)
                  obtain ⟨g1, e1, lg1, r1⟩ := hri.reach hxN hxN
                  obtain ⟨g2, e2, lg2, r2⟩ := hri.reach HHN.out.1 HHN.out.1
                  have f1 := r1 fst HHN.out.1
                  have f2 := r2 x hxN
                  obtain ⟨_, _, lrb, _, _⟩ := hri.cnt hxN
                  have hi0 : (0 : Int) ≤ (x : Int) := by omega
                  have hi1 : (x : Int) < (N : Int) := by omega
                  have hi2 : (0 : Int) ≤ (fst : Int) := by omega
                  have hi3 : (fst : Int) < (N : Int) := by have := HHN.out.1; omega
                  have hsc : scc N ab x fst = (wp ab N x fst && wp ab N fst x) := rfl
                  have HSK := Lib.hid (fun h => mkd_skip (dnk := dnk) (p := fun s => scc N ab s fst) (x := x) h)
                  have HTK := Lib.hid (fun h => mkd_take (dnk := dnk) (p := fun s => scc N ab s fst) (x := x) h)
                  have HCN := Lib.hid (fun h => mkd_cnt (dnk := dnk) (p := fun s => scc N ab s fst) hxN h (HFX.out x h))
                  have HFS := Lib.hid (filter_snoc x (fun a => scc N ab a fst))
                  have HO := Lib.hid hown; have HR := Lib.hid hdr; have HX5 := Lib.hid hX5
                  have hll : ((List.range x).filter (fun a => scc N ab a fst)).length ≤ x := cnt_le x _
                  have hsz5 := hX5.size
                  clear hown hdr hX5 r1 r2 hri
                  cases hw1 : wp ab N fst x with
                  | false =>
                    rw [hw1] at f1 hsc
                    rw [Bool.and_false] at hsc
                    have HSC := Lib.hid hsc
                    clear hw1 hsc f2
                    go_wp2
                    go_roundw
                    case rel => exact ⟨x + 1, by omega, by go_num, by rw [HFS.out, HSC.out]; simpa using HO.out, HR.out.congr (fun i hi => by rw [HSK.out HSC.out]), HX5.out, by rw [cnt_congr (fun a ha => HSK.out HSC.out a)]⟩
                    case measure => simp [intOf]; omega
                  | true =>
                    rw [hw1] at f1 hsc
                    rw [Bool.and_true] at hsc
                    cases hw2 : wp ab N x fst with
                    | false =>
                      rw [hw2] at f2 hsc
                      have HSC := Lib.hid hsc
                      clear hw1 hw2 hsc
                      go_wp2
                      go_roundw
                      case rel => exact ⟨x + 1, by omega, by go_num, by rw [HFS.out, HSC.out]; simpa using HO.out, HR.out.congr (fun i hi => by rw [HSK.out HSC.out]), HX5.out, by rw [cnt_congr (fun a ha => HSK.out HSC.out a)]⟩
                      case measure => simp [intOf]; omega
                    | true =>
                      rw [hw2] at f2 hsc
                      have HSC := Lib.hid hsc
                      have hcn := HCN.out hsc
                      clear hw1 hw2 hsc
                      generalize (List.range x).filter (fun a => scc N ab a fst) = L at *
                      go_wp2_with (at_builtin; refine wpApp okInts' rfl (.tmp 116) (.tmp 118) rfl bs5 _ _ _ #[.int .i64 x] rfl HO.out rfl rfl ?_ (by omega) (by omega) hsz5 ?_)
                      · simp [Value.oneCell']
                      intro v' w2 hown2 hb2
                      rw [← natV_snoc] at hown2
                      have hdb5 : db < bs5 := by omega
                      have HR2 := Lib.hid (rowBelow HR.out hb2 hdb5)
                      have cdx := (rowBelow HR.out hb2 hdb5).cell hxN
                      have fdx := (rowBelow HR.out hb2 hdb5).frozen x
                      have ldx : LtW db w2 := (rowBelow HR.out hb2 hdb5).lt
                      have HX6 := Lib.hid ((HX5.out.then hb2).setM x (.bool true))
                      have HO2 := Lib.hid (ownsRow_setCell_below hown2 (a := ⟨db, x, none⟩) hdb5 (.bool true))
                      obtain ⟨cc, hcc⟩ : ∃ cc, cnt N (mkd dnk (fun s => scc N ab s fst) x) = cc := ⟨_, rfl⟩
                      rw [hcc] at hcn ⊢
                      obtain ⟨l, hl⟩ : ∃ l, N - cc = l := ⟨_, rfl⟩
                      rw [hl]
                      have HL := Lib.hid hl
                      have HCC := Lib.hid hcn.1
                      have hl2 : 0 < l ∧ l ≤ N := by omega
                      clear hown2 hb2 hcc hl hcn f1 f2
                      go_wp2
                      go_roundw
                      case rel => exact ⟨x + 1, by omega, by go_num, by rw [HFS.out, HSC.out]; simp only [if_true]; rw [List.length_append]; exact HO2.out, (HR2.out.set x (.bool true)).congr (fun i hi => by
                        rw [HTK.out HSC.out]
                        by_cases e : i = x <;> simp [e]), HX6.out, by rw [HCC.out]; have := HL.out; congr 1; omega⟩
                      case measure => simp [intOf]; omega
                · obtain rfl : N = x := by omega
                  have HSH : Hid ((List.range N).filter (fun a => scc N ab a fst) = sheet N ab fst) := Lib.hid rfl
                  have HMK : Hid (∀ s, s < N → mkd dnk (fun s => scc N ab s fst) N s = dnk1 s) := Lib.hid fun s hs => by
                    rw [HDS.out]; unfold mkd; rw [decide_eq_true hs, Bool.true_and]
                  have hcm : cnt N (mkd dnk (fun s => scc N ab s fst) N) = cnt N dnk1 := cnt_congr HMK.out
                  rw [hcm]
                  have hd1 := hdr.congr (g := fun s => .bool (dnk1 s)) (fun i hi => by rw [HMK.out i hi])
                  have HR := Lib.hid hd1
                  have hlt1 : N - cnt N dnk1 < lf := by
                    have h1 := cnt_lt (n := N) (f := dnk) (g := dnk1) (fun a _ h => by rw [HDS.out, h]; rfl) HHN.out.1 (HFX.out fst (scc_self _)) (by rw [HDS.out, scc_self]; simp)
                    have h2 := HCD.out
                    have h3 := HLF.out
                    have h4 := cnt_le N dnk1
                    omega
                  have HO := Lib.hid (IntRow.of_nats hown)
                  have HX5 := Lib.hid hX5
                  have hOUT5 := HOUT2.out.belowX (by rw [← HB5.out]; exact hX5) HDR2.out (by decide) (by decide)
                  obtain ⟨AO, cO, rfl⟩ := hOUT5.form
                  obtain ⟨vs, ho5, hr5⟩ := hOUT5
                  have HO5 := Lib.hid ho5; have HR5 := Lib.hid hr5
                  have hln : (natLL ((layers N ab).take k)).length ≤ 1000 := by
                    have h1 := heads_len (n := N) (ab := ab)
                    have h2 := cnt_le N (isHd N ab)
                    rw [natLL_len, List.length_take]; unfold layers; rw [List.length_map]; omega
                  obtain ⟨AS, cS, rfl⟩ := own_form hown
                  have hXW : BelowX base db W3 wr := HX2.out.trans hX5 hsS
                  have HXW := Lib.hid hXW
                  have hszW : base ≤ wr.heap.size := hXW.size
                  clear hown hdr hX5 hd1 hcm ho5 hr5 hXW HNX HHN HDS HFX HCD HLF HX2 HDR2 HOUT2 HB5 HMK HX5
                  rw [HSH.out] at HO ⊢
                  generalize hLL : natLL ((layers N ab).take k) = LL at *
                  have HLL := Lib.hid hLL
                  clear hLL
                  obtain ⟨ln, hln2⟩ : ∃ n, LL.length = n := ⟨_, rfl⟩
                  rw [hln2] at hln HO5 ⊢
                  have HLN := Lib.hid hln2
                  clear hln2
                  go_wp2_with (at_builtin; refine wpAppG okLists rfl (.tmp 126) (.tmp 128) rfl base _ _ _ #[.slice AS (sheet N ab fst).length cS] wr.heap.size rfl (HO5.out.alloc _) rfl ?_ rfl ?_ (by omega) (by omega) (by rw [World.size_alloc]; omega) ?_)
                  · intro j u hj
                    rw [World.cell?_alloc_new]; exact hj
                  · simp [Value.oneCell']
                  · intro v' w2 hown2 hg2
                    obtain ⟨A2, c2, rfl⟩ := own_form hown2
                    have hal : Below wr.heap.size wr (wr.alloc (.cells #[.slice AS (sheet N ab fst).length cS] 23)) := (Below.refl _ _).alloc (Nat.le_refl _) _
                    have HOUTN := Lib.hid (OutL.app (LL := LL) (zs := natI (sheet N ab fst)) (by rw [HLN.out]; exact HO5.out) HR5.out HO.out hal (by rw [HLN.out]; exact hown2) hg2)
                    have HRN := Lib.hid ((HR.out.alloc (.cells #[.slice AS (sheet N ab fst).length cS] 23)).of_block (hg2.block db (HR.out.alloc _).lt (rowIs_not_own HR.out HO5.out (by decide))))
                    have HXN := Lib.hid ((HXW.out.then (hal.mono hszW)).grown hg2 (fun k e => (HO5.out.lt k e).1))
                    clear hown2 hg2 hal
                    go_wp2
                    go_roundw
                    case rel => exact ⟨k + 1, by omega, by rw [HDK1.out], by
                      rw [HLS.out, show natLL ((layers N ab).take k ++ [sheet N ab fst]) = natLL ((layers N ab).take k) ++ [natI (sheet N ab fst)] by simp [natLL], HLL.out]
                      exact HOUTN.out, by rw [HDK1.out]; exact HRN.out, HXN.out⟩
                    case measure => simp [intOf]; omega
        · obtain rfl : M = k := by omega
          have hall : cnt N (dn N ab ((heads N ab).take M)) = N := cnt_full.2 fun a ha => by
            rw [show (heads N ab).take M = heads N ab from List.take_of_length_le (by rw [HM.out]; exact Nat.le_refl _)]
            exact dn_all HBd.out ha
          rw [hall, Nat.sub_self]
          have HLE : Hid ((layers N ab).take M = layers N ab) := Lib.hid (List.take_of_length_le (by unfold layers; rw [List.length_map, HM.out]; exact Nat.le_refl _))
          rw [HLE.out] at hout
          obtain ⟨AO, cO, rfl, hls⟩ := hout.lists
          rw [natLL_len] at hls
          rw [natLL_len]
          have HLS := Lib.hid hls
          have HBW := Lib.hid (HB0.out.trans ((HRX.out _ hX).2.mono hrbw.1))
          clear hout hls hX hdn hall
          generalize layers N ab = LY at *
          go_wp2
          go_ret2
          exact ⟨AO, cO, rfl, HLS.out, HBW.out⟩
end Go.Proofs.Ytikddfjickkhhaa
