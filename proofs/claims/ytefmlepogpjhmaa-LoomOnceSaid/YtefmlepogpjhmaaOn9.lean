/- Chapter 10: each pick is beaten once: whatever comes in; how it is read off memory. -/
import Derived.Test.YtefmlepogpjhmaaOn8
import Derived.Test.YtefmlepogpjhmaaArgs
import Derived.Deep.Grids
import Derived.SizedLaws
namespace Go.Proofs.Ytefmlepogpjhmaa
open Go.RowKit
set_option linter.unusedVariables false
set_option linter.unusedSimpArgs false
set_option maxRecDepth 100000 in
set_option maxHeartbeats 8000000 in
theorem loomOnce_bad (W H : Int) (A : Option Addr) (n c : Nat) (TA : Option Addr) (tn tc : Nat) (w : World) (h1 : (-9223372036854775808 ≤ W ∧ W ≤ 9223372036854775807)) (h2 : (-9223372036854775808 ≤ H ∧ H ≤ 9223372036854775807)) (h3 : n ≤ 9223372036854775807) (hb : wrT W H n ≠ 0 ∨ n = 0) :
    Calls Try.prog 4 #[.agg #[.int .i64 (W), .int .i64 (H), .slice A n c], .slice TA tn tc] w fun e w' => e = .returned (.bool true) ∧ Below w.heap.size w w' := by
  have HWR := Lib.hid (fun w => r5Wrong_any W H A n c w h1 h2 h3)
  obtain ⟨er, her⟩ : ∃ e, wrT W H n = e := ⟨_, rfl⟩
  rw [her] at HWR hb
  clear her h1 h2 h3
  go_enter Try.func4, Try.ntmps4
  have hm := tF_alloc w W H (.slice A n c) rfl
  have hb0 : Below w.heap.size w (w.alloc (.cells #[.int .i64 (W), .int .i64 (H), .slice A n c] 24)) := (by repeat (first | exact Below.refl _ _ | refine Below.drew ?_ | refine below_drewN ?_ _ | refine Below.alloc ?_ (by first | exact Nat.le_refl _ | (simp; done) | (simp; omega) | omega) _ | refine Below.setCell ?_ (by first | exact Nat.le_refl _ | (simp; done) | (simp; omega) | omega) _ | refine bExtW ?_ (by first | exact Nat.le_refl _ | (simp; done) | (simp; omega) | omega) | refine Below.trans ?_ (Below.mono (by assumption) (by first | exact Nat.le_refl _ | (simp; done) | (simp; omega) | omega))))
  have HM := Lib.hid hm; have HB0 := Lib.hid hb0
  clear hm hb0
  go_wp2_with fail
  refine (alive10_ok _).mono ?_
  rintro r w1 ⟨rfl, hb1⟩
  have hm1 := rowBelow HM.out hb1 HM.out.lt
  have HM1 := Lib.hid hm1; have HB1 := Lib.hid (HB0.out.trans (hb1.mono HB0.out.size))
  have q0 : w1.cell? ⟨w.heap.size, 0, none⟩ = some (.int .i64 (W)) := hm1.cell (i := 0) (by omega)
  have q1 : w1.cell? ⟨w.heap.size, 1, none⟩ = some (.int .i64 (H)) := hm1.cell (i := 1) (by omega)
  have q2 : w1.cell? ⟨w.heap.size, 2, none⟩ = some (.slice A n c) := hm1.cell (i := 2) (by omega)
  have lmb : LtW w.heap.size w1 := hm1.lt
  clear hm1 hb1 HM HB0
  go_wp2_with fail
  refine (HWR.out w1).mono ?_
  rintro r w2 ⟨rfl, hb2⟩
  have hm2 := rowBelow HM1.out hb2 HM1.out.lt
  have HB2 := Lib.hid (HB1.out.trans (hb2.mono HB1.out.size))
  clear q0 q1 q2 lmb hb2 HM1 HB1
  have q0 : w2.cell? ⟨w.heap.size, 0, none⟩ = some (.int .i64 (W)) := hm2.cell (i := 0) (by omega)
  have q1 : w2.cell? ⟨w.heap.size, 1, none⟩ = some (.int .i64 (H)) := hm2.cell (i := 1) (by omega)
  have q2 : w2.cell? ⟨w.heap.size, 2, none⟩ = some (.slice A n c) := hm2.cell (i := 2) (by omega)
  have lmb : LtW w.heap.size w2 := hm2.lt
  clear hm2
  by_cases he : er = 0
  · subst he
    have hn : n = 0 := by
      rcases hb with h | h
      · exact absurd rfl h
      · exact h
    subst hn
    go_wp2
    go_ret
    exact ⟨rfl, HB2.out⟩
  · have b0 : (er == 0) = false := by simpa using he
    have b1 : (er != 0) = true := by simpa using he
    clear he hb
    go_wp2
    go_ret
    exact ⟨rfl, HB2.out⟩
theorem loomOnce_any (W H : Int) (A : Option Addr) (n c : Nat) (bs : List Bool) (TA : Option Addr) (tn tc : Nat) (ts : List Int) (w : World) (hT : OkT w A n c bs) (h1 : (-9223372036854775808 ≤ W ∧ W ≤ 9223372036854775807)) (h2 : (-9223372036854775808 ≤ H ∧ H ≤ 9223372036854775807)) (hI : IsInts w TA tn ts) (hz : TA = none → tc = 0) (htn : tn * 8 ≤ 140737488351232) :
    Calls Try.prog 4 #[.agg #[.int .i64 (W), .int .i64 (H), .slice A n c], .slice TA tn tc] w fun e w' => e = .returned (.bool true) ∧ Below w.heap.size w w' := by
  by_cases hb : wrT W H n ≠ 0 ∨ n = 0
  · exact loomOnce_bad W H A n c TA tn tc w h1 h2 (Nat.le_trans hT.cap hT.lim) hb
  · have hw : wrT W H n = 0 := by
      by_cases h : wrT W H n = 0
      · exact h
      · exact absurd (.inl h) hb
    have hn0 : n ≠ 0 := fun h => hb (.inr h)
    obtain ⟨W', H', rfl, rfl, _, _, _⟩ := wrT_zero hw
    exact loomOnce_ok W' H' A n c bs TA tn tc ts w hT hw hn0 hI hz htn
open Go.ChangeShapes Go.WideShapes Go.ChangeAt Go.RowKit Go.Joins
theorem cellsTruth10 : Try.prog.cellsOf 24 = 3 := by kernel_rfl
theorem bytesInt10 : Try.prog.bytesOf 3 = 8 := by kernel_rfl
section
variable {H : Type} {enc : TypeId × Value → H} {W : World} {base b0 : Nat} {spare : Addr → Bool} {held : Bool} {v : Value} {d : DataW H} {p : List MemPlace}
set_option maxRecDepth 100000 in
theorem bools_cellsO10 {fuel : Nat} {cs : List Value} {x : DataW H × List MemPlace} (h : DataW.trod enc Try.prog W 0 (fun _ => true) true fuel 22 cs = some x) :
    ∃ a n c bs, cs = [.slice a n c] ∧ OkT W a n c bs := by
  rcases Go.Deep.open_bools Try.underlying22 Try.underlying4 (by kernel_rfl) h with ⟨hcs, _⟩ | ⟨x, l, c, B, hcs, _, hl, hm, _, hcell⟩
  · exact ⟨none, 0, 0, [], hcs, ⟨⟨rfl, fun h => by omega⟩, by omega, by omega⟩⟩
  · unfold maxLen at hm
    refine ⟨some x, l, c, (List.range l).map B, hcs, ⟨⟨by simp, fun hn => ?_⟩, hl, hm⟩⟩
    obtain ⟨b, off, spot⟩ := x
    have h0 := hcell 0 (by omega)
    have hspot : spot = none := by simpa [Addr.add] using World.cell?_spot h0
    subst hspot
    refine ⟨b, off, rfl, World.block_lt_of_cell? W _ h0, fun j hj => ?_⟩
    have := hcell j (by omega)
    rw [Addr.add_lit] at this
    rw [this]
    simp [List.getD, hj]
set_option maxRecDepth 100000 in
theorem truth_argO10 (hv : Value.okWide Try.prog W .any b0 24 v) (h : DataW.Trod enc Try.prog W 0 (fun _ => true) true 24 v d p) :
    ∃ w h a n c bs, v = .agg #[.int .i64 w, .int .i64 h, .slice a n c] ∧ (-9223372036854775808 ≤ w ∧ w ≤ 9223372036854775807) ∧ (-9223372036854775808 ≤ h ∧ h ≤ 9223372036854775807) ∧ OkT W a n c bs := by
  obtain ⟨c0, c1, c2, z0, z1, z2, m, e, _, _, hy0, hy1, hy2⟩ := open_agg3 Try.underlying24 (by kernel_rfl) cellsTruth10 hv h
  obtain ⟨x, e0, _, wa⟩ := DataW.trod_int Try.underlying3 hy0
  obtain ⟨y, e1, _, wb⟩ := DataW.trod_int Try.underlying3 hy1
  obtain ⟨a, n, c, bs, e2, hb⟩ := bools_cellsO10 hy2
  simp at e0 e1 e2
  subst e0 e1 e2
  exact ⟨x, y, a, n, c, bs, e, int_wf wa, int_wf wb, hb⟩
set_option maxRecDepth 100000 in
theorem ints_argS10 (hv : Value.okWide Try.prog W .any b0 37 v) (h : DataW.Trod enc Try.prog W 0 (fun _ => true) true 37 v d p) (hw : ∀ y ∈ DataW.weights Try.prog 37 d, y ≤ reachBytes) :
    ∃ a n c z, v = .slice a n c ∧ IsInts W a n z ∧ (a = none → c = 0) ∧ n * 8 ≤ 140737488351232 := by
  obtain ⟨a0, len0, cap0, rfl⟩ := okWide_slice Try.underlying37 hv
  obtain ⟨fuel, hf⟩ := h
  rcases open_ints Try.underlying37 Try.underlying3 (by kernel_rfl) hf with ⟨hcs, _⟩ | ⟨x, l, c, zs, hcs, _, hl, hm, hz, hd, hcell, hwz⟩
  · simp [Value.cells] at hcs
    obtain ⟨rfl, rfl, rfl⟩ := hcs
    exact ⟨none, 0, 0, [], rfl, ⟨rfl, fun h => by omega⟩, fun _ => rfl, by omega⟩
  · simp [Value.cells] at hcs
    obtain ⟨rfl, rfl, rfl⟩ := hcs
    simp only [if_true] at hz
    unfold maxLen at hm
    have hlen : (zs.take len0).length = len0 := by rw [List.length_take]; omega
    refine ⟨some x, len0, cap0, zs.take len0, rfl, ⟨hlen, fun hn => ?_⟩, (fun e => by cases e), ?_⟩
    · obtain ⟨b, off, spot⟩ := x
      have h0 := hcell 0 (by omega)
      have hspot : spot = none := by simpa [Addr.add] using World.cell?_spot h0
      subst hspot
      refine ⟨b, off, rfl, World.block_lt_of_cell? W _ h0, fun j hj => ?_⟩
      have := hcell j (by omega)
      rw [Addr.add_lit] at this
      rw [this, List.getD_eq_getElem?_getD, List.getD_eq_getElem?_getD, List.getElem?_take, if_pos hj]
    · have e : d = .slice (lits .i64 (zs.take len0)) (lits .i64 (zs.drop len0)) := (Prod.mk.inj hd).1
      rw [e] at hw
      have hy := hw (((lits (H := H) .i64 (zs.take len0)).length + (lits (H := H) .i64 (zs.drop len0)).length) * Try.prog.bytesOf 3) (by simp [DataW.weights, Try.underlying37])
      rw [bytesInt10, show (lits (H := H) .i64 (zs.take len0)).length = len0 by unfold lits; rw [List.length_map, hlen]] at hy
      simp only [reachBytes] at hy
      have h9 : len0 * 8 ≤ (len0 + (lits (H := H) .i64 (zs.drop len0)).length) * 8 := Nat.mul_le_mul_right 8 (by omega)
      omega
end
end Go.Proofs.Ytefmlepogpjhmaa
