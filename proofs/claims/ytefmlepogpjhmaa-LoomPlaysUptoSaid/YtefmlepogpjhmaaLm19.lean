/- Chapter 10: how a disk and a script are read off memory; how long they are at the most. -/
import Derived.Test.YtefmlepogpjhmaaLm18
import Derived.Test.YtefmlepogpjhmaaArgs
import Derived.Deep.Grids
namespace Go.Proofs.Ytefmlepogpjhmaa
open Go.ChangeShapes Go.WideShapes Go.ChangeAt Go.RowKit Go.Joins
open Lm
set_option linter.unusedVariables false
set_option linter.unusedSimpArgs false
theorem bulk_one {H : Type} (d : DataW H) : 1 ≤ Rows.uptoBulk d := by
  cases d with
  | lit l => cases l <;> simp [Rows.uptoBulk]
  | nil => simp [Rows.uptoBulk]
  | ptr d => simp [Rows.uptoBulk]
  | slice elems spare => simp [Rows.uptoBulk]
  | agg parts => simp [Rows.uptoBulk]
  | iface t d => simp [Rows.uptoBulk]
  | map entries => simp [Rows.uptoBulk]
  | held h => simp [Rows.uptoBulk]
theorem bulk_len {H : Type} (l : List (DataW H)) : l.length ≤ Rows.uptoBulkAll l := by
  induction l with
  | nil => simp [Rows.uptoBulkAll]
  | cons x r ih => have := bulk_one x; simp only [Rows.uptoBulkAll, List.length_cons]; omega
theorem bulk_slice {H : Type} (elems spare : List (DataW H)) : elems.length ≤ Rows.uptoBulk (.slice elems spare) := by
  have h1 := bulk_len elems
  simp only [Rows.uptoBulk]
  omega
section
variable {H : Type} {enc : TypeId × Value → H} {W : World} {base b0 : Nat} {spare : Addr → Bool} {held : Bool} {v : Value} {d : DataW H} {p : List MemPlace}
set_option maxRecDepth 100000 in
theorem ints64_arg (hv : Value.okWide Try.prog W .any b0 25 v) (h : DataW.Trod enc Try.prog W 0 (fun _ => true) true 25 v d p) :
    ∃ a n c z, v = .slice a n c ∧ IsInts W a n z ∧ (a = none → c = 0) ∧ (∀ x ∈ z, (-9223372036854775808 ≤ x ∧ x ≤ 9223372036854775807)) ∧ n ≤ Rows.uptoBulk d := by
  obtain ⟨a0, len0, cap0, rfl⟩ := okWide_slice Try.underlying25 hv
  obtain ⟨fuel, hf⟩ := h
  rcases open_ints Try.underlying25 Try.underlying2 (by kernel_rfl) hf with ⟨hcs, _⟩ | ⟨x, l, c, zs, hcs, _, hl, hm, hz, hd, hcell, hwz⟩
  · simp [Value.cells] at hcs
    obtain ⟨rfl, rfl, rfl⟩ := hcs
    exact ⟨none, 0, 0, [], rfl, ⟨rfl, fun h => by omega⟩, fun _ => rfl, by simp, by omega⟩
  · simp [Value.cells] at hcs
    obtain ⟨rfl, rfl, rfl⟩ := hcs
    simp only [if_true] at hz
    unfold maxLen at hm
    have hlen : (zs.take len0).length = len0 := by rw [List.length_take]; omega
    refine ⟨some x, len0, cap0, zs.take len0, rfl, ⟨hlen, fun hn => ?_⟩, (fun e => by cases e), fun y hy => int_wf (hwz y (List.mem_of_mem_take hy)), ?_⟩
    · obtain ⟨b, off, spot⟩ := x
      have h0 := hcell 0 (by omega)
      have hspot : spot = none := by simpa [Addr.add] using World.cell?_spot h0
      subst hspot
      refine ⟨b, off, rfl, World.block_lt_of_cell? W _ h0, fun j hj => ?_⟩
      have := hcell j (by omega)
      rw [Addr.add_lit] at this
      rw [this, List.getD_eq_getElem?_getD, List.getD_eq_getElem?_getD, List.getElem?_take, if_pos hj]
    · have e : d = .slice (lits .i64 (zs.take len0)) (lits .i64 (zs.drop len0)) := (Prod.mk.inj hd).1
      rw [e]
      have := bulk_slice (H := H) (lits .i64 (zs.take len0)) (lits .i64 (zs.drop len0))
      rw [show (lits (H := H) .i64 (zs.take len0)).length = len0 by unfold lits; rw [List.length_map, hlen]] at this
      exact this
set_option maxRecDepth 100000 in
theorem bools_cells10 {fuel : Nat} {cs : List Value} {x : DataW H × List MemPlace} (h : DataW.trod enc Try.prog W 0 (fun _ => true) true fuel 22 cs = some x) :
    ∃ a n c bs, cs = [.slice a n c] ∧ n ≤ 9223372036854775807 ∧ IsBools W a n bs := by
  rcases Go.Deep.open_bools Try.underlying22 Try.underlying4 (by kernel_rfl) h with ⟨hcs, _⟩ | ⟨x, l, c, B, hcs, _, hl, hm, _, hcell⟩
  · exact ⟨none, 0, 0, [], hcs, by omega, rfl, fun h => by omega⟩
  · unfold maxLen at hm
    refine ⟨some x, l, c, (List.range l).map B, hcs, by omega, by simp, fun hn => ?_⟩
    obtain ⟨b, off, spot⟩ := x
    have h0 := hcell 0 (by omega)
    have hspot : spot = none := by simpa [Addr.add] using World.cell?_spot h0
    subst hspot
    refine ⟨b, off, rfl, World.block_lt_of_cell? W _ h0, fun j hj => ?_⟩
    have := hcell j (by omega)
    rw [Addr.add_lit] at this
    rw [this]
    simp [List.getD, hj]
theorem cellsTruth10 : Try.prog.cellsOf 24 = 3 := by kernel_rfl
set_option maxRecDepth 100000 in
theorem truth_arg10 (hv : Value.okWide Try.prog W .any b0 24 v) (h : DataW.Trod enc Try.prog W 0 (fun _ => true) true 24 v d p) :
    ∃ w h a n c bs, v = .agg #[.int .i64 w, .int .i64 h, .slice a n c] ∧ (-9223372036854775808 ≤ w ∧ w ≤ 9223372036854775807) ∧ (-9223372036854775808 ≤ h ∧ h ≤ 9223372036854775807) ∧ n ≤ 9223372036854775807 ∧ IsBools W a n bs := by
  obtain ⟨c0, c1, c2, z0, z1, z2, m, e, _, _, hy0, hy1, hy2⟩ := open_agg3 Try.underlying24 (by kernel_rfl) cellsTruth10 hv h
  obtain ⟨x, e0, _, wa⟩ := DataW.trod_int Try.underlying3 hy0
  obtain ⟨y, e1, _, wb⟩ := DataW.trod_int Try.underlying3 hy1
  obtain ⟨a, n, c, bs, e2, hn, hb⟩ := bools_cells10 hy2
  simp at e0 e1 e2
  subst e0 e1 e2
  exact ⟨x, y, a, n, c, bs, e, int_wf wa, int_wf wb, hn, hb⟩
theorem cellsStep : Try.prog.cellsOf 53 = 3 := by kernel_rfl
theorem cellsIntS : Try.prog.cellsOf 3 = 1 := by kernel_rfl
theorem cellsBoolS : Try.prog.cellsOf 4 = 1 := by kernel_rfl
set_option maxRecDepth 100000 in
theorem steps_arg (hv : Value.okWide Try.prog W .any b0 26 v) (h : DataW.Trod enc Try.prog W 0 (fun _ => true) true 26 v d p) :
    ∃ a n c L, v = .slice a n c ∧ IsSteps W a n L ∧ n ≤ Rows.uptoBulk d := by
  obtain ⟨a0, len0, cap0, rfl⟩ := okWide_slice Try.underlying26 hv
  obtain ⟨fuel, hf⟩ := h
  rcases Go.Deep.open_slice Try.underlying26 hf with ⟨hcs, _⟩ | ⟨x, l, c, m, n, D, Pl, hcs, _, hl, hm, hmm, hd, hx⟩
  · simp [Value.cells] at hcs
    obtain ⟨rfl, rfl, rfl⟩ := hcs
    exact ⟨none, 0, 0, [], rfl, ⟨rfl, fun h => by omega⟩, by omega⟩
  · simp [Value.cells] at hcs
    obtain ⟨rfl, rfl, rfl⟩ := hcs
    simp only [if_true] at hmm
    subst hmm
    haveI : Inhabited Step := ⟨⟨0, false, 0⟩⟩
    obtain ⟨B, hB⟩ := Go.Deep.choose_lt (α := Step) (n := len0) (p := fun i s => W.cell? ((x.add (i * 3)).add 0) = some (.int .i64 s.pw) ∧ W.cell? ((x.add (i * 3)).add 1) = some (.bool s.op) ∧ W.cell? ((x.add (i * 3)).add 2) = some (.int .i64 s.ev)) (fun i hi => by
      obtain ⟨cs, hc, ht⟩ := hx i (by omega)
      rw [cellsStep] at hc
      obtain ⟨_, hcl, hce⟩ := World.cells?_some hc
      obtain ⟨z0, z1, z2, k, _, _, g0, g1, g2⟩ := Go.Deep.trod_struct3 Try.underlying53 ht
      simp only [cellsIntS, cellsBoolS] at g0 g1 g2
      obtain ⟨p0, e0, _, _⟩ := DataW.trod_int Try.underlying3 g0
      obtain ⟨p1, e1, _⟩ := DataW.trod_bool Try.underlying4 g1
      obtain ⟨p2, e2, _, _⟩ := DataW.trod_int Try.underlying3 g2
      match cs, hcl with
      | [c0, c1, c2], _ =>
        simp at e0 e1 e2
        subst e0 e1 e2
        exact ⟨⟨p0, p1, p2⟩, hce 0 (by omega), hce 1 (by omega), hce 2 (by omega)⟩)
    have hlen : ((List.range len0).map B).length = len0 := by simp
    refine ⟨some x, len0, _, (List.range len0).map B, rfl, ⟨hlen, fun hn => ?_⟩, ?_⟩
    · obtain ⟨b, off, spot⟩ := x
      have h0 := (hB 0 hn).1
      have hspot : spot = none := by simpa [Addr.add] using World.cell?_spot h0
      subst hspot
      refine ⟨b, off, rfl, World.block_lt_of_cell? W _ h0, fun j hj => ?_⟩
      have e : ((List.range len0).map B).getD j ⟨0, false, 0⟩ = B j := by simp [List.getD, hj]
      rw [e]
      obtain ⟨t0, t1, t2⟩ := hB j hj
      simp only [Addr.add_lit, Nat.add_zero] at t0 t1 t2
      exact ⟨t0, t1, t2⟩
    · have e := (Prod.mk.inj hd).1
      rw [e]
      have := bulk_slice (H := H) ((List.range len0).map D) ((List.range (m - len0)).map fun j => D (len0 + j))
      rw [List.length_map, List.length_range] at this
      exact this
end
theorem bulk_bound {H : Type} {l : List (DataW H)} (hk : Rows.uptoSmall H l = true) : Rows.uptoBulkAll l ≤ 1048576 := of_decide_eq_true hk
end Go.Proofs.Ytefmlepogpjhmaa
