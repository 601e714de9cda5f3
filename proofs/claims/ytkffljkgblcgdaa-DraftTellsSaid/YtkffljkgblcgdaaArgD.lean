/- How drafts among the laws' arguments are read off memory. -/
import Derived.Test.YtkffljkgblcgdaaArgO
namespace Go.Proofs.Ytkffljkgblcgdaa
open Go.ChangeShapes Go.WideShapes Go.ChangeAt Go.RowKit Go.Joins
set_option linter.unusedVariables false
set_option linter.unusedSimpArgs false
section
variable {H : Type} {enc : TypeId × Value → H} {W : World} {base b0 : Nat} {spare : Addr → Bool} {held : Bool} {v : Value} {d : DataW H} {p : List MemPlace}
set_option maxRecDepth 100000 in
theorem ints_cells {fuel : Nat} {cs : List Value} {x : DataW H × List MemPlace} (h : DataW.trod enc Try.prog W 0 (fun _ => true) true fuel 22 cs = some x) :
    ∃ a n c z, cs = [.slice a n c] ∧ IsInts W a n z ∧ n ≤ 9223372036854775807 := by
  rcases open_ints Try.underlying22 Try.underlying3 (by kernel_rfl) h with ⟨hcs, _⟩ | ⟨x, l, c, zs, hcs, _, hl, hm, hz, _, hcell, hwz⟩
  · exact ⟨none, 0, 0, [], hcs, ⟨rfl, fun h => by omega⟩, by omega⟩
  · simp only [if_true] at hz
    unfold maxLen at hm
    refine ⟨some x, l, c, zs.take l, hcs, ⟨by rw [List.length_take]; omega, fun hn => ?_⟩, by omega⟩
    obtain ⟨b, off, spot⟩ := x
    have h0 := hcell 0 (by omega)
    have hspot : spot = none := by simpa [Addr.add] using World.cell?_spot h0
    subst hspot
    refine ⟨b, off, rfl, World.block_lt_of_cell? W _ h0, fun j hj => ?_⟩
    have := hcell j (by omega)
    rw [Addr.add_lit] at this
    rw [this, List.getD_eq_getElem?_getD, List.getD_eq_getElem?_getD, List.getElem?_take, if_pos hj]
theorem cellsDraft : Try.prog.cellsOf 27 = 5 := by kernel_rfl
theorem cellsInts' : Try.prog.cellsOf 22 = 1 := by kernel_rfl
theorem cellsBools' : Try.prog.cellsOf 23 = 1 := by kernel_rfl
theorem cellsIntD : Try.prog.cellsOf 3 = 1 := by kernel_rfl
set_option maxRecDepth 100000 in
theorem draft_arg (hv : Value.okWide Try.prog W .any b0 27 v) (h : DataW.Trod enc Try.prog W 0 (fun _ => true) true 27 v d p) :
    ∃ ta tn tc th w h a n c bs ra rn rc tr, v = .agg #[.slice ta tn tc, .int .i64 w, .int .i64 h, .slice a n c, .slice ra rn rc] ∧ (-9223372036854775808 ≤ w ∧ w ≤ 9223372036854775807) ∧ (-9223372036854775808 ≤ h ∧ h ≤ 9223372036854775807) ∧ tn ≤ 9223372036854775807 ∧ rn ≤ 9223372036854775807 ∧ IsInts W ta tn th ∧ IsInts W ra rn tr ∧ OkT W a n c bs := by
  obtain ⟨cs, rfl, hsz⟩ := okWide_struct Try.underlying27 hv
  obtain ⟨c0, c1, c2, c3, c4, rfl⟩ : ∃ c0 c1 c2 c3 c4, cs = #[c0, c1, c2, c3, c4] := by
    rw [cellsDraft] at hsz
    match cs, hsz with
    | ⟨[c0, c1, c2, c3, c4]⟩, _ => exact ⟨c0, c1, c2, c3, c4, rfl⟩
  obtain ⟨fuel, hf⟩ := h
  obtain ⟨z0, z1, z2, n, _, _, h0, h1, h2⟩ := Go.Deep.trod_struct3 Try.underlying27 hf
  simp only [cellsInts', cellsTruth, Value.cells] at h0 h1 h2
  obtain ⟨s0, s1, s2, m, _, _, g0, g1, g2⟩ := Go.Deep.trod_struct3 Try.underlying25 h1
  simp only [cellsIntD, cellsBools'] at g0 g1 g2
  obtain ⟨ta, tn, tc, th, e0, ht, htn⟩ := ints_cells h0
  obtain ⟨ra, rn, rc, tr, e4, hr, hrn⟩ := ints_cells h2
  obtain ⟨x, e1, _, wa⟩ := DataW.trod_int Try.underlying3 g0
  obtain ⟨y, e2, _, wb⟩ := DataW.trod_int Try.underlying3 g1
  obtain ⟨a, l, c, bs, e3, hb⟩ := bools_cellsO g2
  simp at e0 e1 e2 e3 e4
  subst e0 e1 e2 e3 e4
  exact ⟨ta, tn, tc, th, x, y, a, l, c, bs, ra, rn, rc, tr, rfl, int_wf wa, int_wf wb, htn, hrn, ht, hr, hb⟩
end
end Go.Proofs.Ytkffljkgblcgdaa
