/- Lemmas and contracts of functions (what each call returns, and that it changes nothing that was there) that the proof of a law of this seat uses; each lemma states its own conditions. -/
import Derived.Test.YtooilennejakhaaB38
namespace Go.Proofs.Ytooilennejakhaa
open Go.ChangeShapes Go.WideShapes Go.ChangeAt Go.RowKit Go.Joins
set_option linter.unusedVariables false
set_option linter.unusedSimpArgs false
set_option maxRecDepth 100000
section
variable {H : Type} {enc : TypeId × Value → H} {W : World} {base b0 : Nat} {spare : Addr → Bool} {held : Bool} {v : Value} {d : DataW H} {p : List MemPlace}
theorem intsR_cells {fuel : Nat} {cs : List Value} {x : DataW H × List MemPlace} (h : DataW.trod enc Try.prog W 0 (fun _ => true) true fuel 22 cs = some x) :
    ∃ a n c z, cs = [.slice a n c] ∧ IsInts W a n z ∧ n ≤ c ∧ c ≤ 9223372036854775807 ∧ (a = none → c = 0) := by
  rcases open_ints Try.underlying22 Try.underlying3 (by kernel_rfl) h with ⟨hcs, _⟩ | ⟨x, l, c, zs, hcs, _, hl, hm, hz, _, hcell, hwz⟩
  · exact ⟨none, 0, 0, [], hcs, ⟨rfl, fun h => by omega⟩, by omega, by omega, fun _ => rfl⟩
  · simp only [if_true] at hz
    unfold maxLen at hm
    refine ⟨some x, l, c, zs.take l, hcs, ⟨by rw [List.length_take]; omega, fun hn => ?_⟩, by omega, by omega, fun e => by cases e⟩
    obtain ⟨b, off, spot⟩ := x
    have h0 := hcell 0 (by omega)
    have hspot : spot = none := by simpa [Addr.add] using World.cell?_spot h0
    subst hspot
    refine ⟨b, off, rfl, World.block_lt_of_cell? W _ h0, fun j hj => ?_⟩
    have := hcell j (by omega)
    rw [Addr.add_lit] at this
    rw [this, List.getD_eq_getElem?_getD, List.getD_eq_getElem?_getD, List.getElem?_take, if_pos hj]
theorem chart_argR (hv : Value.okWide Try.prog W .any b0 24 v) (h : DataW.Trod enc Try.prog W 0 (fun _ => true) true 24 v d p) :
    ∃ g w h a n c cs, v = .agg #[.int .i64 g, .int .i64 w, .int .i64 h, .slice a n c] ∧ (-9223372036854775808 ≤ g ∧ g ≤ 9223372036854775807) ∧ (-9223372036854775808 ≤ w ∧ w ≤ 9223372036854775807) ∧ (-9223372036854775808 ≤ h ∧ h ≤ 9223372036854775807) ∧ n ≤ c ∧ c ≤ 9223372036854775807 ∧ IsInts W a n cs := by
  obtain ⟨cs, rfl, hsz⟩ := okWide_struct Try.underlying24 hv
  obtain ⟨c0, c1, c2, c3, rfl⟩ : ∃ c0 c1 c2 c3, cs = #[c0, c1, c2, c3] := by
    rw [cellsChart] at hsz
    match cs, hsz with
    | ⟨[c0, c1, c2, c3]⟩, _ => exact ⟨c0, c1, c2, c3, rfl⟩
  obtain ⟨fuel, hf⟩ := h
  obtain ⟨z0, z1, z2, z3, n, _, _, h0, h1, h2, h3⟩ := trod_struct4 Try.underlying24 hf
  simp only [cellsIntE, cellsIntsE, Value.cells] at h0 h1 h2 h3
  obtain ⟨x, e0, _, wa⟩ := DataW.trod_int Try.underlying3 h0
  obtain ⟨y, e1, _, wb⟩ := DataW.trod_int Try.underlying3 h1
  obtain ⟨z, e2, _, wc⟩ := DataW.trod_int Try.underlying3 h2
  obtain ⟨a, l, c, cs, e3, g2, g3, g4, _⟩ := intsR_cells h3
  simp at e0 e1 e2 e3
  subst e0 e1 e2 e3
  exact ⟨x, y, z, a, l, c, cs, rfl, int_wf wa, int_wf wb, int_wf wc, g3, g4, g2⟩
end
end Go.Proofs.Ytooilennejakhaa
