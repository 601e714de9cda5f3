/- How truths with their room are read off memory. -/
import Derived.Test.YtpmecoojhjopcaaRf2
import Derived.Test.YtpmecoojhjopcaaArgT
namespace Go.Proofs.Ytpmecoojhjopcaa
open Go.ChangeShapes Go.WideShapes Go.ChangeAt Go.RowKit Go.Joins
set_option linter.unusedVariables false
set_option linter.unusedSimpArgs false
section
variable {H : Type} {enc : TypeId × Value → H} {W : World} {base b0 : Nat} {spare : Addr → Bool} {held : Bool} {v : Value} {d : DataW H} {p : List MemPlace}
set_option maxRecDepth 100000 in
theorem bools_cellsO {fuel : Nat} {cs : List Value} {x : DataW H × List MemPlace} (h : DataW.trod enc Try.prog W 0 (fun _ => true) true fuel 22 cs = some x) :
    ∃ a n c bs, cs = [.slice a n c] ∧ OkT W a n c bs := by
  rcases Go.Deep.open_bools Try.underlying22 Try.underlying4 (by kernel_rfl) h with ⟨hcs, _⟩ | ⟨x, l, c, B, hcs, _, hl, hm, _, hcell⟩
  · exact ⟨none, 0, 0, [], hcs, ⟨⟨rfl, fun h => by omega⟩, by omega, by omega⟩⟩
  · unfold maxLen at hm
    refine ⟨some x, l, c, (List.range l).map B, hcs, ⟨⟨by simp, fun hn => ?_⟩, hl, hm⟩⟩
    obtain ⟨b, off, spot⟩ := x
    have h0 := hcell 0 (by omega)
    have hspot : spot = none := by simpa [Addr.add] using World.cell?_spot h0
    subst hspot
    refine ⟨b, off, rfl, World.block_lt_of_cell? W _ h0, fun j hj => ?_⟩
    have := hcell j (by omega)
    rw [Addr.add_lit] at this
    rw [this]
    simp [List.getD, hj]
set_option maxRecDepth 100000 in
theorem truth_argO (hv : Value.okWide Try.prog W .any b0 24 v) (h : DataW.Trod enc Try.prog W 0 (fun _ => true) true 24 v d p) :
    ∃ w h a n c bs, v = .agg #[.int .i64 w, .int .i64 h, .slice a n c] ∧ (-9223372036854775808 ≤ w ∧ w ≤ 9223372036854775807) ∧ (-9223372036854775808 ≤ h ∧ h ≤ 9223372036854775807) ∧ OkT W a n c bs := by
  obtain ⟨c0, c1, c2, z0, z1, z2, m, e, _, _, hy0, hy1, hy2⟩ := open_agg3 Try.underlying24 (by kernel_rfl) cellsTruth hv h
  obtain ⟨x, e0, _, wa⟩ := DataW.trod_int Try.underlying3 hy0
  obtain ⟨y, e1, _, wb⟩ := DataW.trod_int Try.underlying3 hy1
  obtain ⟨a, n, c, bs, e2, hb⟩ := bools_cellsO hy2
  simp at e0 e1 e2
  subst e0 e1 e2
  exact ⟨x, y, a, n, c, bs, e, int_wf wa, int_wf wb, hb⟩
end
end Go.Proofs.Ytpmecoojhjopcaa
