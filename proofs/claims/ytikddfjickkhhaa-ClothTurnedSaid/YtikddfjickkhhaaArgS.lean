/- How truths among the laws' arguments are read off memory, with the reach of their bits. -/
import Derived.Test.YtikddfjickkhhaaArgT
import Derived.SizedLaws
namespace Go.Proofs.Ytikddfjickkhhaa
open Go.ChangeShapes Go.WideShapes Go.ChangeAt Go.RowKit Go.Joins
set_option linter.unusedVariables false
set_option linter.unusedSimpArgs false
theorem bytesBool : Try.prog.bytesOf 4 = 1 := by kernel_rfl
section
variable {H : Type} {enc : TypeId × Value → H} {W : World} {base b0 : Nat} {spare : Addr → Bool} {held : Bool} {v : Value} {d : DataW H} {p : List MemPlace}
theorem bools_cellsS {fuel : Nat} {cs : List Value} {x : DataW H × List MemPlace} (h : DataW.trod enc Try.prog W 0 (fun _ => true) true fuel 24 cs = some x) :
    ∃ a n c bs, cs = [.slice a n c] ∧ n ≤ 9223372036854775807 ∧ IsBools W a n bs ∧ ((∀ y ∈ DataW.weights Try.prog 24 x.1, y ≤ reachBytes) → n ≤ 140737488351232) := by
  rcases Go.Deep.open_bools Try.underlying24 Try.underlying4 (by kernel_rfl) h with ⟨hcs, _⟩ | ⟨x, l, c, B, hcs, _, hl, hm, hx, hcell⟩
  · exact ⟨none, 0, 0, [], hcs, by omega, ⟨rfl, fun h => by omega⟩, fun _ => by omega⟩
  · unfold maxLen at hm
    refine ⟨some x, l, c, (List.range l).map B, hcs, by omega, ⟨by simp, fun hn => ?_⟩, fun hw => ?_⟩
    · obtain ⟨b, off, spot⟩ := x
      have h0 := hcell 0 (by omega)
      have hspot : spot = none := by simpa [Addr.add] using World.cell?_spot h0
      subst hspot
      refine ⟨b, off, rfl, World.block_lt_of_cell? W _ h0, fun j hj => ?_⟩
      have := hcell j (by omega)
      rw [Addr.add_lit] at this
      rw [this]
      simp [List.getD, hj]
    · rw [hx] at hw
      have := hw ((l + (c - l)) * Try.prog.bytesOf 4) (by simp [Go.Deep.boolRow, DataW.weights, Try.underlying24])
      rw [bytesBool] at this
      simp only [reachBytes] at this
      omega
theorem truth_argS (hv : Value.okWide Try.prog W .any b0 26 v) (h : DataW.Trod enc Try.prog W 0 (fun _ => true) true 26 v d p) (hw : ∀ y ∈ DataW.weights Try.prog 26 d, y ≤ reachBytes) :
    ∃ w h a n c bs, v = .agg #[.int .i64 w, .int .i64 h, .slice a n c] ∧ (-9223372036854775808 ≤ w ∧ w ≤ 9223372036854775807) ∧ (-9223372036854775808 ≤ h ∧ h ≤ 9223372036854775807) ∧ n ≤ 9223372036854775807 ∧ IsBools W a n bs ∧ n ≤ 140737488351232 := by
  obtain ⟨c0, c1, c2, z0, z1, z2, m, e, hd, _, hy0, hy1, hy2⟩ := open_agg3 Try.underlying26 (by kernel_rfl) cellsTruth hv h
  obtain ⟨x, e0, _, wa⟩ := DataW.trod_int Try.underlying3 hy0
  obtain ⟨y, e1, _, wb⟩ := DataW.trod_int Try.underlying3 hy1
  obtain ⟨a, n, c, bs, e2, hn, hb, hr⟩ := bools_cellsS hy2
  simp at e0 e1 e2
  subst e0 e1 e2
  refine ⟨x, y, a, n, c, bs, e, int_wf wa, int_wf wb, hn, hb, hr fun y hy => hw y ?_⟩
  rw [hd]
  simp only [DataW.weights, Try.underlying26, DataW.weightsEach, List.map_toArray, List.map_cons, List.map_nil, List.mem_append]
  simp [hy]
end
end Go.Proofs.Ytikddfjickkhhaa
