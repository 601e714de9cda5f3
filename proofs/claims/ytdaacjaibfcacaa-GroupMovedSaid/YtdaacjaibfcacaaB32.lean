/- Lemmas and contracts of functions (what each call returns, and that it changes nothing that was there) that the proof of a law of this seat uses; each lemma states its own conditions. -/
import Derived.Test.YtdaacjaibfcacaaB05
import Derived.ProofKit
import Derived.OpenShut
import Derived.ShutString
import Derived.ChangeOld
import Derived.Below
import Derived.Lib.SmallJoins
import Derived.Deep.Strs
import Derived.Test.YtdaacjaibfcacaaB07
import Derived.Deep.Grids
import Derived.Test.YtdaacjaibfcacaaB09
namespace Go.Proofs.Ytdaacjaibfcacaa
open Go.ChangeShapes Go.WideShapes Go.ChangeAt Go.RowKit Go.Joins
open Go.ChangeMaps (open_string shut_string)
set_option linter.unusedVariables false
set_option linter.unusedSimpArgs false
set_option maxRecDepth 100000
theorem int_wf {x : Int} (h : (Lit.int .i64 x).wf = true) : (-9223372036854775808 ≤ x ∧ x ≤ 9223372036854775807) := by
  simpa [Lit.wf, IntKind.min, IntKind.max, IntKind.signed, IntKind.bits] using h
section
variable {H : Type} {enc : TypeId × Value → H} {W : World} {base b0 : Nat} {spare : Addr → Bool} {held : Bool} {v : Value} {d : DataW H} {p : List MemPlace}
theorem cellsPoint : Try.prog.cellsOf 38 = 2 := by kernel_rfl
theorem pt_arg (hv : Value.okWide Try.prog W .any b0 38 v) (h : DataW.Trod enc Try.prog W 0 (fun _ => true) true 38 v d p) : ∃ x y, v = .agg #[.int .i64 (x), .int .i64 (y)] ∧ (-9223372036854775808 ≤ x ∧ x ≤ 9223372036854775807) ∧ (-9223372036854775808 ≤ y ∧ y ≤ 9223372036854775807) := by
  obtain ⟨c0, c1, z0, z1, m, e, _, _, hy0, hy1⟩ := open_agg2 Try.underlying38 (by kernel_rfl) cellsPoint hv h
  obtain ⟨x, e0, _, wa⟩ := DataW.trod_int Try.underlying3 hy0
  obtain ⟨y, e1, _, wb⟩ := DataW.trod_int Try.underlying3 hy1
  simp at e0 e1
  subst e0 e1
  exact ⟨x, y, e, int_wf wa, int_wf wb⟩
theorem cellsMove : Try.prog.cellsOf 53 = 4 := by kernel_rfl
theorem cellsInt' : Try.prog.cellsOf 3 = 1 := by kernel_rfl
theorem cellsBool' : Try.prog.cellsOf 4 = 1 := by kernel_rfl
theorem mv_arg (hv : Value.okWide Try.prog W .any b0 53 v) (h : DataW.Trod enc Try.prog W 0 (fun _ => true) true 53 v d p) : ∃ t f x y, v = .agg #[.int .i64 t, .bool f, .int .i64 x, .int .i64 y] ∧ (-9223372036854775808 ≤ t ∧ t ≤ 9223372036854775807) ∧ (-9223372036854775808 ≤ x ∧ x ≤ 9223372036854775807) ∧ (-9223372036854775808 ≤ y ∧ y ≤ 9223372036854775807) := by
  obtain ⟨cs, rfl, hsz⟩ := okWide_struct Try.underlying53 hv
  obtain ⟨c0, c1, c2, c3, rfl⟩ : ∃ c0 c1 c2 c3, cs = #[c0, c1, c2, c3] := by
    rw [cellsMove] at hsz
    match cs, hsz with
    | ⟨[c0, c1, c2, c3]⟩, _ => exact ⟨c0, c1, c2, c3, rfl⟩
  obtain ⟨fuel, hf⟩ := h
  obtain ⟨z0, z1, z2, n, _, _, h0, h1, h2⟩ := Go.Deep.trod_struct3 Try.underlying53 hf
  simp only [cellsInt', cellsBool', cellsPoint, Value.cells] at h0 h1 h2
  obtain ⟨t, e0, _, wa⟩ := DataW.trod_int Try.underlying3 h0
  obtain ⟨f, e1, _⟩ := DataW.trod_bool Try.underlying4 h1
  obtain ⟨s0, s1, m, _, _, g0, g1⟩ := trod_struct2 Try.underlying38 h2
  simp only [cellsInt'] at g0 g1
  obtain ⟨x, e2, _, wb⟩ := DataW.trod_int Try.underlying3 g0
  obtain ⟨y, e3, _, wc⟩ := DataW.trod_int Try.underlying3 g1
  simp at e0 e1 e2 e3
  subst e0 e1 e2 e3
  exact ⟨t, f, x, y, rfl, int_wf wa, int_wf wb, int_wf wc⟩
set_option maxRecDepth 100000 in
theorem ints_arg (hv : Value.okWide Try.prog W .any b0 34 v) (h : DataW.Trod enc Try.prog W 0 (fun _ => true) true 34 v d p) :
    ∃ a n c z, v = .slice a n c ∧ IsInts W a n z ∧ n ≤ 9223372036854775807 ∧ ∀ x ∈ z, (-9223372036854775808 ≤ x ∧ x ≤ 9223372036854775807) := by
  obtain ⟨a0, len0, cap0, rfl⟩ := okWide_slice Try.underlying34 hv
  obtain ⟨fuel, hf⟩ := h
  rcases open_ints Try.underlying34 Try.underlying3 (by kernel_rfl) hf with ⟨hcs, _⟩ | ⟨x, l, c, zs, hcs, _, hl, hm, hz, _, hcell, hwz⟩
  · simp [Value.cells] at hcs
    obtain ⟨rfl, rfl, rfl⟩ := hcs
    exact ⟨none, 0, 0, [], rfl, ⟨rfl, fun h => by omega⟩, by omega, by simp⟩
  · simp [Value.cells] at hcs
    obtain ⟨rfl, rfl, rfl⟩ := hcs
    simp only [if_true] at hz
    unfold maxLen at hm
    refine ⟨some x, len0, cap0, zs.take len0, rfl, ⟨by rw [List.length_take]; omega, fun hn => ?_⟩, by omega, fun y hy => int_wf (hwz y (List.mem_of_mem_take hy))⟩
    obtain ⟨b, off, spot⟩ := x
    have h0 := hcell 0 (by omega)
    have hspot : spot = none := by simpa [Addr.add] using World.cell?_spot h0
    subst hspot
    refine ⟨b, off, rfl, World.block_lt_of_cell? W _ h0, fun j hj => ?_⟩
    have := hcell j (by omega)
    rw [Addr.add_lit] at this
    rw [this, List.getD_eq_getElem?_getD, List.getD_eq_getElem?_getD, List.getElem?_take, if_pos hj]
end
end Go.Proofs.Ytdaacjaibfcacaa

namespace Go.Proofs.Ytdaacjaibfcacaa
open Go.ChangeShapes Go.WideShapes Go.ChangeAt Go.RowKit Go.Joins
set_option linter.unusedVariables false
set_option linter.unusedSimpArgs false
section
variable {H : Type} {enc : TypeId × Value → H} {W : World} {base b0 : Nat} {spare : Addr → Bool} {held : Bool} {v : Value} {d : DataW H} {p : List MemPlace}
set_option maxRecDepth 100000 in
theorem bools_cells {fuel : Nat} {cs : List Value} {x : DataW H × List MemPlace} (h : DataW.trod enc Try.prog W 0 (fun _ => true) true fuel 22 cs = some x) :
    ∃ a n c bs, cs = [.slice a n c] ∧ n ≤ 9223372036854775807 ∧ IsBools W a n bs := by
  rcases Go.Deep.open_bools Try.underlying22 Try.underlying4 (by kernel_rfl) h with ⟨hcs, _⟩ | ⟨x, l, c, B, hcs, _, hl, hm, _, hcell⟩
  · exact ⟨none, 0, 0, [], hcs, by omega, rfl, fun h => by omega⟩
  · unfold maxLen at hm
    refine ⟨some x, l, c, (List.range l).map B, hcs, by omega, by simp, fun hn => ?_⟩
    obtain ⟨b, off, spot⟩ := x
    have h0 := hcell 0 (by omega)
    have hspot : spot = none := by simpa [Addr.add] using World.cell?_spot h0
    subst hspot
    refine ⟨b, off, rfl, World.block_lt_of_cell? W _ h0, fun j hj => ?_⟩
    have := hcell j (by omega)
    rw [Addr.add_lit] at this
    rw [this]
    simp [List.getD, hj]
theorem cellsTruth : Try.prog.cellsOf 24 = 3 := by kernel_rfl
set_option maxRecDepth 100000 in
theorem truth_arg (hv : Value.okWide Try.prog W .any b0 24 v) (h : DataW.Trod enc Try.prog W 0 (fun _ => true) true 24 v d p) :
    ∃ w h a n c bs, v = .agg #[.int .i64 w, .int .i64 h, .slice a n c] ∧ (-9223372036854775808 ≤ w ∧ w ≤ 9223372036854775807) ∧ (-9223372036854775808 ≤ h ∧ h ≤ 9223372036854775807) ∧ n ≤ 9223372036854775807 ∧ IsBools W a n bs := by
  obtain ⟨c0, c1, c2, z0, z1, z2, m, e, _, _, hy0, hy1, hy2⟩ := open_agg3 Try.underlying24 (by kernel_rfl) cellsTruth hv h
  obtain ⟨x, e0, _, wa⟩ := DataW.trod_int Try.underlying3 hy0
  obtain ⟨y, e1, _, wb⟩ := DataW.trod_int Try.underlying3 hy1
  obtain ⟨a, n, c, bs, e2, hn, hb⟩ := bools_cells hy2
  simp at e0 e1 e2
  subst e0 e1 e2
  exact ⟨x, y, a, n, c, bs, e, int_wf wa, int_wf wb, hn, hb⟩
end
end Go.Proofs.Ytdaacjaibfcacaa

namespace Go.Proofs.Ytdaacjaibfcacaa
open Go.ChangeShapes Go.WideShapes Go.ChangeAt Go.RowKit Go.Joins
set_option linter.unusedVariables false
set_option linter.unusedSimpArgs false
section
variable {H : Type} {enc : TypeId × Value → H} {W : World} {base b0 : Nat} {spare : Addr → Bool} {held : Bool} {v : Value} {d : DataW H} {p : List MemPlace}
set_option maxRecDepth 100000 in
theorem bools_cellsO {fuel : Nat} {cs : List Value} {x : DataW H × List MemPlace} (h : DataW.trod enc Try.prog W 0 (fun _ => true) true fuel 22 cs = some x) :
    ∃ a n c bs, cs = [.slice a n c] ∧ OkT W a n c bs := by
  rcases Go.Deep.open_bools Try.underlying22 Try.underlying4 (by kernel_rfl) h with ⟨hcs, _⟩ | ⟨x, l, c, B, hcs, _, hl, hm, _, hcell⟩
  · exact ⟨none, 0, 0, [], hcs, ⟨⟨rfl, fun h => by omega⟩, by omega, by omega⟩⟩
  · unfold maxLen at hm
    refine ⟨some x, l, c, (List.range l).map B, hcs, ⟨⟨by simp, fun hn => ?_⟩, hl, hm⟩⟩
    obtain ⟨b, off, spot⟩ := x
    have h0 := hcell 0 (by omega)
    have hspot : spot = none := by simpa [Addr.add] using World.cell?_spot h0
    subst hspot
    refine ⟨b, off, rfl, World.block_lt_of_cell? W _ h0, fun j hj => ?_⟩
    have := hcell j (by omega)
    rw [Addr.add_lit] at this
    rw [this]
    simp [List.getD, hj]
set_option maxRecDepth 100000 in
theorem truth_argO (hv : Value.okWide Try.prog W .any b0 24 v) (h : DataW.Trod enc Try.prog W 0 (fun _ => true) true 24 v d p) :
    ∃ w h a n c bs, v = .agg #[.int .i64 w, .int .i64 h, .slice a n c] ∧ (-9223372036854775808 ≤ w ∧ w ≤ 9223372036854775807) ∧ (-9223372036854775808 ≤ h ∧ h ≤ 9223372036854775807) ∧ OkT W a n c bs := by
  obtain ⟨c0, c1, c2, z0, z1, z2, m, e, _, _, hy0, hy1, hy2⟩ := open_agg3 Try.underlying24 (by kernel_rfl) cellsTruth hv h
  obtain ⟨x, e0, _, wa⟩ := DataW.trod_int Try.underlying3 hy0
  obtain ⟨y, e1, _, wb⟩ := DataW.trod_int Try.underlying3 hy1
  obtain ⟨a, n, c, bs, e2, hb⟩ := bools_cellsO hy2
  simp at e0 e1 e2
  subst e0 e1 e2
  exact ⟨x, y, a, n, c, bs, e, int_wf wa, int_wf wb, hb⟩
end
end Go.Proofs.Ytdaacjaibfcacaa

namespace Go.Proofs.Ytdaacjaibfcacaa
open Go.ChangeShapes Go.WideShapes Go.ChangeAt Go.RowKit Go.Joins
set_option linter.unusedVariables false
set_option linter.unusedSimpArgs false
set_option maxRecDepth 100000
section
variable {H : Type} {enc : TypeId × Value → H} {W : World} {base b0 : Nat} {spare : Addr → Bool} {held : Bool} {v : Value} {d : DataW H} {p : List MemPlace}
theorem intsZ_cells {fuel : Nat} {cs : List Value} {x : DataW H × List MemPlace} (h : DataW.trod enc Try.prog W 0 (fun _ => true) true fuel 34 cs = some x) :
    ∃ a n c z, cs = [.slice a n c] ∧ IsInts W a n z ∧ n ≤ 9223372036854775807 ∧ (a = none → c = 0) := by
  rcases open_ints Try.underlying34 Try.underlying3 (by kernel_rfl) h with ⟨hcs, _⟩ | ⟨x, l, c, zs, hcs, _, hl, hm, hz, _, hcell, hwz⟩
  · exact ⟨none, 0, 0, [], hcs, ⟨rfl, fun h => by omega⟩, by omega, fun _ => rfl⟩
  · simp only [if_true] at hz
    unfold maxLen at hm
    refine ⟨some x, l, c, zs.take l, hcs, ⟨by rw [List.length_take]; omega, fun hn => ?_⟩, by omega, fun e => by cases e⟩
    obtain ⟨b, off, spot⟩ := x
    have h0 := hcell 0 (by omega)
    have hspot : spot = none := by simpa [Addr.add] using World.cell?_spot h0
    subst hspot
    refine ⟨b, off, rfl, World.block_lt_of_cell? W _ h0, fun j hj => ?_⟩
    have := hcell j (by omega)
    rw [Addr.add_lit] at this
    rw [this, List.getD_eq_getElem?_getD, List.getD_eq_getElem?_getD, List.getElem?_take, if_pos hj]
theorem cellsIntsE : Try.prog.cellsOf 34 = 1 := by kernel_rfl
theorem cellsIntE : Try.prog.cellsOf 3 = 1 := by kernel_rfl
theorem cellsChart : Try.prog.cellsOf 36 = 4 := by kernel_rfl
theorem chart_argE (hv : Value.okWide Try.prog W .any b0 36 v) (h : DataW.Trod enc Try.prog W 0 (fun _ => true) true 36 v d p) :
    ∃ g w h a n c cs, v = .agg #[.int .i64 g, .int .i64 w, .int .i64 h, .slice a n c] ∧ (-9223372036854775808 ≤ g ∧ g ≤ 9223372036854775807) ∧ (-9223372036854775808 ≤ w ∧ w ≤ 9223372036854775807) ∧ (-9223372036854775808 ≤ h ∧ h ≤ 9223372036854775807) ∧ n ≤ 9223372036854775807 ∧ IsInts W a n cs := by
  obtain ⟨cs, rfl, hsz⟩ := okWide_struct Try.underlying36 hv
  obtain ⟨c0, c1, c2, c3, rfl⟩ : ∃ c0 c1 c2 c3, cs = #[c0, c1, c2, c3] := by
    rw [cellsChart] at hsz
    match cs, hsz with
    | ⟨[c0, c1, c2, c3]⟩, _ => exact ⟨c0, c1, c2, c3, rfl⟩
  obtain ⟨fuel, hf⟩ := h
  obtain ⟨z0, z1, z2, z3, n, _, _, h0, h1, h2, h3⟩ := trod_struct4 Try.underlying36 hf
  simp only [cellsIntE, cellsIntsE, Value.cells] at h0 h1 h2 h3
  obtain ⟨x, e0, _, wa⟩ := DataW.trod_int Try.underlying3 h0
  obtain ⟨y, e1, _, wb⟩ := DataW.trod_int Try.underlying3 h1
  obtain ⟨z, e2, _, wc⟩ := DataW.trod_int Try.underlying3 h2
  obtain ⟨a, l, c, cs, e3, g2, g3, _⟩ := intsZ_cells h3
  simp at e0 e1 e2 e3
  subst e0 e1 e2 e3
  exact ⟨x, y, z, a, l, c, cs, rfl, int_wf wa, int_wf wb, int_wf wc, g3, g2⟩
end
end Go.Proofs.Ytdaacjaibfcacaa
