/- Chapter 13: how a list of passes is read off memory. -/
import Derived.Test.YtoooihoaapfjeaaPsF
import Derived.Test.YtoooihoaapfjeaaArgs
import Derived.Deep.Grids
namespace Go.Proofs.Ytoooihoaapfjeaa
open Go.ChangeShapes Go.WideShapes Go.ChangeAt Go.RowKit Go.Joins
set_option linter.unusedVariables false
set_option linter.unusedSimpArgs false
section
variable {H : Type} {enc : TypeId × Value → H} {W : World} {base b0 : Nat} {spare : Addr → Bool} {held : Bool} {v : Value} {d : DataW H} {p : List MemPlace}
set_option maxRecDepth 100000 in
theorem cellsPass : Try.prog.cellsOf 43 = 2 := by kernel_rfl
theorem cellsIntP : Try.prog.cellsOf 3 = 1 := by kernel_rfl
set_option maxRecDepth 100000 in
theorem passes_arg (hv : Value.okWide Try.prog W .any b0 24 v) (h : DataW.Trod enc Try.prog W 0 (fun _ => true) true 24 v d p) :
    ∃ a n c L, v = .slice a n c ∧ IsPasses W a n L ∧ n ≤ 9223372036854775807 ∧ ∀ p ∈ L, (-9223372036854775808 ≤ p.1 ∧ p.1 ≤ 9223372036854775807) ∧ (-9223372036854775808 ≤ p.2 ∧ p.2 ≤ 9223372036854775807) := by
  obtain ⟨a0, len0, cap0, rfl⟩ := okWide_slice Try.underlying24 hv
  obtain ⟨fuel, hf⟩ := h
  rcases Go.Deep.open_slice Try.underlying24 hf with ⟨hcs, _⟩ | ⟨x, l, c, m, n, D, Pl, hcs, _, hl, hm, hmm, hd, hx⟩
  · simp [Value.cells] at hcs
    obtain ⟨rfl, rfl, rfl⟩ := hcs
    exact ⟨none, 0, 0, [], rfl, ⟨rfl, fun h => by omega⟩, by omega, by simp⟩
  · simp [Value.cells] at hcs
    obtain ⟨rfl, rfl, rfl⟩ := hcs
    simp only [if_true] at hmm
    subst hmm
    haveI : Inhabited (Int × Int) := ⟨(0, 0)⟩
    obtain ⟨B, hB⟩ := Go.Deep.choose_lt (α := Int × Int) (n := len0) (p := fun i s => (W.cell? ((x.add (i * 2)).add 0) = some (.int .i64 s.1) ∧ W.cell? ((x.add (i * 2)).add 1) = some (.int .i64 s.2)) ∧ (-9223372036854775808 ≤ s.1 ∧ s.1 ≤ 9223372036854775807) ∧ (-9223372036854775808 ≤ s.2 ∧ s.2 ≤ 9223372036854775807)) (fun i hi => by
      obtain ⟨cs, hc, ht⟩ := hx i (by omega)
      rw [cellsPass] at hc
      obtain ⟨_, hcl, hce⟩ := World.cells?_some hc
      obtain ⟨z0, z1, k, _, _, g0, g1⟩ := trod_struct2 Try.underlying43 ht
      simp only [cellsIntP] at g0 g1
      obtain ⟨p0, e0, _, w0⟩ := DataW.trod_int Try.underlying3 g0
      obtain ⟨p1, e1, _, w1⟩ := DataW.trod_int Try.underlying3 g1
      match cs, hcl with
      | [c0, c1], _ =>
        simp at e0 e1
        subst e0 e1
        exact ⟨(p0, p1), ⟨hce 0 (by omega), hce 1 (by omega)⟩, int_wf w0, int_wf w1⟩)
    have hlen : ((List.range len0).map B).length = len0 := by simp
    unfold maxLen at hm
    refine ⟨some x, len0, _, (List.range len0).map B, rfl, ⟨hlen, fun hn => ?_⟩, by omega, fun q hq => ?_⟩
    · obtain ⟨b, off, spot⟩ := x
      have h0 := (hB 0 hn).1.1
      have hspot : spot = none := by simpa [Addr.add] using World.cell?_spot h0
      subst hspot
      refine ⟨b, off, rfl, World.block_lt_of_cell? W _ h0, fun j hj => ?_⟩
      have e : ((List.range len0).map B).getD j (0, 0) = B j := by simp [List.getD, hj]
      rw [e]
      obtain ⟨⟨t0, t1⟩, _⟩ := hB j hj
      simp only [Addr.add_lit, Nat.add_zero] at t0 t1
      exact ⟨t0, t1⟩
    · obtain ⟨j, hj, rfl⟩ := List.mem_map.1 hq
      exact (hB j (List.mem_range.1 hj)).2
end
end Go.Proofs.Ytoooihoaapfjeaa
