/- Threads, what they show, and pictures: no program in sight. -/
import Derived.Test.YticplgjpflaelaaEf7
namespace Go.Proofs.Yticplgjpflaelaa
open Go.RowKit
set_option linter.unusedVariables false
set_option linter.unusedSimpArgs false
open Ef
theorem g_take {p : List Int} {W i : Nat} (hi : i < W) (hl : W ≤ p.length) : (p.take W).getD i 0 = g p i := by
  unfold g
  rw [List.getD_eq_getElem?_getD, List.getElem?_take_of_lt hi, List.getD_eq_getElem?_getD, List.getElem?_eq_getElem (by omega)]
  rfl
theorem g_drop {p : List Int} {W j : Nat} (hj : W + j < p.length) : (p.drop W).getD j 0 = g p (W + j) := by
  unfold g
  rw [List.getD_eq_getElem?_getD, List.getElem?_drop, List.getD_eq_getElem?_getD, List.getElem?_eq_getElem hj]
  rfl
theorem crs_at (W : Nat) (cs : List Int) {i : Nat} (hW : 0 < W) : crs W cs (i % W) (W + i / W) = some (cs.getD i 0) := by
  unfold crs
  rw [if_pos ⟨Nat.mod_lt _ hW, Nat.le_add_right _ _⟩, Nat.add_sub_cancel_left, Nat.div_add_mod']
theorem clOk_closed {W H n : Nat} {cs p : List Int} (hW : 0 < W) (hn : n = W * H) (hl : p.length = W + H) (ht : ∀ i, i < W + H → 0 ≤ g p i) (hc : Closed W cs p) : clOk W (p.take W) (p.drop W) cs n := by
  intro i hi
  have h1 : i / W < H := Nat.div_lt_of_lt_mul (by rw [← hn]; exact hi)
  have h2 := Nat.mod_lt i hW
  rw [g_take h2 (by omega), g_drop (by omega)]
  exact hc (i % W) (by omega) (ht _ (by omega)) (W + i / W) _ (by omega) (crs_at W cs hW)
theorem clOk_of_str {W H n : Nat} {cs p : List Int} (hW : 0 < W) (hn : n = W * H) (h : Str W cs (W + H) (W + H) p) : clOk W (p.take W) (p.drop W) cs n := by
  obtain ⟨a, _, c, _, e⟩ := h.inv
  exact clOk_closed hW hn a e c
theorem stE_of_str {W H : Nat} {cs p : List Int} (h1 : 1 ≤ W) (h2 : W ≤ 64) (h3 : 1 ≤ H) (h4 : H ≤ 64) (h : Str W cs (W + H) (W + H) p) : stE W H (p.take W) (p.drop W) = 0 := by
  obtain ⟨a, b, _, _, e⟩ := h.inv
  refine stE_ok h1 h2 h3 h4 fun x hx => ?_
  rw [List.take_append_drop] at hx
  obtain ⟨i, hi, rfl⟩ := List.mem_iff_getElem.1 hx
  have e1 : p[i] = g p i := by unfold g; simp [List.getD, hi]
  rw [e1]
  exact ⟨e i (by omega), (b i hi).2⟩
theorem soln_of {W H n : Nat} {es ps cs : List Int} (hn : n = W * H) (he : es.length = W) (hp : ps.length = H) (h0 : stE W H es ps = 0) (hc : clOk W es ps cs n) : Soln W cs (W + H) (es ++ ps) := by
  obtain ⟨h1, h2, h3, h4, h5⟩ := stE_zero h0
  have hl : (es ++ ps).length = W + H := by rw [List.length_append, he, hp]
  have gi : ∀ i, i < W + H → 0 ≤ g (es ++ ps) i ∧ g (es ++ ps) i < 62 := fun i hi => by
    have hi' : i < (es ++ ps).length := by omega
    have e1 : g (es ++ ps) i = (es ++ ps)[i] := by unfold g; simp only [List.getD_eq_getElem?_getD, List.getElem?_eq_getElem hi']; rfl
    rw [e1]
    exact h5 _ (List.getElem_mem hi')
  have ge : ∀ i, i < W → g (es ++ ps) i = es.getD i 0 := fun i hi => by
    unfold g
    rw [List.getD_eq_getElem?_getD, List.getElem?_append_left (by omega), List.getD_eq_getElem?_getD, List.getElem?_eq_getElem (by omega)]; rfl
  have gp : ∀ j, j < H → g (es ++ ps) (W + j) = ps.getD j 0 := fun j hj => by
    unfold g
    rw [List.getD_eq_getElem?_getD, List.getElem?_append_right (by omega), List.getD_eq_getElem?_getD, he, Nat.add_sub_cancel_left, List.getElem?_eq_getElem (by omega)]; rfl
  have key : ∀ x y, x < W → y < H → g (es ++ ps) x = cs.getD (y * W + x) 0 ∨ g (es ++ ps) (W + y) = cs.getD (y * W + x) 0 := fun x y hx hy => by
    have hlt : y * W + x < n := by
      rw [hn, Nat.mul_comm W H]
      have : (y + 1) * W ≤ H * W := Nat.mul_le_mul_right W (by omega)
      rw [Nat.add_mul, Nat.one_mul] at this
      omega
    have := hc _ hlt
    rw [Nat.mul_comm y W, Nat.mul_add_mod, Nat.mod_eq_of_lt hx, Nat.mul_add_div (by omega), Nat.div_eq_of_lt hx, Nat.add_zero] at this
    rw [ge x hx, gp y hy, Nat.mul_comm y W]
    exact this
  refine ⟨hl, fun i hi => by have := gi i (by omega); omega, fun i hi => (gi i hi).1, fun a ha _ b v hb hv => ?_⟩
  rw [hl] at ha hb
  unfold crs at hv
  by_cases c1 : a < W ∧ W ≤ b
  · rw [if_pos c1] at hv
    injection hv with hv
    have := key a (b - W) c1.1 (by omega)
    rw [show W + (b - W) = b by omega, hv] at this
    exact this
  · rw [if_neg c1] at hv
    by_cases c2 : b < W ∧ W ≤ a
    · rw [if_pos c2] at hv
      injection hv with hv
      have := key b (a - W) c2.1 (by omega)
      rw [show W + (a - W) = a by omega, hv] at this
      exact this.symm
    · rw [if_neg c2] at hv; cases hv
theorem shL_get {W k i : Nat} {es ps : List Int} {bs : List Bool} (hi : i < k) : (shL W es ps bs k).getD i 0 = if bs.getD i false then es.getD (i % W) 0 else ps.getD (i / W) 0 := by
  unfold shL
  rw [List.getD_eq_getElem?_getD, List.getElem?_map, List.getElem?_range hi]; rfl
theorem clB_get {W k i : Nat} {es cs : List Int} (hi : i < k) : (clB W es cs k).getD i false = decide (es.getD (i % W) 0 = cs.getD i 0) := by
  unfold clB
  rw [List.getD_eq_getElem?_getD, List.getElem?_map, List.getElem?_range hi]; rfl
theorem shL_clB {W n : Nat} {es ps cs : List Int} (hl : cs.length = n) (h : clOk W es ps cs n) : shL W es ps (clB W es cs n) n = cs := by
  apply List.ext_getElem (by rw [shL_len, hl])
  intro i h1 h2
  have hi : i < n := by omega
  have e1 : (shL W es ps (clB W es cs n) n)[i] = (shL W es ps (clB W es cs n) n).getD i 0 := by simp only [List.getD_eq_getElem?_getD, List.getElem?_eq_getElem h1]; rfl
  have e2 : cs[i] = cs.getD i 0 := by simp only [List.getD_eq_getElem?_getD, List.getElem?_eq_getElem h2]; rfl
  rw [e1, e2, shL_get hi, clB_get hi]
  by_cases e : es.getD (i % W) 0 = cs.getD i 0
  · rw [decide_eq_true e, if_pos rfl, e]
  · rw [decide_eq_false e]
    rcases h i hi with h3 | h3
    · exact absurd h3 e
    · simpa using h3
theorem clOk_shL {W n : Nat} {es ps : List Int} {bs : List Bool} : clOk W es ps (shL W es ps bs n) n := fun i hi => by
  rw [shL_get hi]
  cases bs.getD i false with
  | true => left; rfl
  | false => right; rfl
theorem range_shL {W H n : Nat} {es ps : List Int} {bs : List Bool} (hn : n = W * H) (he : es.length = W) (hp : ps.length = H) (h0 : stE W H es ps = 0) : ∀ x ∈ shL W es ps bs n, 0 ≤ x ∧ x < 62 := by
  obtain ⟨h1, h2, h3, h4, h5⟩ := stE_zero h0
  intro x hx
  unfold shL at hx
  obtain ⟨i, hi, rfl⟩ := List.mem_map.1 hx
  rw [List.mem_range] at hi
  have h6 : i / W < H := Nat.div_lt_of_lt_mul (by rw [← hn]; exact hi)
  have h7 := Nat.mod_lt i (show 0 < W by omega)
  have e1 : es.getD (i % W) 0 ∈ es := by
    rw [List.getD_eq_getElem?_getD, List.getElem?_eq_getElem (by omega)]; exact List.getElem_mem (by omega)
  have e2 : ps.getD (i / W) 0 ∈ ps := by
    rw [List.getD_eq_getElem?_getD, List.getElem?_eq_getElem (by omega)]; exact List.getElem_mem (by omega)
  split
  · exact h5 _ (List.mem_append.2 (.inl e1))
  · exact h5 _ (List.mem_append.2 (.inr e2))
end Go.Proofs.Yticplgjpflaelaa
