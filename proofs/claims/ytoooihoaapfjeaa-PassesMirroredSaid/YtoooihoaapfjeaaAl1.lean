/- Lemmas and contracts of functions (what each call returns, and that it changes nothing that was there) that the proof of a law of this seat uses; each lemma states its own conditions. -/
import Derived.Test.YtoooihoaapfjeaaSm
import Derived.Test.YtoooihoaapfjeaaNat
namespace Go.Proofs.Ytoooihoaapfjeaa
open Go.RowKit
set_option linter.unusedVariables false
set_option linter.unusedSimpArgs false
/-- Slices of truths, each of W. -/
structure RowsAt (w : World) (a : Option Addr) (n W : Nat) (rs : List (List Bool)) : Prop where
  len : rs.length = n
  rows : 0 < n → ∃ b o, a = some ⟨b, o, none⟩ ∧ b < w.heap.size ∧ ∀ j, j < n → ∃ A c, w.cell? ⟨b, o + j, none⟩ = some (.slice A W c) ∧ IsBools w A W (rs.getD j [])
theorem RowsAt.below {w w' : World} {a : Option Addr} {n W : Nat} {rs : List (List Bool)} (h : RowsAt w a n W rs) (hb : Below w.heap.size w w') : RowsAt w' a n W rs := by
  refine ⟨h.len, fun hn => ?_⟩
  obtain ⟨b, o, h1, h2, h3⟩ := h.rows hn
  refine ⟨b, o, h1, Nat.lt_of_lt_of_le h2 hb.size, fun j hj => ?_⟩
  obtain ⟨A, c, h4, h5⟩ := h3 j hj
  exact ⟨A, c, bCs hb h4, h5.below hb⟩
/-- The first place at which a row stands; their number, if it is none of them. -/
def fIdx (rs : List (List Bool)) (r : List Bool) : Nat := rs.findIdx fun l => decide (l = r)
theorem fIdx_at {rs : List (List Bool)} {r : List Bool} {k : Nat} (hk : k < rs.length) (h1 : ∀ j, j < k → rs.getD j [] ≠ r) (h2 : rs.getD k [] = r) : fIdx rs r = k := by
  unfold fIdx
  rw [List.findIdx_eq hk]
  refine ⟨?_, fun j hj => ?_⟩
  · rw [List.getD_eq_getElem?_getD, List.getElem?_eq_getElem hk] at h2
    simpa using h2
  · have := h1 j hj
    rw [List.getD_eq_getElem?_getD, List.getElem?_eq_getElem (by omega)] at this
    simpa using this
theorem fIdx_none {rs : List (List Bool)} {r : List Bool} (h1 : ∀ j, j < rs.length → rs.getD j [] ≠ r) : fIdx rs r = rs.length := by
  unfold fIdx
  rw [List.findIdx_eq_length]
  intro x hx
  obtain ⟨j, hj, rfl⟩ := List.getElem_of_mem hx
  have := h1 j hj
  rw [List.getD_eq_getElem?_getD, List.getElem?_eq_getElem hj] at this
  simpa using this
/-- What Go's search tells. -/
def idxV (n i : Nat) : Int := if i < n then i else -1
theorem fIdx_le (rs : List (List Bool)) (r : List Bool) : fIdx rs r ≤ rs.length := List.findIdx_le_length
end Go.Proofs.Ytoooihoaapfjeaa
