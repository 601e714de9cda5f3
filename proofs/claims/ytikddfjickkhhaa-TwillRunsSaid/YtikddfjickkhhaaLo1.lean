/- Lemmas and contracts of functions (what each call returns, and that it changes nothing that was there) that the proof of a law of this seat uses; each lemma states its own conditions. -/
import Derived.Test.YtikddfjickkhhaaAl1
namespace Go.Proofs.Ytikddfjickkhhaa
open Go.RowKit
set_option linter.unusedVariables false
set_option linter.unusedSimpArgs false
/-- The first place at which v stands; how many there are, if nowhere. -/
def bIdx (r : List Bool) (v : Bool) : Nat := r.findIdx fun b => decide (b = v)
theorem bIdx_at {r : List Bool} {v : Bool} {k : Nat} (hk : k < r.length) (h1 : ∀ j, j < k → r.getD j false ≠ v) (h2 : r.getD k false = v) : bIdx r v = k := by
  unfold bIdx
  rw [List.findIdx_eq hk]
  refine ⟨?_, fun j hj => ?_⟩
  · rw [List.getD_eq_getElem?_getD, List.getElem?_eq_getElem hk] at h2
    simpa using h2
  · have := h1 j hj
    rw [List.getD_eq_getElem?_getD, List.getElem?_eq_getElem (by omega)] at this
    simpa using this
theorem bIdx_none {r : List Bool} {v : Bool} (h1 : ∀ j, j < r.length → r.getD j false ≠ v) : bIdx r v = r.length := by
  unfold bIdx
  rw [List.findIdx_eq_length]
  intro x hx
  obtain ⟨j, hj, rfl⟩ := List.getElem_of_mem hx
  have := h1 j hj
  rw [List.getD_eq_getElem?_getD, List.getElem?_eq_getElem hj] at this
  simpa using this
theorem bIdx_spec {r : List Bool} {v : Bool} (h : bIdx r v < r.length) : r.getD (bIdx r v) false = v ∧ ∀ j, j < bIdx r v → r.getD j false ≠ v := by
  have h1 := List.findIdx_getElem (w := h)
  refine ⟨?_, fun j hj => ?_⟩
  · rw [List.getD_eq_getElem?_getD, List.getElem?_eq_getElem h]
    exact of_decide_eq_true h1
  · have h2 := List.not_of_lt_findIdx (xs := r) (p := fun b => decide (b = v)) hj
    rw [List.getD_eq_getElem?_getD, List.getElem?_eq_getElem (by omega)]
    simpa using h2
set_option maxRecDepth 100000 in
set_option maxHeartbeats 8000000 in
theorem Index_any (a : Option Addr) (n c : Nat) (r : List Bool) (v : Bool) (w : World) (hi : IsBools w a n r) (m : n ≤ 1000000) :
    Calls Try.prog 84 #[.slice a n c, .bool v] w fun e w' => e = .returned (.int .i64 (idxV n (bIdx r v))) ∧ w = w' := by
  have HI := Lib.hid hi
  have HL := Lib.hid hi.1
  clear hi
  go_enter Try.func84, Try.ntmps84
  go_wp2_with fail
  go_loop [8] (fun i => ∃ k : Nat, k ≤ n ∧ i = .int .i64 k ∧ Hid (∀ j, j < k → r.getD j false ≠ v)) (fun i => n - (intOf i).toNat)
  case atStart => exact ⟨0, Nat.zero_le _, rfl, Lib.hid (by omega)⟩
  case round =>
    obtain ⟨k, hk, rfl, HK⟩ := hrel
    by_cases hkn : k < n
    · obtain ⟨b, o, rfl, hbl, hx⟩ := HI.out.2 (by omega)
      have k1 := hx k hkn
      obtain ⟨x, hx2⟩ : ∃ x, r.getD k false = x := ⟨_, rfl⟩
      rw [hx2] at k1
      have HX := Lib.hid hx2
      have HY : Hid (x = v → bIdx r v = k) := Lib.hid (fun e => bIdx_at (by rw [HL.out]; exact hkn) HK.out (by rw [HX.out, e]))
      have HN : Hid (x ≠ v → ∀ j, j < k + 1 → r.getD j false ≠ v) := Lib.hid (by
        intro hxv j hj
        by_cases e : j = k
        · subst e; rw [HX.out]; exact hxv
        · exact HK.out j (by omega))
      clear hx hx2 hbl
      cases x <;> cases v
      all_goals go_wp2
      · go_ret
        exact ⟨by rw [HY.out (by first | rfl | trivial), show idxV n k = k from if_pos hkn]; rfl, rfl⟩
      · go_round
        case rel => exact ⟨k + 1, by omega, by go_num, Lib.hid (HN.out (by simp))⟩
        case measure => simp [intOf]; omega
      · go_round
        case rel => exact ⟨k + 1, by omega, by go_num, Lib.hid (HN.out (by simp))⟩
        case measure => simp [intOf]; omega
      · go_ret
        exact ⟨by rw [HY.out (by first | rfl | trivial), show idxV n k = k from if_pos hkn]; rfl, rfl⟩
    · obtain rfl : k = n := by omega
      have HE : Hid (bIdx r v = k) := Lib.hid (by rw [bIdx_none (by rw [HL.out]; exact HK.out), HL.out])
      go_wp2
      go_ret
      exact ⟨by rw [HE.out, show idxV k k = -1 from if_neg (by omega)]; rfl, rfl⟩
end Go.Proofs.Ytikddfjickkhhaa
