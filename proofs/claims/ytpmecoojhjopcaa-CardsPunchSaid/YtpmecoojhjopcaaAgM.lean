/- The numbers of rows, told place by place: no program in sight. -/
import Derived.Test.YtpmecoojhjopcaaAl2
import Derived.Test.YtpmecoojhjopcaaNat
namespace Go.Proofs.Ytpmecoojhjopcaa
set_option linter.unusedVariables false
set_option linter.unusedSimpArgs false
def gS (R : Nat → List Bool) : Nat → List (List Bool) × List Nat
  | 0 => ([], [])
  | y + 1 => (if fIdx (gS R y).1 (R y) < (gS R y).1.length then (gS R y).1 else (gS R y).1 ++ [R y], (gS R y).2 ++ [fIdx (gS R y).1 (R y)])
theorem gS_succ (R : Nat → List Bool) (y : Nat) : gS R (y+1) = (if fIdx (gS R y).1 (R y) < (gS R y).1.length then (gS R y).1 else (gS R y).1 ++ [R y], (gS R y).2 ++ [fIdx (gS R y).1 (R y)]) := rfl
theorem getD_l {L M : List Nat} {z : Nat} (h : z < L.length) : (L ++ M).getD z 0 = L.getD z 0 := by
  rw [List.getD_eq_getElem?_getD, List.getD_eq_getElem?_getD, List.getElem?_append_left h]
theorem getD_r {L : List Nat} {k : Nat} : (L ++ [k]).getD L.length 0 = k := by
  rw [List.getD_eq_getElem?_getD, List.getElem?_append_right (Nat.le_refl _)]; simp
theorem aFold_gS (H W : Nat) (bs : List Bool) : ∀ y, y ≤ H → (aFold H W bs ((List.finRange H).take y)).1.map (fun z => rowL bs W z.val) = (gS (rowL bs W) y).1 ∧ (aFold H W bs ((List.finRange H).take y)).2 = (gS (rowL bs W) y).2 := by
  intro y
  induction y with
  | zero => intro _; simp [aFold, gS]
  | succ y ih =>
    intro hy
    obtain ⟨h1, h2⟩ := ih (by omega)
    have e : (List.finRange H).take (y+1) = (List.finRange H).take y ++ [⟨y, hy⟩] := by
      rw [List.take_add_one, List.getElem?_eq_getElem (by simp; omega)]
      simp
    have hl : (aFold H W bs ((List.finRange H).take y)).1.length = (gS (rowL bs W) y).1.length := by rw [← h1, List.length_map]
    rw [e, aFold_snoc]
    unfold aStep
    simp only [h1, h2, hl]
    rw [gS_succ]
    simp only
    refine ⟨?_, trivial⟩
    split
    · exact h1
    · rw [List.map_append, h1]; rfl
theorem alike_gS (W H : Nat) (bs : List Bool) : alikeL W H bs = (gS (rowL bs W) H).2 := by
  unfold alikeL
  rw [← (aFold_gS H W bs H (Nat.le_refl _)).2, List.take_of_length_le (by simp)]
theorem gS_len (R : Nat → List Bool) (y : Nat) : (gS R y).2.length = y := by
  induction y with
  | zero => rfl
  | succ y ih => rw [gS_succ]; simp [ih]
theorem gS_le (R : Nat → List Bool) (y : Nat) : (gS R y).1.length ≤ y := by
  induction y with
  | zero => simp [gS]
  | succ y ih => rw [gS_succ]; simp only; split
                 · omega
                 · simp; omega
theorem fIdx_app {K : List (List Bool)} {L : List (List Bool)} {r : List Bool} (h : fIdx K r < K.length) : fIdx (K ++ L) r = fIdx K r := by
  unfold fIdx at *
  rw [List.findIdx_append, if_pos h]
theorem fIdx_new {K : List (List Bool)} {r : List Bool} (h : ¬ fIdx K r < K.length) : fIdx (K ++ [r]) r = K.length := by
  unfold fIdx at *
  rw [List.findIdx_append, if_neg h]
  simp [List.findIdx_cons]
theorem gS_at (R : Nat → List Bool) : ∀ y z, z < y → (gS R y).2.getD z 0 = fIdx (gS R y).1 (R z) ∧ fIdx (gS R y).1 (R z) < (gS R y).1.length := by
  intro y
  induction y with
  | zero => intro z h; omega
  | succ y ih =>
    intro z hz
    have hl := gS_len R y
    have hle := fIdx_le (gS R y).1 (R y)
    rw [gS_succ]
    simp only
    rcases Nat.lt_or_ge z y with h | h
    · obtain ⟨h1, h2⟩ := ih z h
      rw [getD_l (by omega), h1]
      split
      · exact ⟨rfl, h2⟩
      · rw [fIdx_app h2]
        exact ⟨rfl, by simp; omega⟩
    · obtain rfl : z = y := by omega
      have e : ((gS R z).2 ++ [fIdx (gS R z).1 (R z)]).getD z 0 = fIdx (gS R z).1 (R z) := by
        have := getD_r (L := (gS R z).2) (k := fIdx (gS R z).1 (R z))
        rwa [hl] at this
      rw [e]
      split
      · rename_i h3; exact ⟨rfl, h3⟩
      · rename_i h3
        rw [fIdx_new h3]
        exact ⟨by omega, by simp⟩
theorem gS_mem (R : Nat → List Bool) : ∀ y l, l ∈ (gS R y).1 → ∃ z, z < y ∧ R z = l := by
  intro y
  induction y with
  | zero => intro l h; simp [gS] at h
  | succ y ih =>
    intro l h
    rw [gS_succ] at h
    simp only at h
    split at h
    · obtain ⟨z, h1, h2⟩ := ih l h
      exact ⟨z, by omega, h2⟩
    · rcases List.mem_append.1 h with h | h
      · obtain ⟨z, h1, h2⟩ := ih l h
        exact ⟨z, by omega, h2⟩
      · exact ⟨y, by omega, (List.mem_singleton.1 h).symm⟩
/-- The number as it stands once the first z rows have been looked at. -/
def kS (R : Nat → List Bool) (y : Nat) : Nat → Nat
  | 0 => (gS R y).1.length
  | z + 1 => if R y = R z then (gS R y).2.getD z 0 else kS R y z
theorem kS_or (R : Nat → List Bool) (y : Nat) : ∀ z, z ≤ y → kS R y z = fIdx (gS R y).1 (R y) ∨ (kS R y z = (gS R y).1.length ∧ ∀ j, j < z → R y ≠ R j) := by
  intro z
  induction z with
  | zero => intro _; exact .inr ⟨rfl, fun j h => by omega⟩
  | succ z ih =>
    intro hz
    unfold kS
    split
    · rename_i h
      left
      rw [(gS_at R y z (by omega)).1, h]
    · rename_i h
      rcases ih (by omega) with h1 | ⟨h1, h2⟩
      · exact .inl h1
      · refine .inr ⟨h1, fun j hj => ?_⟩
        rcases Nat.lt_or_ge j z with h3 | h3
        · exact h2 j h3
        · obtain rfl : j = z := by omega
          exact h
theorem kS_all (R : Nat → List Bool) (y : Nat) : kS R y y = fIdx (gS R y).1 (R y) := by
  rcases kS_or R y y (Nat.le_refl _) with h | ⟨h, h2⟩
  · exact h
  · rw [h, fIdx_none]
    intro j hj he
    have hm : (gS R y).1.getD j [] ∈ (gS R y).1 := by
      rw [List.getD_eq_getElem?_getD, List.getElem?_eq_getElem hj]; simp
    obtain ⟨z, h3, h4⟩ := gS_mem R y _ hm
    exact h2 z h3 (by rw [h4, he])
theorem kS_le (R : Nat → List Bool) (y z : Nat) (hz : z ≤ y) : kS R y z ≤ y := by
  have h1 := gS_le R y
  have h2 := fIdx_le (gS R y).1 (R y)
  rcases kS_or R y z hz with h | ⟨h, _⟩ <;> omega
theorem natI_getD (L : List Nat) (z : Nat) : (natI L).getD z 0 = ((L.getD z 0 : Nat) : Int) := by
  unfold natI
  rw [List.getD_eq_getElem?_getD, List.getD_eq_getElem?_getD, List.getElem?_map]
  cases L[z]? <;> rfl
theorem rowL_eq {bs : List Bool} {W y z : Nat} : rowL bs W y = rowL bs W z ↔ ∀ x, x < W → bs.getD (y * W + x) false = bs.getD (z * W + x) false := by
  constructor
  · intro h x hx
    rw [← rowL_get bs hx, ← rowL_get bs hx, h]
  · intro h
    unfold rowL
    exact List.map_congr_left fun x hx => h x (List.mem_range.1 hx)
end Go.Proofs.Ytpmecoojhjopcaa
