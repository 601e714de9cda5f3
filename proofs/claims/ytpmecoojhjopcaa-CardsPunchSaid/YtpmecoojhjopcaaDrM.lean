/- Drafts: numbers of rows, their first places, how many there are: no program in sight. -/
import Derived.Test.YtpmecoojhjopcaaAgM
import Derived.Test.YtpmecoojhjopcaaTpM
namespace Go.Proofs.Ytpmecoojhjopcaa
open Go.RowKit
set_option linter.unusedVariables false
set_option linter.unusedSimpArgs false
/-- How many of the first k values stand there for the first time. -/
def usedN {α : Type} [DecidableEq α] (f : Nat → α) : Nat → Nat
  | 0 => 0
  | k + 1 => usedN f k + (if ∀ j, j < k → f j ≠ f k then 1 else 0)
section
variable {α β : Type} [DecidableEq α] [DecidableEq β]
theorem usedN_le {f : Nat → α} {g : Nat → β} : ∀ k, (∀ i j, i < k → j < k → g i = g j → f i = f j) → usedN f k ≤ usedN g k := by
  intro k
  induction k with
  | zero => intro _; exact Nat.le_refl _
  | succ k ih =>
    intro h
    have h1 := ih fun i j hi hj => h i j (by omega) (by omega)
    show usedN f k + (if ∀ j, j < k → f j ≠ f k then 1 else 0) ≤ usedN g k + (if ∀ j, j < k → g j ≠ g k then 1 else 0)
    by_cases hf : ∀ j, j < k → f j ≠ f k
    · rw [if_pos hf, if_pos (fun j hj e => hf j hj (h j k (by omega) (by omega) e))]; omega
    · rw [if_neg hf]; split <;> omega
theorem usedN_eq {f : Nat → α} {g : Nat → β} {k : Nat} (h : ∀ i j, i < k → j < k → (g i = g j ↔ f i = f j)) : usedN f k = usedN g k :=
  Nat.le_antisymm (usedN_le k fun i j hi hj e => (h i j hi hj).1 e) (usedN_le k fun i j hi hj e => (h i j hi hj).2 e)
theorem usedN_bd (f : Nat → α) (k : Nat) : usedN f k ≤ k := by
  induction k with
  | zero => exact Nat.le_refl _
  | succ k ih => unfold usedN; split <;> omega
end
/-- The numbers of rows, and the rows that are new. -/
theorem gS_pre (R : Nat → List Bool) {y z H : Nat} (hz : z < y) (hy : y ≤ H) : (gS R H).2.getD z 0 = (gS R y).2.getD z 0 := by
  induction H with
  | zero => obtain rfl : y = 0 := by omega
            rfl
  | succ H ih =>
    by_cases e : y = H + 1
    · rw [e]
    · rw [gS_succ]
      simp only
      rw [getD_l (by rw [gS_len]; omega)]
      exact ih (by omega)
theorem gS_num (R : Nat → List Bool) {y H : Nat} (hy : y < H) : (gS R H).2.getD y 0 = fIdx (gS R y).1 (R y) := by
  rw [gS_pre R (y := y + 1) (by omega) (by omega), gS_succ]
  have := getD_r (L := (gS R y).2) (k := fIdx (gS R y).1 (R y))
  rwa [gS_len] at this
theorem fIdx_inj {K : List (List Bool)} {r s : List Bool} (hr : fIdx K r < K.length) (h : fIdx K r = fIdx K s) : r = s := by
  have hs : fIdx K s < K.length := by omega
  have e1 := List.findIdx_getElem (xs := K) (p := fun l => decide (l = r)) (w := hr)
  have e2 := List.findIdx_getElem (xs := K) (p := fun l => decide (l = s)) (w := hs)
  simp only [decide_eq_true_eq] at e1 e2
  rw [← e1, ← e2]
  congr 1
theorem num_iff (R : Nat → List Bool) {i j H : Nat} (hi : i < H) (hj : j < H) : (gS R H).2.getD i 0 = (gS R H).2.getD j 0 ↔ R i = R j := by
  obtain ⟨e1, l1⟩ := gS_at R H i hi
  obtain ⟨e2, l2⟩ := gS_at R H j hj
  rw [e1, e2]
  exact ⟨fun h => fIdx_inj l1 h, fun h => by rw [h]⟩
theorem mem_gS (R : Nat → List Bool) {y z : Nat} (h : z < y) : R z ∈ (gS R y).1 := by
  obtain ⟨_, l⟩ := gS_at R y z h
  have e := List.findIdx_getElem (xs := (gS R y).1) (p := fun l => decide (l = R z)) (w := l)
  simp only [decide_eq_true_eq] at e
  rw [← e]; exact List.getElem_mem _
theorem fIdx_lt_iff {K : List (List Bool)} {r : List Bool} : fIdx K r < K.length ↔ r ∈ K := by
  unfold fIdx
  rw [List.findIdx_lt_length]
  constructor
  · rintro ⟨x, hx, e⟩
    simp only [decide_eq_true_eq] at e
    rw [← e]; exact hx
  · intro h; exact ⟨r, h, by simp⟩
theorem gS_used (R : Nat → List Bool) (y : Nat) : (gS R y).1.length = usedN R y := by
  induction y with
  | zero => rfl
  | succ y ih =>
    rw [gS_succ]
    show _ = usedN R y + (if ∀ j, j < y → R j ≠ R y then 1 else 0)
    simp only
    by_cases h : fIdx (gS R y).1 (R y) < (gS R y).1.length
    · rw [if_pos h]
      obtain ⟨z, hz, e⟩ := gS_mem R y _ (fIdx_lt_iff.1 h)
      rw [if_neg (fun hh => hh z hz e)]; omega
    · rw [if_neg h, List.length_append, ih]
      rw [if_pos (fun j hj e => h (fIdx_lt_iff.2 (by rw [← e]; exact mem_gS R hj)))]
      rfl
/-- The places where a number stands for the first time, among the first k. -/
def frs (l : List Nat) : Nat → List Nat
  | 0 => []
  | k + 1 => if l.getD k 0 = (frs l k).length then frs l k ++ [k] else frs l k
theorem frs_len_le (l : List Nat) (k : Nat) : (frs l k).length ≤ k := by
  induction k with
  | zero => simp [frs]
  | succ k ih =>
    unfold frs
    split
    · rw [List.length_append, List.length_cons, List.length_nil]; omega
    · omega
theorem frs_lt (l : List Nat) (k : Nat) : ∀ x ∈ frs l k, x < k := by
  induction k with
  | zero => simp [frs]
  | succ k ih =>
    intro x hx
    unfold frs at hx
    split at hx
    · rw [List.mem_append, List.mem_singleton] at hx
      rcases hx with h | h
      · have := ih x h; omega
      · omega
    · have := ih x hx; omega
theorem frs_gS (R : Nat → List Bool) {H : Nat} : ∀ y, y ≤ H → (frs (gS R H).2 y).length = (gS R y).1.length ∧ ∀ j, j < (gS R y).1.length → (gS R y).1.getD j [] = R ((frs (gS R H).2 y).getD j 0) := by
  intro y
  induction y with
  | zero => intro _; exact ⟨rfl, fun j h => by simp [gS] at h⟩
  | succ y ih =>
    intro hy
    obtain ⟨h1, h2⟩ := ih (by omega)
    have hn := gS_num R (y := y) (H := H) (by omega)
    have hle := fIdx_le (gS R y).1 (R y)
    rw [gS_succ]
    simp only [frs]
    rw [hn]
    by_cases h : fIdx (gS R y).1 (R y) < (gS R y).1.length
    · rw [if_pos h, if_neg (by omega)]
      exact ⟨h1, h2⟩
    · rw [if_neg h, if_pos (by omega)]
      refine ⟨by rw [List.length_append, List.length_append, h1]; rfl, fun j hj => ?_⟩
      rw [List.length_append, List.length_cons, List.length_nil] at hj
      by_cases e : j < (gS R y).1.length
      · rw [List.getD_eq_getElem?_getD, List.getElem?_append_left e, ← List.getD_eq_getElem?_getD, h2 j e, getD_l (by omega)]
      · obtain rfl : j = (gS R y).1.length := by omega
        rw [List.getD_eq_getElem?_getD, List.getElem?_append_right (Nat.le_refl _), ← h1, getD_r]
        simp
/-- The row at which a number stands first is the row itself. -/
theorem frs_row (R : Nat → List Bool) {H y : Nat} (hy : y < H) : (gS R H).2.getD y 0 < (frs (gS R H).2 H).length ∧ R ((frs (gS R H).2 H).getD ((gS R H).2.getD y 0) 0) = R y := by
  obtain ⟨h1, h2⟩ := frs_gS R (H := H) H (Nat.le_refl _)
  obtain ⟨e, l⟩ := gS_at R H y hy
  rw [e, h1]
  refine ⟨l, ?_⟩
  rw [← h2 _ l]
  have e2 := List.findIdx_getElem (xs := (gS R H).1) (p := fun l => decide (l = R y)) (w := l)
  simp only [decide_eq_true_eq] at e2
  rw [List.getD_eq_getElem?_getD, List.getElem?_eq_getElem l]
  exact e2
/-- The rows' numbers of truths of W and H; of their columns. -/
def trL (W H : Nat) (bs : List Bool) : List Nat := alikeL W H bs
def thL (W H : Nat) (bs : List Bool) : List Nat := alikeL H W (turnL W H bs)
def picks (W H : Nat) (bs : List Bool) : List Nat := frs (trL W H bs) H
def ends (W H : Nat) (bs : List Bool) : List Nat := frs (thL W H bs) W
/-- The tie-up. -/
def tieL (W H : Nat) (bs : List Bool) : List Bool := ((picks W H bs).map fun y => (ends W H bs).map fun x => bs.getD (y * W + x) false).flatten
/-- What a draft weaves. -/
def ddL (W : Nat) (tie : List Bool) (th tr : List Nat) : List Bool := (tr.map fun t => th.map fun s => tie.getD (t * W + s) false).flatten
theorem grid_get {l m : List Nat} {f : Nat → Nat → Bool} : ∀ {y x : Nat}, y < l.length → x < m.length → ((l.map fun a => m.map fun b => f a b).flatten).getD (y * m.length + x) false = f (l.getD y 0) (m.getD x 0) := by
  induction l with
  | nil => intro y x hy; simp at hy
  | cons a l ih =>
    intro y x hy hx
    rw [List.map_cons, List.flatten_cons]
    cases y with
    | zero =>
      rw [Nat.zero_mul, Nat.zero_add, List.getD_eq_getElem?_getD, List.getElem?_append_left (by simpa using hx), List.getElem?_map, List.getElem?_eq_getElem hx]
      simp [List.getD, hx]
    | succ y =>
      rw [List.getD_eq_getElem?_getD, List.getElem?_append_right (by rw [List.length_map, Nat.add_mul]; omega), List.length_map, show (y + 1) * m.length + x - m.length = y * m.length + x by rw [Nat.add_mul]; omega, ← List.getD_eq_getElem?_getD]
      exact ih (by simpa using hy) hx
theorem grid_len {l m : List Nat} {f : Nat → Nat → Bool} : ((l.map fun a => m.map fun b => f a b).flatten).length = m.length * l.length := by
  induction l with
  | nil => simp
  | cons a l ih => rw [List.map_cons, List.flatten_cons, List.length_append, List.length_map, ih, List.length_cons, Nat.mul_add]; omega
theorem thL_len (W H : Nat) (bs : List Bool) : (thL W H bs).length = W := alikeL_len _ _ _
theorem trL_len (W H : Nat) (bs : List Bool) : (trL W H bs).length = H := alikeL_len _ _ _
theorem getD_memN {L : List Nat} {j : Nat} (h : j < L.length) : L.getD j 0 ∈ L := by
  rw [List.getD_eq_getElem?_getD, List.getElem?_eq_getElem h]; exact List.getElem_mem h
/-- What is told weaves the cloth. -/
theorem dd_fewest {W H : Nat} {bs : List Bool} (hl : bs.length = W * H) : ddL (ends W H bs).length (tieL W H bs) (thL W H bs) (trL W H bs) = bs := by
  refine grid_ext (W := W) (H := H) (by unfold ddL; rw [grid_len, thL_len, trL_len]) hl fun y x hy hx => ?_
  have h1 := grid_get (l := trL W H bs) (m := thL W H bs) (f := fun t s => (tieL W H bs).getD (t * (ends W H bs).length + s) false) (y := y) (x := x) (by rw [trL_len]; exact hy) (by rw [thL_len]; exact hx)
  rw [thL_len] at h1
  unfold ddL
  rw [h1]
  obtain ⟨a1, a2⟩ := frs_row (rowL bs W) hy
  obtain ⟨b1, b2⟩ := frs_row (rowL (turnL W H bs) H) hx
  rw [← alike_gS] at a1 a2 b1 b2
  change (trL W H bs).getD y 0 < (picks W H bs).length at a1
  change rowL bs W ((picks W H bs).getD ((trL W H bs).getD y 0) 0) = _ at a2
  change (thL W H bs).getD x 0 < (ends W H bs).length at b1
  change rowL (turnL W H bs) H ((ends W H bs).getD ((thL W H bs).getD x 0) 0) = _ at b2
  have h2 := grid_get (l := picks W H bs) (m := ends W H bs) (f := fun a b => bs.getD (a * W + b) false) (y := (trL W H bs).getD y 0) (x := (thL W H bs).getD x 0) a1 b1
  unfold tieL
  rw [h2]
  have e1 := rowL_eq.1 a2
  have e2 := rowL_eq.1 b2
  have hpl : (picks W H bs).getD ((trL W H bs).getD y 0) 0 < H := by
    have := frs_lt (trL W H bs) H _ (show (picks W H bs).getD ((trL W H bs).getD y 0) 0 ∈ frs (trL W H bs) H by
      exact getD_memN a1)
    exact this
  have hel : (ends W H bs).getD ((thL W H bs).getD x 0) 0 < W := by
    have := frs_lt (thL W H bs) W _ (show (ends W H bs).getD ((thL W H bs).getD x 0) 0 ∈ frs (thL W H bs) W by
      exact getD_memN b1)
    exact this
  have g1 := e1 _ hel
  have g2 := e2 y hy
  rw [turnL_get hel hy, turnL_get hx hy] at g2
  exact g1.trans g2
theorem used_tr {W H : Nat} {bs : List Bool} : usedN (fun i => (trL W H bs).getD i 0) H = (picks W H bs).length ∧ usedN (rowL bs W) H = (picks W H bs).length := by
  have h1 : usedN (rowL bs W) H = (picks W H bs).length := by
    rw [← gS_used]
    unfold picks trL
    rw [alike_gS]
    exact ((frs_gS (rowL bs W) (H := H) H (Nat.le_refl _)).1).symm
  refine ⟨?_, h1⟩
  rw [← h1]
  refine usedN_eq fun i j hi hj => ?_
  unfold trL
  rw [alike_gS]
  exact (num_iff (rowL bs W) hi hj).symm
theorem used_th {W H : Nat} {bs : List Bool} : usedN (fun i => (thL W H bs).getD i 0) W = (ends W H bs).length ∧ usedN (rowL (turnL W H bs) H) W = (ends W H bs).length := used_tr (W := H) (H := W) (bs := turnL W H bs)
/-- No draft that weaves it uses fewer. -/
theorem fewest_tr {W n : Nat} {tie : List Bool} {th tr : List Nat} (hn : th.length = n) : (picks n tr.length (ddL W tie th tr)).length ≤ usedN (fun i => tr.getD i 0) tr.length := by
  rw [← (used_tr (W := n) (H := tr.length) (bs := ddL W tie th tr)).2]
  refine usedN_le _ fun i j hi hj e => ?_
  rw [rowL_eq]
  intro x hx
  subst hn
  unfold ddL
  rw [grid_get hi hx, grid_get hj hx]
  rw [show tr.getD i 0 = tr.getD j 0 from e]
theorem fewest_th {W n : Nat} {tie : List Bool} {th tr : List Nat} (hn : tr.length = n) : (ends th.length n (ddL W tie th tr)).length ≤ usedN (fun i => th.getD i 0) th.length := by
  rw [← (used_th (W := th.length) (H := n) (bs := ddL W tie th tr)).2]
  refine usedN_le _ fun i j hi hj e => ?_
  rw [rowL_eq]
  intro y hy
  subst hn
  rw [turnL_get hi hy, turnL_get hj hy]
  unfold ddL
  rw [grid_get hy hi, grid_get hy hj]
  rw [show th.getD i 0 = th.getD j 0 from e]
end Go.Proofs.Ytpmecoojhjopcaa
