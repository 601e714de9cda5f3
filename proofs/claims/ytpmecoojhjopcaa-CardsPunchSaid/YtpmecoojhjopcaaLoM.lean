/- Runs, going round: no program in sight. -/
import Derived.Test.YtpmecoojhjopcaaRows
namespace Go.Proofs.Ytpmecoojhjopcaa.Lo
set_option linter.unusedVariables false
set_option linter.unusedSimpArgs false
/-- How far it goes on from x, at most so far. -/
def crun (f : Nat → Bool) : Nat → Nat → Nat
  | _, 0 => 0
  | x, k + 1 => if f x then crun f (x+1) k + 1 else 0
/-- The greatest of the first k. -/
def mxTo (g : Nat → Nat) : Nat → Nat
  | 0 => 0
  | k + 1 => max (mxTo g k) (g k)
/-- The scan from s on: the run that ends here, and the longest one. -/
def scanTo (f : Nat → Bool) (s most : Nat) : Nat → Nat × Nat
  | 0 => (0, most)
  | i + 1 => if f (s + i) then ((scanTo f s most i).1 + 1, max (scanTo f s most i).2 ((scanTo f s most i).1 + 1)) else (0, (scanTo f s most i).2)
theorem crun_le (f : Nat → Bool) (k : Nat) : ∀ x, crun f x k ≤ k := by
  induction k with
  | zero => intro x; simp [crun]
  | succ k ih => intro x; unfold crun; split; · have := ih (x+1); omega
                 · omega
theorem crun_ge {f : Nat → Bool} {m : Nat} : ∀ {k x : Nat}, m ≤ k → (∀ j, j < m → f (x + j) = true) → m ≤ crun f x k := by
  induction m with
  | zero => intros; omega
  | succ m ih =>
    intro k x hk h
    cases k with
    | zero => omega
    | succ k =>
      have h0 := h 0 (by omega)
      simp only [Nat.add_zero] at h0
      unfold crun
      rw [h0]
      have := ih (k := k) (x := x + 1) (by omega) (fun j hj => by have := h (j+1) (by omega); rwa [show x + (j + 1) = x + 1 + j by omega] at this)
      simp; omega
theorem crun_all {f : Nat → Bool} {k : Nat} : ∀ {x j : Nat}, j < crun f x k → f (x + j) = true := by
  induction k with
  | zero => intro x j h; simp [crun] at h
  | succ k ih =>
    intro x j h
    unfold crun at h
    split at h
    · rename_i h0
      cases j with
      | zero => exact h0
      | succ j =>
        have := ih (x := x + 1) (j := j) (by omega)
        rwa [show x + 1 + j = x + (j + 1) by omega] at this
    · omega
theorem le_mxTo {g : Nat → Nat} {k i : Nat} (h : i < k) : g i ≤ mxTo g k := by
  induction k with
  | zero => omega
  | succ k ih =>
    unfold mxTo
    by_cases e : i = k
    · subst e; omega
    · have := ih (by omega); omega
theorem mxTo_le {g : Nat → Nat} {k m : Nat} (h : ∀ i, i < k → g i ≤ m) : mxTo g k ≤ m := by
  induction k with
  | zero => simp [mxTo]
  | succ k ih =>
    unfold mxTo
    have := ih (fun i hi => h i (by omega))
    have := h k (by omega)
    omega
theorem mxTo_congr {g g' : Nat → Nat} {k : Nat} (h : ∀ i, i < k → g i = g' i) : mxTo g k = mxTo g' k := by
  apply Nat.le_antisymm
  · exact mxTo_le fun i hi => by rw [h i hi]; exact le_mxTo hi
  · exact mxTo_le fun i hi => by rw [← h i hi]; exact le_mxTo hi
theorem scan_len (f : Nat → Bool) (s most i : Nat) : (scanTo f s most i).1 ≤ i ∧ most ≤ (scanTo f s most i).2 ∧ (∀ j, j < (scanTo f s most i).1 → f (s + i - 1 - j) = true) := by
  induction i with
  | zero => simp [scanTo]
  | succ i ih =>
    obtain ⟨h1, h2, h3⟩ := ih
    unfold scanTo
    split
    · rename_i h
      refine ⟨by simp only; omega, by simp only; omega, fun j hj => ?_⟩
      simp only at hj
      cases j with
      | zero => rw [show s + (i+1) - 1 - 0 = s + i by omega]; exact h
      | succ j =>
        have := h3 j (by omega)
        rwa [show s + (i + 1) - 1 - (j + 1) = s + i - 1 - j by omega]
    · exact ⟨by simp only; omega, h2, fun j hj => by simp at hj⟩
theorem scan_mono (f : Nat → Bool) (s most i : Nat) : (scanTo f s most i).2 ≤ (scanTo f s most (i+1)).2 := by
  show _ ≤ (scanTo f s most (i+1)).2
  rw [scanTo]
  split <;> simp only <;> omega
theorem scan_mono' (f : Nat → Bool) (s most i j : Nat) (h : i ≤ j) : (scanTo f s most i).2 ≤ (scanTo f s most j).2 := by
  induction j with
  | zero => obtain rfl : i = 0 := by omega
            exact Nat.le_refl _
  | succ j ih =>
    by_cases e : i = j + 1
    · subst e; exact Nat.le_refl _
    · exact Nat.le_trans (ih (by omega)) (scan_mono f s most j)
theorem scan_run {f : Nat → Bool} {s most m : Nat} : ∀ {i : Nat}, m ≤ i → (∀ j, j < m → f (s + i - 1 - j) = true) → m ≤ (scanTo f s most i).1 := by
  induction m with
  | zero => intros; omega
  | succ m ih =>
    intro i hi h
    cases i with
    | zero => omega
    | succ i =>
      have h0 := h 0 (by omega)
      rw [show s + (i+1) - 1 - 0 = s + i by omega] at h0
      rw [scanTo, if_pos h0]
      have := ih (i := i) (by omega) (fun j hj => by have := h (j+1) (by omega); rwa [show s + (i + 1) - 1 - (j + 1) = s + i - 1 - j by omega] at this)
      simp only; omega
theorem scan_ge {f : Nat → Bool} {s most i : Nat} (h : 0 < (scanTo f s most i).1) : (scanTo f s most i).1 ≤ (scanTo f s most i).2 := by
  cases i with
  | zero => simp [scanTo] at h
  | succ i =>
    rw [scanTo] at h ⊢
    split
    · simp only; omega
    · rename_i h0; rw [if_neg h0] at h; simp at h
theorem scan_le {f : Nat → Bool} {s most B : Nat} (hm : most ≤ B) : ∀ (i : Nat), (∀ j, j ≤ i → (scanTo f s most j).1 ≤ B) → (scanTo f s most i).2 ≤ B := by
  intro i
  induction i with
  | zero => intro _; simpa [scanTo] using hm
  | succ i ih =>
    intro h
    have h1 := ih (fun j hj => h j (by omega))
    have h2 := h (i+1) (by omega)
    rw [scanTo] at h2 ⊢
    split
    · rename_i h0; rw [if_pos h0] at h2; simp only at h2 ⊢; omega
    · exact h1
/-- The scan of one round finds the longest of all runs, going round. -/
theorem scan_max {f : Nat → Bool} {W s most : Nat} (hp : ∀ i, f (i + W) = f i) (hs : s < W) (hf : f s = false) (hW : W ≤ 64) : (scanTo f s most W).2 = max most (mxTo (fun x => crun f x 65) W) := by
  have hper : ∀ i k, f (i + k * W) = f i := by
    intro i k
    induction k with
    | zero => simp
    | succ k ih => rw [Nat.add_mul, Nat.one_mul, ← Nat.add_assoc, hp, ih]
  have hmod : ∀ i, f (i % W) = f i := by
    intro i
    have := hper (i % W) (i / W)
    rw [Nat.mul_comm, Nat.mod_add_div] at this
    exact this.symm
  apply Nat.le_antisymm
  · refine scan_le (by omega) W fun i hi => ?_
    obtain ⟨h1, _, h3⟩ := scan_len f s most i
    generalize (scanTo f s most i).1 = m at *
    by_cases hm : m = 0
    · omega
    have h4 : m ≤ crun f ((s + i - m) % W) 65 := crun_ge (by omega) fun j hj => by
      have e : f ((s + i - m) % W + j) = f (s + i - m + j) := by
        rw [← hmod ((s + i - m) % W + j), Nat.mod_add_mod, hmod]
      rw [e, show s + i - m + j = s + i - 1 - (m - 1 - j) by omega]
      exact h3 _ (by omega)
    have h5 := le_mxTo (g := fun x => crun f x 65) (k := W) (i := (s + i - m) % W) (Nat.mod_lt _ (by omega))
    omega
  · have h0 := (scan_len f s most W).2.1
    have h1 : mxTo (fun x => crun f x 65) W ≤ (scanTo f s most W).2 := by
      refine mxTo_le fun x hx => ?_
      generalize hm : crun f x 65 = m
      by_cases hm0 : m = 0
      · omega
      have hall : ∀ j, j < m → f (x + j) = true := fun j hj => crun_all (by rw [hm]; exact hj)
      -- where the run lies behind s
      obtain ⟨x', hx1, hx2, hx3⟩ : ∃ x', s < x' ∧ x' < s + W ∧ (x' = x ∨ x' = x + W) := by
        by_cases h : s < x
        · exact ⟨x, h, by omega, .inl rfl⟩
        · by_cases h2 : x = s
          · have := hall 0 (by omega); rw [Nat.add_zero, h2, hf] at this; cases this
          · exact ⟨x + W, by omega, by omega, .inr rfl⟩
      have hall' : ∀ j, j < m → f (x' + j) = true := by
        intro j hj
        rcases hx3 with rfl | rfl
        · exact hall j hj
        · rw [show x + W + j = x + j + W by omega, hp]; exact hall j hj
      have hend : x' + m ≤ s + W := by
        rcases Nat.lt_or_ge (s + W) (x' + m) with h | h
        · have := hall' (s + W - x') (by omega)
          rw [show x' + (s + W - x') = s + W by omega, hp, hf] at this
          cases this
        · exact h
      have h2 := scan_run (f := f) (s := s) (most := most) (m := m) (i := x' + m - s) (by omega) (fun j hj => by
        rw [show s + (x' + m - s) - 1 - j = x' + (m - 1 - j) by omega]
        exact hall' _ (by omega))
      have h3 := scan_ge (f := f) (s := s) (most := most) (i := x' + m - s) (by omega)
      have h4 := scan_mono' f s most (x' + m - s) W (by omega)
      omega
    omega
/-- One that never ends. -/
theorem run_full {f : Nat → Bool} {W : Nat} (hW : 0 < W) (h : ∀ i, f i = true) : mxTo (fun x => crun f x 65) W = 65 := by
  apply Nat.le_antisymm
  · exact mxTo_le fun x hx => crun_le f 65 x
  · have h1 := le_mxTo (g := fun x => crun f x 65) hW
    have h2 : 65 ≤ crun f 0 65 := crun_ge (Nat.le_refl _) fun j hj => h _
    omega
/-- Does the row's place i hold so? -/
def rf (of : Bool) (W : Nat) (bs : List Bool) (y i : Nat) : Bool := decide (bs.getD (y * W + i % W) false = of)
def rowG (of : Bool) (W : Nat) (bs : List Bool) (y : Nat) : Nat := mxTo (fun x => crun (rf of W bs y) x 65) W
/-- The longest run along the rows. -/
def longV (of : Bool) (W H : Nat) (bs : List Bool) : Nat := mxTo (rowG of W bs) H
theorem rowG_le (of : Bool) (W : Nat) (bs : List Bool) (y : Nat) : rowG of W bs y ≤ 65 := mxTo_le fun x hx => crun_le _ 65 x
theorem longV_le (of : Bool) (W H : Nat) (bs : List Bool) : longV of W H bs ≤ 65 := mxTo_le fun y hy => rowG_le of W bs y
theorem rf_per (of : Bool) (W : Nat) (bs : List Bool) (y i : Nat) : rf of W bs y (i + W) = rf of W bs y i := by unfold rf; rw [Nat.add_mod_right]
def foldG (g : Nat → Nat) {H : Nat} (pre : List (Fin H)) : Nat := pre.foldl (fun m y => max m (g y.val)) 0
theorem foldG_snoc (g : Nat → Nat) {H : Nat} (pre : List (Fin H)) (y : Fin H) : foldG g (pre ++ [y]) = max (foldG g pre) (g y.val) := by simp [foldG]
theorem foldG_spec' (g : Nat → Nat) {H : Nat} (l : List (Fin H)) : ∀ m, m ≤ l.foldl (fun m y => max m (g y.val)) m ∧ (∀ y ∈ l, g y.val ≤ l.foldl (fun m y => max m (g y.val)) m) ∧ (∀ B, m ≤ B → (∀ y ∈ l, g y.val ≤ B) → l.foldl (fun m y => max m (g y.val)) m ≤ B) := by
  induction l with
  | nil => intro m; simp
  | cons a l ih =>
    intro m
    obtain ⟨h1, h2, h3⟩ := ih (max m (g a.val))
    simp only [List.foldl_cons, List.mem_cons]
    refine ⟨by omega, ?_, fun B hB h => h3 B ?_ fun y hy => h y (.inr hy)⟩
    · rintro y (rfl | hy)
      · omega
      · exact h2 y hy
    · have := h a (.inl rfl); omega
theorem foldG_all (g : Nat → Nat) (H : Nat) : foldG g (List.finRange H) = mxTo g H := by
  obtain ⟨_, h2, h3⟩ := foldG_spec' g (List.finRange H) 0
  apply Nat.le_antisymm
  · exact h3 _ (by omega) fun y _ => le_mxTo y.isLt
  · exact mxTo_le fun i hi => h2 ⟨i, hi⟩ (List.mem_finRange _)
theorem foldG_le (g : Nat → Nat) {H B : Nat} (h : ∀ y, g y ≤ B) (pre : List (Fin H)) : foldG g pre ≤ B := (foldG_spec' g pre 0).2.2 B (by omega) fun y _ => h _
end Go.Proofs.Ytpmecoojhjopcaa.Lo
