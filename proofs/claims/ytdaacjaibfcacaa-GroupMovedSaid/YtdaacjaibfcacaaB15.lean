/- Lemmas and contracts of functions (what each call returns, and that it changes nothing that was there) that the proof of a law of this seat uses; each lemma states its own conditions. -/
import Derived.Test.YtdaacjaibfcacaaRows
import Derived.Test.YtdaacjaibfcacaaB10
import Derived.Test.YtdaacjaibfcacaaB07
import Derived.IntWalk
import Derived.Test.YtdaacjaibfcacaaB14
import Derived.Test.YtdaacjaibfcacaaB12
namespace Go.Proofs.Ytdaacjaibfcacaa.Lo
set_option linter.unusedVariables false
set_option linter.unusedSimpArgs false
/-- How far it goes on from x, at most so far. -/
def crun (f : Nat → Bool) : Nat → Nat → Nat
  | _, 0 => 0
  | x, k + 1 => if f x then crun f (x+1) k + 1 else 0
/-- The greatest of the first k. -/
def mxTo (g : Nat → Nat) : Nat → Nat
  | 0 => 0
  | k + 1 => max (mxTo g k) (g k)
/-- The scan from s on: the run that ends here, and the longest one. -/
def scanTo (f : Nat → Bool) (s most : Nat) : Nat → Nat × Nat
  | 0 => (0, most)
  | i + 1 => if f (s + i) then ((scanTo f s most i).1 + 1, max (scanTo f s most i).2 ((scanTo f s most i).1 + 1)) else (0, (scanTo f s most i).2)
theorem crun_le (f : Nat → Bool) (k : Nat) : ∀ x, crun f x k ≤ k := by
  induction k with
  | zero => intro x; simp [crun]
  | succ k ih => intro x; unfold crun; split; · have := ih (x+1); omega
                 · omega
theorem crun_ge {f : Nat → Bool} {m : Nat} : ∀ {k x : Nat}, m ≤ k → (∀ j, j < m → f (x + j) = true) → m ≤ crun f x k := by
  induction m with
  | zero => intros; omega
  | succ m ih =>
    intro k x hk h
    cases k with
    | zero => omega
    | succ k =>
      have h0 := h 0 (by omega)
      simp only [Nat.add_zero] at h0
      unfold crun
      rw [h0]
      have := ih (k := k) (x := x + 1) (by omega) (fun j hj => by have := h (j+1) (by omega); rwa [show x + (j + 1) = x + 1 + j by omega] at this)
      simp; omega
theorem crun_all {f : Nat → Bool} {k : Nat} : ∀ {x j : Nat}, j < crun f x k → f (x + j) = true := by
  induction k with
  | zero => intro x j h; simp [crun] at h
  | succ k ih =>
    intro x j h
    unfold crun at h
    split at h
    · rename_i h0
      cases j with
      | zero => exact h0
      | succ j =>
        have := ih (x := x + 1) (j := j) (by omega)
        rwa [show x + 1 + j = x + (j + 1) by omega] at this
    · omega
theorem le_mxTo {g : Nat → Nat} {k i : Nat} (h : i < k) : g i ≤ mxTo g k := by
  induction k with
  | zero => omega
  | succ k ih =>
    unfold mxTo
    by_cases e : i = k
    · subst e; omega
    · have := ih (by omega); omega
theorem mxTo_le {g : Nat → Nat} {k m : Nat} (h : ∀ i, i < k → g i ≤ m) : mxTo g k ≤ m := by
  induction k with
  | zero => simp [mxTo]
  | succ k ih =>
    unfold mxTo
    have := ih (fun i hi => h i (by omega))
    have := h k (by omega)
    omega
theorem mxTo_congr {g g' : Nat → Nat} {k : Nat} (h : ∀ i, i < k → g i = g' i) : mxTo g k = mxTo g' k := by
  apply Nat.le_antisymm
  · exact mxTo_le fun i hi => by rw [h i hi]; exact le_mxTo hi
  · exact mxTo_le fun i hi => by rw [← h i hi]; exact le_mxTo hi
theorem scan_len (f : Nat → Bool) (s most i : Nat) : (scanTo f s most i).1 ≤ i ∧ most ≤ (scanTo f s most i).2 ∧ (∀ j, j < (scanTo f s most i).1 → f (s + i - 1 - j) = true) := by
  induction i with
  | zero => simp [scanTo]
  | succ i ih =>
    obtain ⟨h1, h2, h3⟩ := ih
    unfold scanTo
    split
    · rename_i h
      refine ⟨by simp only; omega, by simp only; omega, fun j hj => ?_⟩
      simp only at hj
      cases j with
      | zero => rw [show s + (i+1) - 1 - 0 = s + i by omega]; exact h
      | succ j =>
        have := h3 j (by omega)
        rwa [show s + (i + 1) - 1 - (j + 1) = s + i - 1 - j by omega]
    · exact ⟨by simp only; omega, h2, fun j hj => by simp at hj⟩
theorem scan_mono (f : Nat → Bool) (s most i : Nat) : (scanTo f s most i).2 ≤ (scanTo f s most (i+1)).2 := by
  show _ ≤ (scanTo f s most (i+1)).2
  rw [scanTo]
  split <;> simp only <;> omega
theorem scan_mono' (f : Nat → Bool) (s most i j : Nat) (h : i ≤ j) : (scanTo f s most i).2 ≤ (scanTo f s most j).2 := by
  induction j with
  | zero => obtain rfl : i = 0 := by omega
            exact Nat.le_refl _
  | succ j ih =>
    by_cases e : i = j + 1
    · subst e; exact Nat.le_refl _
    · exact Nat.le_trans (ih (by omega)) (scan_mono f s most j)
theorem scan_run {f : Nat → Bool} {s most m : Nat} : ∀ {i : Nat}, m ≤ i → (∀ j, j < m → f (s + i - 1 - j) = true) → m ≤ (scanTo f s most i).1 := by
  induction m with
  | zero => intros; omega
  | succ m ih =>
    intro i hi h
    cases i with
    | zero => omega
    | succ i =>
      have h0 := h 0 (by omega)
      rw [show s + (i+1) - 1 - 0 = s + i by omega] at h0
      rw [scanTo, if_pos h0]
      have := ih (i := i) (by omega) (fun j hj => by have := h (j+1) (by omega); rwa [show s + (i + 1) - 1 - (j + 1) = s + i - 1 - j by omega] at this)
      simp only; omega
theorem scan_ge {f : Nat → Bool} {s most i : Nat} (h : 0 < (scanTo f s most i).1) : (scanTo f s most i).1 ≤ (scanTo f s most i).2 := by
  cases i with
  | zero => simp [scanTo] at h
  | succ i =>
    rw [scanTo] at h ⊢
    split
    · simp only; omega
    · rename_i h0; rw [if_neg h0] at h; simp at h
theorem scan_le {f : Nat → Bool} {s most B : Nat} (hm : most ≤ B) : ∀ (i : Nat), (∀ j, j ≤ i → (scanTo f s most j).1 ≤ B) → (scanTo f s most i).2 ≤ B := by
  intro i
  induction i with
  | zero => intro _; simpa [scanTo] using hm
  | succ i ih =>
    intro h
    have h1 := ih (fun j hj => h j (by omega))
    have h2 := h (i+1) (by omega)
    rw [scanTo] at h2 ⊢
    split
    · rename_i h0; rw [if_pos h0] at h2; simp only at h2 ⊢; omega
    · exact h1
/-- The scan of one round finds the longest of all runs, going round. -/
theorem scan_max {f : Nat → Bool} {W s most : Nat} (hp : ∀ i, f (i + W) = f i) (hs : s < W) (hf : f s = false) (hW : W ≤ 64) : (scanTo f s most W).2 = max most (mxTo (fun x => crun f x 65) W) := by
  have hper : ∀ i k, f (i + k * W) = f i := by
    intro i k
    induction k with
    | zero => simp
    | succ k ih => rw [Nat.add_mul, Nat.one_mul, ← Nat.add_assoc, hp, ih]
  have hmod : ∀ i, f (i % W) = f i := by
    intro i
    have := hper (i % W) (i / W)
    rw [Nat.mul_comm, Nat.mod_add_div] at this
    exact this.symm
  apply Nat.le_antisymm
  · refine scan_le (by omega) W fun i hi => ?_
    obtain ⟨h1, _, h3⟩ := scan_len f s most i
    generalize (scanTo f s most i).1 = m at *
    by_cases hm : m = 0
    · omega
    have h4 : m ≤ crun f ((s + i - m) % W) 65 := crun_ge (by omega) fun j hj => by
      have e : f ((s + i - m) % W + j) = f (s + i - m + j) := by
        rw [← hmod ((s + i - m) % W + j), Nat.mod_add_mod, hmod]
      rw [e, show s + i - m + j = s + i - 1 - (m - 1 - j) by omega]
      exact h3 _ (by omega)
    have h5 := le_mxTo (g := fun x => crun f x 65) (k := W) (i := (s + i - m) % W) (Nat.mod_lt _ (by omega))
    omega
  · have h0 := (scan_len f s most W).2.1
    have h1 : mxTo (fun x => crun f x 65) W ≤ (scanTo f s most W).2 := by
      refine mxTo_le fun x hx => ?_
      generalize hm : crun f x 65 = m
      by_cases hm0 : m = 0
      · omega
      have hall : ∀ j, j < m → f (x + j) = true := fun j hj => crun_all (by rw [hm]; exact hj)
      -- where the run lies behind s
      obtain ⟨x', hx1, hx2, hx3⟩ : ∃ x', s < x' ∧ x' < s + W ∧ (x' = x ∨ x' = x + W) := by
        by_cases h : s < x
        · exact ⟨x, h, by omega, .inl rfl⟩
        · by_cases h2 : x = s
          · have := hall 0 (by omega); rw [Nat.add_zero, h2, hf] at this; cases this
          · exact ⟨x + W, by omega, by omega, .inr rfl⟩
      have hall' : ∀ j, j < m → f (x' + j) = true := by
        intro j hj
        rcases hx3 with rfl | rfl
        · exact hall j hj
        · rw [show x + W + j = x + j + W by omega, hp]; exact hall j hj
      have hend : x' + m ≤ s + W := by
        rcases Nat.lt_or_ge (s + W) (x' + m) with h | h
        · have := hall' (s + W - x') (by omega)
          rw [show x' + (s + W - x') = s + W by omega, hp, hf] at this
          cases this
        · exact h
      have h2 := scan_run (f := f) (s := s) (most := most) (m := m) (i := x' + m - s) (by omega) (fun j hj => by
        rw [show s + (x' + m - s) - 1 - j = x' + (m - 1 - j) by omega]
        exact hall' _ (by omega))
      have h3 := scan_ge (f := f) (s := s) (most := most) (i := x' + m - s) (by omega)
      have h4 := scan_mono' f s most (x' + m - s) W (by omega)
      omega
    omega
/-- One that never ends. -/
theorem run_full {f : Nat → Bool} {W : Nat} (hW : 0 < W) (h : ∀ i, f i = true) : mxTo (fun x => crun f x 65) W = 65 := by
  apply Nat.le_antisymm
  · exact mxTo_le fun x hx => crun_le f 65 x
  · have h1 := le_mxTo (g := fun x => crun f x 65) hW
    have h2 : 65 ≤ crun f 0 65 := crun_ge (Nat.le_refl _) fun j hj => h _
    omega
/-- Does the row's place i hold so? -/
def rf (of : Bool) (W : Nat) (bs : List Bool) (y i : Nat) : Bool := decide (bs.getD (y * W + i % W) false = of)
def rowG (of : Bool) (W : Nat) (bs : List Bool) (y : Nat) : Nat := mxTo (fun x => crun (rf of W bs y) x 65) W
/-- The longest run along the rows. -/
def longV (of : Bool) (W H : Nat) (bs : List Bool) : Nat := mxTo (rowG of W bs) H
theorem rowG_le (of : Bool) (W : Nat) (bs : List Bool) (y : Nat) : rowG of W bs y ≤ 65 := mxTo_le fun x hx => crun_le _ 65 x
theorem longV_le (of : Bool) (W H : Nat) (bs : List Bool) : longV of W H bs ≤ 65 := mxTo_le fun y hy => rowG_le of W bs y
theorem rf_per (of : Bool) (W : Nat) (bs : List Bool) (y i : Nat) : rf of W bs y (i + W) = rf of W bs y i := by unfold rf; rw [Nat.add_mod_right]
def foldG (g : Nat → Nat) {H : Nat} (pre : List (Fin H)) : Nat := pre.foldl (fun m y => max m (g y.val)) 0
theorem foldG_snoc (g : Nat → Nat) {H : Nat} (pre : List (Fin H)) (y : Fin H) : foldG g (pre ++ [y]) = max (foldG g pre) (g y.val) := by simp [foldG]
theorem foldG_spec' (g : Nat → Nat) {H : Nat} (l : List (Fin H)) : ∀ m, m ≤ l.foldl (fun m y => max m (g y.val)) m ∧ (∀ y ∈ l, g y.val ≤ l.foldl (fun m y => max m (g y.val)) m) ∧ (∀ B, m ≤ B → (∀ y ∈ l, g y.val ≤ B) → l.foldl (fun m y => max m (g y.val)) m ≤ B) := by
  induction l with
  | nil => intro m; simp
  | cons a l ih =>
    intro m
    obtain ⟨h1, h2, h3⟩ := ih (max m (g a.val))
    simp only [List.foldl_cons, List.mem_cons]
    refine ⟨by omega, ?_, fun B hB h => h3 B ?_ fun y hy => h y (.inr hy)⟩
    · rintro y (rfl | hy)
      · omega
      · exact h2 y hy
    · have := h a (.inl rfl); omega
theorem foldG_all (g : Nat → Nat) (H : Nat) : foldG g (List.finRange H) = mxTo g H := by
  obtain ⟨_, h2, h3⟩ := foldG_spec' g (List.finRange H) 0
  apply Nat.le_antisymm
  · exact h3 _ (by omega) fun y _ => le_mxTo y.isLt
  · exact mxTo_le fun i hi => h2 ⟨i, hi⟩ (List.mem_finRange _)
theorem foldG_le (g : Nat → Nat) {H B : Nat} (h : ∀ y, g y ≤ B) (pre : List (Fin H)) : foldG g pre ≤ B := (foldG_spec' g pre 0).2.2 B (by omega) fun y _ => h _
end Go.Proofs.Ytdaacjaibfcacaa.Lo

namespace Go.Proofs.Ytdaacjaibfcacaa
open Lo
set_option linter.unusedVariables false
set_option linter.unusedSimpArgs false
/-- The first k values of f. -/
def bT (f : Nat → Bool) (k : Nat) : List Bool := (List.range k).map f
theorem bT_succ (f : Nat → Bool) (k : Nat) : bT f (k+1) = bT f k ++ [f k] := by simp [bT, List.range_succ]
theorem bT_len (f : Nat → Bool) (k : Nat) : (bT f k).length = k := by simp [bT]
theorem bT_get (f : Nat → Bool) {k p : Nat} (hp : p < k) : (bT f k).getD p false = f p := getD_map_range f hp
def otF (W H : Nat) (bs : List Bool) (p : Nat) : Bool := !bs.getD ((p % H) * W + p / H) false
def mvF (W s : Nat) (bs : List Bool) (p : Nat) : Bool := bs.getD ((p / W) * W + (p % W + s) % W) false
theorem dm1 {H x y : Nat} (hy : y < H) : (x * H + y) % H = y := by rw [Nat.mul_comm, Nat.mul_add_mod, Nat.mod_eq_of_lt hy]
theorem dm2 {H x y : Nat} (hy : y < H) : (x * H + y) / H = x := by rw [Nat.mul_comm, Nat.mul_add_div (by omega), Nat.div_eq_of_lt hy]; omega
theorem otF_at {W H x y : Nat} {bs : List Bool} (hy : y < H) : otF W H bs (x * H + y) = !bs.getD (y * W + x) false := by unfold otF; rw [dm1 hy, dm2 hy]
theorem mvF_at {W s x y : Nat} {bs : List Bool} (hx : x < W) : mvF W s bs (y * W + x) = bs.getD (y * W + (x + s) % W) false := by unfold mvF; rw [dm1 hx, dm2 hx]
theorem place_lt' {W H x y : Nat} (hx : x < W) (hy : y < H) : y * W + x < W * H := by
  have : (y + 1) * W ≤ H * W := Nat.mul_le_mul_right W hy
  rw [Nat.add_mul, Nat.one_mul, Nat.mul_comm H W] at this; omega
theorem crun_congr {f g : Nat → Bool} (h : ∀ i, f i = g i) (k : Nat) : ∀ x, crun f x k = crun g x k := by
  induction k with
  | zero => intro x; rfl
  | succ k ih => intro x; unfold crun; rw [h x, ih]
theorem crun_shift (f : Nat → Bool) (s k : Nat) : ∀ x, crun (fun i => f (i + s)) x k = crun f (x + s) k := by
  induction k with
  | zero => intro x; rfl
  | succ k ih => intro x; unfold crun; rw [ih, show x + 1 + s = x + s + 1 by omega]
theorem mx_shift {g : Nat → Nat} {W s : Nat} (hW : 0 < W) (hg : ∀ x, g (x + W) = g x) : mxTo (fun x => g (x + s)) W = mxTo g W := by
  have hper : ∀ i k, g (i + k * W) = g i := by
    intro i k
    induction k with
    | zero => simp
    | succ k ih => rw [Nat.add_mul, Nat.one_mul, ← Nat.add_assoc, hg, ih]
  have hmod : ∀ i, g (i % W) = g i := by
    intro i
    have := hper (i % W) (i / W)
    rw [Nat.mul_comm, Nat.mod_add_div] at this
    exact this.symm
  apply Nat.le_antisymm
  · refine mxTo_le fun x hx => ?_
    rw [← hmod (x + s)]
    exact le_mxTo (Nat.mod_lt _ hW)
  · refine mxTo_le fun x hx => ?_
    have e : g x = g ((x + (W - s % W)) % W + s) := by
      rw [← hmod ((x + (W - s % W)) % W + s), Nat.mod_add_mod]
      have h1 : s % W < W := Nat.mod_lt _ hW
      have h2 : s = s % W + W * (s / W) := (Nat.mod_add_div s W).symm
      have h3 : x + (W - s % W) + s = x + (1 + s / W) * W := by
        rw [Nat.add_mul, Nat.one_mul, Nat.mul_comm (s / W) W]; omega
      rw [h3, hmod, hper]
    rw [e]
    exact le_mxTo (g := fun x => g (x + s)) (Nat.mod_lt _ hW)
theorem rowG_congr {of of' : Bool} {W y y' : Nat} {bs bs' : List Bool} (h : ∀ i, rf of W bs y i = rf of' W bs' y' i) : rowG of W bs y = rowG of' W bs' y' := by
  unfold rowG
  exact mxTo_congr fun x hx => crun_congr h 65 x
theorem fl_1 {W H : Nat} {bs : List Bool} (hW : 0 < W) : longV true W H (turnL H W (bT (otF W H bs) (W * H))) = longV false W H bs := by
  unfold longV
  refine mxTo_congr fun y hy => rowG_congr fun i => ?_
  unfold rf
  have hi : i % W < W := Nat.mod_lt _ hW
  rw [turnL_get hy hi, bT_get _ (by rw [Nat.mul_comm W H]; exact place_lt' hy hi), otF_at hy]
  cases bs.getD (y * W + i % W) false <;> rfl
theorem fl_2 {W H : Nat} {bs : List Bool} (hH : 0 < H) : longV false H W (bT (otF W H bs) (W * H)) = longV true H W (turnL W H bs) := by
  unfold longV
  refine mxTo_congr fun y hy => rowG_congr fun i => ?_
  unfold rf
  have hi : i % H < H := Nat.mod_lt _ hH
  rw [turnL_get hy hi, bT_get _ (by rw [Nat.mul_comm W H]; exact place_lt' hi hy), otF_at hi]
  cases bs.getD (i % H * W + y) false <;> rfl
theorem fl_3 {W H s : Nat} {bs : List Bool} (hW : 0 < W) (hH : 0 < H) : longV true H W (turnL W H (bT (mvF W s bs) (W * H))) = longV true H W (turnL W H bs) := by
  have key : ∀ y, y < W → rowG true H (turnL W H (bT (mvF W s bs) (W * H))) y = rowG true H (turnL W H bs) ((y + s) % W) := by
    intro y hy
    refine rowG_congr fun i => ?_
    unfold rf
    have hi : i % H < H := Nat.mod_lt _ hH
    rw [turnL_get hy hi, bT_get _ (place_lt' hy hi), mvF_at hy, turnL_get (Nat.mod_lt _ hW) hi]
  unfold longV
  rw [mxTo_congr (g' := fun y => (fun z => rowG true H (turnL W H bs) (z % W)) (y + s)) key]
  rw [mx_shift (g := fun z => rowG true H (turnL W H bs) (z % W)) hW (fun x => by simp)]
  exact mxTo_congr fun y hy => by simp only [Nat.mod_eq_of_lt hy]
theorem fl_4 {W H s : Nat} {bs : List Bool} (hW : 0 < W) : longV false W H (bT (mvF W s bs) (W * H)) = longV false W H bs := by
  unfold longV
  refine mxTo_congr fun y hy => ?_
  have e : ∀ i, rf false W (bT (mvF W s bs) (W * H)) y i = (fun j => rf false W bs y (j + s)) i := by
    intro i
    unfold rf
    have hi : i % W < W := Nat.mod_lt _ hW
    rw [bT_get _ (place_lt' hi hy), mvF_at hi, Nat.mod_add_mod]
  unfold rowG
  rw [mxTo_congr (g' := fun x => crun (rf false W bs y) (x + s) 65) (fun x hx => by rw [crun_congr e, crun_shift])]
  refine mx_shift (g := fun x => crun (rf false W bs y) x 65) hW fun x => ?_
  rw [← crun_shift]
  exact crun_congr (fun i => rf_per false W bs y i) 65 x
/-- No run in a row is longer than the longest one. -/
theorem fl_5 {W H y x : Nat} {bs : List Bool} (hy : y < H) (hx : x ≤ W) (hW : W ≤ 64) (hW0 : 0 < W) : (scanTo (rf false W bs y) 0 0 x).1 ≤ longV false W H bs := by
  obtain ⟨h1, _, h3⟩ := scan_len (rf false W bs y) 0 0 x
  generalize (scanTo (rf false W bs y) 0 0 x).1 = m at *
  by_cases hm : m = 0
  · omega
  have h4 : m ≤ crun (rf false W bs y) (x - m) 65 := crun_ge (by omega) fun j hj => by
    have := h3 (m - 1 - j) (by omega)
    rwa [show 0 + x - 1 - (m - 1 - j) = x - m + j by omega] at this
  have h5 := le_mxTo (g := fun x => crun (rf false W bs y) x 65) (k := W) (i := x - m) (by omega)
  have h6 := le_mxTo (g := rowG false W bs) hy
  unfold longV
  unfold rowG at h6 ⊢
  exact Nat.le_trans h4 (Nat.le_trans h5 h6)
end Go.Proofs.Ytdaacjaibfcacaa

namespace Go.Proofs.Ytdaacjaibfcacaa
open Go.RowKit
set_option linter.unusedVariables false
set_option linter.unusedSimpArgs false
set_option maxRecDepth 100000 in
set_option maxHeartbeats 8000000 in
theorem rBit_ok (W H n : Nat) (a : Option Addr) (c : Nat) (bs : List Bool) (w : World) (hI : IsBools w a n bs) (y x p : Nat) (hp : y * W + x = p) (hlt : p < n) (hn : n ≤ 4096) (hx : x ≤ 4096) (hy : y ≤ 4096) (hW : W ≤ 4096) :
    Calls Try.prog 106 #[.agg #[.int .i64 (W), .int .i64 (H), .slice a n c], .int .i64 (y), .int .i64 (x)] w fun e w' => e = .returned (.bool (bs.getD p false)) ∧ Below w.heap.size w w' := by
  obtain ⟨b, o, rfl, hb, hc⟩ := hI.2 (by omega)
  have cb := hc p hlt
  obtain ⟨M, hM⟩ : ∃ M, y * W = M := ⟨_, rfl⟩
  have hmul : (y : Int) * (W : Int) = (M : Int) := by rw [← Int.natCast_mul, hM]
  have hadd : (M : Int) + (x : Int) = (p : Int) := by omega
  have v1 : IntKind.i64.wrap (M : Int) = (M : Int) := IntWalk.i64_in _ (by omega)
  have v2 : IntKind.i64.wrap (p : Int) = (p : Int) := IntWalk.i64_in _ (by omega)
  have g0 : (0 : Int) ≤ (p : Int) := by omega
  have g1 : (p : Int) < (n : Int) := by omega
  generalize bs.getD p false = bit at *
  have lb : LtW b w := hb
  clear hc hI hp hM hb
  go_enter Try.func106, Try.ntmps106
  go_wp2
  go_ret
  exact ⟨rfl, (by repeat (first | exact Below.refl _ _ | refine Below.drew ?_ | refine below_drewN ?_ _ | refine Below.alloc ?_ (by first | exact Nat.le_refl _ | (simp; done) | (simp; omega) | omega) _ | refine Below.setCell ?_ (by first | exact Nat.le_refl _ | (simp; done) | (simp; omega) | omega) _ | refine bExtW ?_ (by first | exact Nat.le_refl _ | (simp; done) | (simp; omega) | omega) | refine Below.trans ?_ (Below.mono (by assumption) (by first | exact Nat.le_refl _ | (simp; done) | (simp; omega) | omega))))⟩
end Go.Proofs.Ytdaacjaibfcacaa

namespace Go.Proofs.Ytdaacjaibfcacaa
open Go.RowKit
set_option linter.unusedVariables false
set_option linter.unusedSimpArgs false
open Lo
theorem BelowX.set {base mb : Nat} {W w : World} (h : BelowX base mb W w) (i : Nat) (v : Value) : BelowX base mb W (w.setCell ⟨mb, i, none⟩ v) :=
  ⟨h.os, h.tape, h.output, by rw [World.size_setCell]; exact h.size, fun k hk hm => by rw [Below.heap_setCell _ _ _ k (fun e => hm (by rw [e]))]; exact h.block k hk hm⟩
theorem BelowX.okT {base mb : Nat} {W w : World} {a : Option Addr} {n c : Nat} {bs : List Bool} (h : BelowX base mb W w) (hT : OkT W a n c bs) (hbs : base = W.heap.size) (hm : ∀ b o, a = some ⟨b, o, none⟩ → b ≠ mb) : OkT w a n c bs := by
  refine ⟨⟨hT.bits.1, fun hn => ?_⟩, hT.cap, hT.lim⟩
  obtain ⟨b, o, h1, h2, h3⟩ := hT.bits.2 hn
  exact ⟨b, o, h1, Nat.lt_of_lt_of_le h2 (hbs ▸ h.size), fun j hj => (World.cell?_of_block (h.block b (by omega) (hm b o h1))).trans (h3 j hj)⟩
theorem FB.start {base mb : Nat} {W H : Int} {w : World} (hr : w.rowIs mb 24 3 (tF W H (.slice none 0 0))) (hb : base = w.heap.size) : FB base mb W H [] w (.slice none 0 0) w :=
  ⟨hr, World.ownsRow_nil _ _ _ _, BelowX.refl (by omega)⟩
theorem wfN (W : Nat) (h : W ≤ 64) : (-9223372036854775808 ≤ (W : Int) ∧ (W : Int) ≤ 9223372036854775807) := by omega
def trF (W H : Nat) (bs : List Bool) (p : Nat) : Bool := bs.getD ((p % H) * W + p / H) false
theorem trF_at {W H x y : Nat} {bs : List Bool} (hy : y < H) : trF W H bs (x * H + y) = bs.getD (y * W + x) false := by unfold trF; rw [dm1 hy, dm2 hy]
end Go.Proofs.Ytdaacjaibfcacaa

namespace Go.Proofs.Ytdaacjaibfcacaa
open Go.RowKit
set_option linter.unusedVariables false
set_option linter.unusedSimpArgs false
open Ef
theorem map_set {p : List Int} {i : Nat} {k : Int} : (p.set i k).map i64v = (p.map i64v).set i (i64v k) := by rw [List.map_set]
theorem g_at {p : List Int} {i : Nat} (hi : i < p.length) : (p.map i64v)[i]? = some (.int .i64 (g p i)) := by
  rw [List.getElem?_map, List.getElem?_eq_getElem hi]
  simp [g, List.getD, hi, i64v]
/-- The untied strands, read off the world. -/
def wcnt (w : World) (tb N : Nat) : Nat := (List.range N).countP fun i => decide (cellInt w tb i < 0)
theorem wcnt_eq {w : World} {base tb N cap : Nat} {p : List Int} (hp : p.length = N) (h : w.ownsRow base 3 1 (.slice (some ⟨tb, 0, none⟩) N cap) N (p.map i64v)) : wcnt w tb N = cnt p N := by
  unfold wcnt cnt
  refine List.countP_congr fun i hi => ?_
  rw [List.mem_range] at hi
  rw [cellInt_of (by rw [(own_cell h hi).1, g_at (by omega)])]
def lenOf : Value → Nat
  | .slice _ n _ => n
  | _ => 0
def natS (T : List Nat) : List Value := T.map fun x : Nat => i64v (x : Int)
theorem BelowX.trans {base mb : Nat} {W w w' : World} (h : BelowX base mb W w) (k : BelowX base mb w w') : BelowX base mb W w' :=
  ⟨k.os.trans h.os, k.tape.trans h.tape, k.output.trans h.output, k.size, fun b h1 h2 => (k.block b h1 h2).trans (h.block b h1 h2)⟩
theorem BelowX.of_below {base mb : Nat} {W w : World} (hb : base ≤ W.heap.size) (h : Below base W w) : BelowX base mb W w :=
  ⟨h.os, h.tape, h.output, Nat.le_trans hb h.size, fun b h1 _ => h.block b h1⟩
theorem BelowX.to_other {base base' mb mb' : Nat} {W w : World} (h : BelowX base' mb' W w) (hb : base ≤ base') (hm : base ≤ mb') : BelowX base mb W w :=
  ⟨h.os, h.tape, h.output, Nat.le_trans hb h.size, fun b h1 _ => h.block b (by omega) (by omega)⟩
theorem BelowX.growE {base mb : Nat} {W w : World} (h : BelowX base mb W w) (E : Array Obj) (d : Nat) : BelowX base mb W (extW w E d) :=
  h.trans (BelowX.of_below h.size (bExtW (Below.refl base w) h.size))
theorem BelowX.ints {base mb : Nat} {W w : World} {a : Option Addr} {n : Nat} {zs : List Int} (h : BelowX base mb W w) (hi : IsInts W a n zs) (hW : ∀ b o, a = some ⟨b, o, none⟩ → b < base ∧ b ≠ mb) : IsInts w a n zs := by
  refine ⟨hi.1, fun hn => ?_⟩
  obtain ⟨b, o, h1, h2, h3⟩ := hi.2 hn
  obtain ⟨h4, h5⟩ := hW b o h1
  exact ⟨b, o, h1, Nat.lt_of_lt_of_le h4 h.size, fun j hj => (World.cell?_of_block (h.block b h4 h5)).trans (h3 j hj)⟩
theorem ints_of_own {w : World} {base n c gb : Nat} {l : List Int} (h : w.ownsRow base 3 1 (.slice (some ⟨gb, 0, none⟩) n c) n (l.map i64v)) : IsInts w (some ⟨gb, 0, none⟩) n l := by
  have hl : l.length = n := by have := (own_parts h).1; simpa using this
  refine ⟨hl, fun _ => ⟨gb, 0, rfl, own_lt h, fun j hj => ?_⟩⟩
  rw [Nat.zero_add, (own_cell h hj).1, List.getElem?_map, List.getElem?_eq_getElem (by omega)]
  simp [List.getD, hl, hj, i64v]
theorem slice_pop (tg m cp : Nat) (h : m ≤ cp) (w : World) : (Instr.slice 34 (.slice (some ⟨tg, 0, none⟩) (m + 1) cp) none (some (.int .i64 (m))) none).run Try.prog w = .ok (.slice (some ⟨tg, 0, none⟩) m cp) w := by
  have h1 := run_slice_h (P := Try.prog) w 34 (some ⟨tg, 0, none⟩) (m + 1) cp (by kernel_rfl) .i64 (m : Int) (by omega) (by omega)
  rw [h1]
  have hsz : (sizeOf (Try.prog.elem 34)).run Try.prog w = .ok 1 w := by go_simp
  rw [hsz]
  have e2 : ((m : Int)).toNat = m := by omega
  rw [e2]
  simp [Result.andThen, sliced, Addr.add_lit]
end Go.Proofs.Ytdaacjaibfcacaa
