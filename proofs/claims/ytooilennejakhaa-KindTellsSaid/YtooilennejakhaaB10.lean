/- Lemmas and contracts of functions (what each call returns, and that it changes nothing that was there) that the proof of a law of this seat uses; each lemma states its own conditions. -/
import Derived.Test.YtooilennejakhaaRows
import Derived.Test.YtooilennejakhaaB07
import Derived.Test.YtooilennejakhaaB05
import Derived.IntWalk
import Derived.Test.YtooilennejakhaaB09
import Derived.Test.YtooilennejakhaaB08
import Derived.Test.YtooilennejakhaaB06
namespace Go.Proofs.Ytooilennejakhaa.Lo
set_option linter.unusedVariables false
set_option linter.unusedSimpArgs false
/-- How far it goes on from x, at most so far. -/
def crun (f : Nat → Bool) : Nat → Nat → Nat
  | _, 0 => 0
  | x, k + 1 => if f x then crun f (x+1) k + 1 else 0
/-- The greatest of the first k. -/
def mxTo (g : Nat → Nat) : Nat → Nat
  | 0 => 0
  | k + 1 => max (mxTo g k) (g k)
/-- The scan from s on: the run that ends here, and the longest one. -/
def scanTo (f : Nat → Bool) (s most : Nat) : Nat → Nat × Nat
  | 0 => (0, most)
  | i + 1 => if f (s + i) then ((scanTo f s most i).1 + 1, max (scanTo f s most i).2 ((scanTo f s most i).1 + 1)) else (0, (scanTo f s most i).2)
theorem crun_le (f : Nat → Bool) (k : Nat) : ∀ x, crun f x k ≤ k := by
  induction k with
  | zero => intro x; simp [crun]
  | succ k ih => intro x; unfold crun; split; · have := ih (x+1); omega
                 · omega
theorem crun_ge {f : Nat → Bool} {m : Nat} : ∀ {k x : Nat}, m ≤ k → (∀ j, j < m → f (x + j) = true) → m ≤ crun f x k := by
  induction m with
  | zero => intros; omega
  | succ m ih =>
    intro k x hk h
    cases k with
    | zero => omega
    | succ k =>
      have h0 := h 0 (by omega)
      simp only [Nat.add_zero] at h0
      unfold crun
      rw [h0]
      have := ih (k := k) (x := x + 1) (by omega) (fun j hj => by have := h (j+1) (by omega); rwa [show x + (j + 1) = x + 1 + j by omega] at this)
      simp; omega
theorem crun_all {f : Nat → Bool} {k : Nat} : ∀ {x j : Nat}, j < crun f x k → f (x + j) = true := by
  induction k with
  | zero => intro x j h; simp [crun] at h
  | succ k ih =>
    intro x j h
    unfold crun at h
    split at h
    · rename_i h0
      cases j with
      | zero => exact h0
      | succ j =>
        have := ih (x := x + 1) (j := j) (by omega)
        rwa [show x + 1 + j = x + (j + 1) by omega] at this
    · omega
theorem le_mxTo {g : Nat → Nat} {k i : Nat} (h : i < k) : g i ≤ mxTo g k := by
  induction k with
  | zero => omega
  | succ k ih =>
    unfold mxTo
    by_cases e : i = k
    · subst e; omega
    · have := ih (by omega); omega
theorem mxTo_le {g : Nat → Nat} {k m : Nat} (h : ∀ i, i < k → g i ≤ m) : mxTo g k ≤ m := by
  induction k with
  | zero => simp [mxTo]
  | succ k ih =>
    unfold mxTo
    have := ih (fun i hi => h i (by omega))
    have := h k (by omega)
    omega
theorem mxTo_congr {g g' : Nat → Nat} {k : Nat} (h : ∀ i, i < k → g i = g' i) : mxTo g k = mxTo g' k := by
  apply Nat.le_antisymm
  · exact mxTo_le fun i hi => by rw [h i hi]; exact le_mxTo hi
  · exact mxTo_le fun i hi => by rw [← h i hi]; exact le_mxTo hi
theorem scan_len (f : Nat → Bool) (s most i : Nat) : (scanTo f s most i).1 ≤ i ∧ most ≤ (scanTo f s most i).2 ∧ (∀ j, j < (scanTo f s most i).1 → f (s + i - 1 - j) = true) := by
  induction i with
  | zero => simp [scanTo]
  | succ i ih =>
    obtain ⟨h1, h2, h3⟩ := ih
    unfold scanTo
    split
    · rename_i h
      refine ⟨by simp only; omega, by simp only; omega, fun j hj => ?_⟩
      simp only at hj
      cases j with
      | zero => rw [show s + (i+1) - 1 - 0 = s + i by omega]; exact h
      | succ j =>
        have := h3 j (by omega)
        rwa [show s + (i + 1) - 1 - (j + 1) = s + i - 1 - j by omega]
    · exact ⟨by simp only; omega, h2, fun j hj => by simp at hj⟩
theorem scan_mono (f : Nat → Bool) (s most i : Nat) : (scanTo f s most i).2 ≤ (scanTo f s most (i+1)).2 := by
  show _ ≤ (scanTo f s most (i+1)).2
  rw [scanTo]
  split <;> simp only <;> omega
theorem scan_mono' (f : Nat → Bool) (s most i j : Nat) (h : i ≤ j) : (scanTo f s most i).2 ≤ (scanTo f s most j).2 := by
  induction j with
  | zero => obtain rfl : i = 0 := by omega
            exact Nat.le_refl _
  | succ j ih =>
    by_cases e : i = j + 1
    · subst e; exact Nat.le_refl _
    · exact Nat.le_trans (ih (by omega)) (scan_mono f s most j)
theorem scan_run {f : Nat → Bool} {s most m : Nat} : ∀ {i : Nat}, m ≤ i → (∀ j, j < m → f (s + i - 1 - j) = true) → m ≤ (scanTo f s most i).1 := by
  induction m with
  | zero => intros; omega
  | succ m ih =>
    intro i hi h
    cases i with
    | zero => omega
    | succ i =>
      have h0 := h 0 (by omega)
      rw [show s + (i+1) - 1 - 0 = s + i by omega] at h0
      rw [scanTo, if_pos h0]
      have := ih (i := i) (by omega) (fun j hj => by have := h (j+1) (by omega); rwa [show s + (i + 1) - 1 - (j + 1) = s + i - 1 - j by omega] at this)
      simp only; omega
theorem scan_ge {f : Nat → Bool} {s most i : Nat} (h : 0 < (scanTo f s most i).1) : (scanTo f s most i).1 ≤ (scanTo f s most i).2 := by
  cases i with
  | zero => simp [scanTo] at h
  | succ i =>
    rw [scanTo] at h ⊢
    split
    · simp only; omega
    · rename_i h0; rw [if_neg h0] at h; simp at h
theorem scan_le {f : Nat → Bool} {s most B : Nat} (hm : most ≤ B) : ∀ (i : Nat), (∀ j, j ≤ i → (scanTo f s most j).1 ≤ B) → (scanTo f s most i).2 ≤ B := by
  intro i
  induction i with
  | zero => intro _; simpa [scanTo] using hm
  | succ i ih =>
    intro h
    have h1 := ih (fun j hj => h j (by omega))
    have h2 := h (i+1) (by omega)
    rw [scanTo] at h2 ⊢
    split
    · rename_i h0; rw [if_pos h0] at h2; simp only at h2 ⊢; omega
    · exact h1
/-- The scan of one round finds the longest of all runs, going round. -/
theorem scan_max {f : Nat → Bool} {W s most : Nat} (hp : ∀ i, f (i + W) = f i) (hs : s < W) (hf : f s = false) (hW : W ≤ 64) : (scanTo f s most W).2 = max most (mxTo (fun x => crun f x 65) W) := by
  have hper : ∀ i k, f (i + k * W) = f i := by
    intro i k
    induction k with
    | zero => simp
    | succ k ih => rw [Nat.add_mul, Nat.one_mul, ← Nat.add_assoc, hp, ih]
  have hmod : ∀ i, f (i % W) = f i := by
    intro i
    have := hper (i % W) (i / W)
    rw [Nat.mul_comm, Nat.mod_add_div] at this
    exact this.symm
  apply Nat.le_antisymm
  · refine scan_le (by omega) W fun i hi => ?_
    obtain ⟨h1, _, h3⟩ := scan_len f s most i
    generalize (scanTo f s most i).1 = m at *
    by_cases hm : m = 0
    · omega
    have h4 : m ≤ crun f ((s + i - m) % W) 65 := crun_ge (by omega) fun j hj => by
      have e : f ((s + i - m) % W + j) = f (s + i - m + j) := by
        rw [← hmod ((s + i - m) % W + j), Nat.mod_add_mod, hmod]
      rw [e, show s + i - m + j = s + i - 1 - (m - 1 - j) by omega]
      exact h3 _ (by omega)
    have h5 := le_mxTo (g := fun x => crun f x 65) (k := W) (i := (s + i - m) % W) (Nat.mod_lt _ (by omega))
    omega
  · have h0 := (scan_len f s most W).2.1
    have h1 : mxTo (fun x => crun f x 65) W ≤ (scanTo f s most W).2 := by
      refine mxTo_le fun x hx => ?_
      generalize hm : crun f x 65 = m
      by_cases hm0 : m = 0
      · omega
      have hall : ∀ j, j < m → f (x + j) = true := fun j hj => crun_all (by rw [hm]; exact hj)
      -- where the run lies behind s
      obtain ⟨x', hx1, hx2, hx3⟩ : ∃ x', s < x' ∧ x' < s + W ∧ (x' = x ∨ x' = x + W) := by
        by_cases h : s < x
        · exact ⟨x, h, by omega, .inl rfl⟩
        · by_cases h2 : x = s
          · have := hall 0 (by omega); rw [Nat.add_zero, h2, hf] at this; cases this
          · exact ⟨x + W, by omega, by omega, .inr rfl⟩
      have hall' : ∀ j, j < m → f (x' + j) = true := by
        intro j hj
        rcases hx3 with rfl | rfl
        · exact hall j hj
        · rw [show x + W + j = x + j + W by omega, hp]; exact hall j hj
      have hend : x' + m ≤ s + W := by
        rcases Nat.lt_or_ge (s + W) (x' + m) with h | h
        · have := hall' (s + W - x') (by omega)
          rw [show x' + (s + W - x') = s + W by omega, hp, hf] at this
          cases this
        · exact h
      have h2 := scan_run (f := f) (s := s) (most := most) (m := m) (i := x' + m - s) (by omega) (fun j hj => by
        rw [show s + (x' + m - s) - 1 - j = x' + (m - 1 - j) by omega]
        exact hall' _ (by omega))
      have h3 := scan_ge (f := f) (s := s) (most := most) (i := x' + m - s) (by omega)
      have h4 := scan_mono' f s most (x' + m - s) W (by omega)
      omega
    omega
/-- One that never ends. -/
theorem run_full {f : Nat → Bool} {W : Nat} (hW : 0 < W) (h : ∀ i, f i = true) : mxTo (fun x => crun f x 65) W = 65 := by
  apply Nat.le_antisymm
  · exact mxTo_le fun x hx => crun_le f 65 x
  · have h1 := le_mxTo (g := fun x => crun f x 65) hW
    have h2 : 65 ≤ crun f 0 65 := crun_ge (Nat.le_refl _) fun j hj => h _
    omega
/-- Does the row's place i hold so? -/
def rf (of : Bool) (W : Nat) (bs : List Bool) (y i : Nat) : Bool := decide (bs.getD (y * W + i % W) false = of)
def rowG (of : Bool) (W : Nat) (bs : List Bool) (y : Nat) : Nat := mxTo (fun x => crun (rf of W bs y) x 65) W
/-- The longest run along the rows. -/
def longV (of : Bool) (W H : Nat) (bs : List Bool) : Nat := mxTo (rowG of W bs) H
theorem rowG_le (of : Bool) (W : Nat) (bs : List Bool) (y : Nat) : rowG of W bs y ≤ 65 := mxTo_le fun x hx => crun_le _ 65 x
theorem longV_le (of : Bool) (W H : Nat) (bs : List Bool) : longV of W H bs ≤ 65 := mxTo_le fun y hy => rowG_le of W bs y
theorem rf_per (of : Bool) (W : Nat) (bs : List Bool) (y i : Nat) : rf of W bs y (i + W) = rf of W bs y i := by unfold rf; rw [Nat.add_mod_right]
def foldG (g : Nat → Nat) {H : Nat} (pre : List (Fin H)) : Nat := pre.foldl (fun m y => max m (g y.val)) 0
theorem foldG_snoc (g : Nat → Nat) {H : Nat} (pre : List (Fin H)) (y : Fin H) : foldG g (pre ++ [y]) = max (foldG g pre) (g y.val) := by simp [foldG]
theorem foldG_spec' (g : Nat → Nat) {H : Nat} (l : List (Fin H)) : ∀ m, m ≤ l.foldl (fun m y => max m (g y.val)) m ∧ (∀ y ∈ l, g y.val ≤ l.foldl (fun m y => max m (g y.val)) m) ∧ (∀ B, m ≤ B → (∀ y ∈ l, g y.val ≤ B) → l.foldl (fun m y => max m (g y.val)) m ≤ B) := by
  induction l with
  | nil => intro m; simp
  | cons a l ih =>
    intro m
    obtain ⟨h1, h2, h3⟩ := ih (max m (g a.val))
    simp only [List.foldl_cons, List.mem_cons]
    refine ⟨by omega, ?_, fun B hB h => h3 B ?_ fun y hy => h y (.inr hy)⟩
    · rintro y (rfl | hy)
      · omega
      · exact h2 y hy
    · have := h a (.inl rfl); omega
theorem foldG_all (g : Nat → Nat) (H : Nat) : foldG g (List.finRange H) = mxTo g H := by
  obtain ⟨_, h2, h3⟩ := foldG_spec' g (List.finRange H) 0
  apply Nat.le_antisymm
  · exact h3 _ (by omega) fun y _ => le_mxTo y.isLt
  · exact mxTo_le fun i hi => h2 ⟨i, hi⟩ (List.mem_finRange _)
theorem foldG_le (g : Nat → Nat) {H B : Nat} (h : ∀ y, g y ≤ B) (pre : List (Fin H)) : foldG g pre ≤ B := (foldG_spec' g pre 0).2.2 B (by omega) fun y _ => h _
end Go.Proofs.Ytooilennejakhaa.Lo

namespace Go.Proofs.Ytooilennejakhaa
open Lo
set_option linter.unusedVariables false
set_option linter.unusedSimpArgs false
/-- The first k values of f. -/
def bT (f : Nat → Bool) (k : Nat) : List Bool := (List.range k).map f
theorem bT_succ (f : Nat → Bool) (k : Nat) : bT f (k+1) = bT f k ++ [f k] := by simp [bT, List.range_succ]
theorem bT_len (f : Nat → Bool) (k : Nat) : (bT f k).length = k := by simp [bT]
theorem bT_get (f : Nat → Bool) {k p : Nat} (hp : p < k) : (bT f k).getD p false = f p := getD_map_range f hp
def otF (W H : Nat) (bs : List Bool) (p : Nat) : Bool := !bs.getD ((p % H) * W + p / H) false
def mvF (W s : Nat) (bs : List Bool) (p : Nat) : Bool := bs.getD ((p / W) * W + (p % W + s) % W) false
theorem dm1 {H x y : Nat} (hy : y < H) : (x * H + y) % H = y := by rw [Nat.mul_comm, Nat.mul_add_mod, Nat.mod_eq_of_lt hy]
theorem dm2 {H x y : Nat} (hy : y < H) : (x * H + y) / H = x := by rw [Nat.mul_comm, Nat.mul_add_div (by omega), Nat.div_eq_of_lt hy]; omega
theorem otF_at {W H x y : Nat} {bs : List Bool} (hy : y < H) : otF W H bs (x * H + y) = !bs.getD (y * W + x) false := by unfold otF; rw [dm1 hy, dm2 hy]
theorem mvF_at {W s x y : Nat} {bs : List Bool} (hx : x < W) : mvF W s bs (y * W + x) = bs.getD (y * W + (x + s) % W) false := by unfold mvF; rw [dm1 hx, dm2 hx]
theorem place_lt' {W H x y : Nat} (hx : x < W) (hy : y < H) : y * W + x < W * H := by
  have : (y + 1) * W ≤ H * W := Nat.mul_le_mul_right W hy
  rw [Nat.add_mul, Nat.one_mul, Nat.mul_comm H W] at this; omega
theorem crun_congr {f g : Nat → Bool} (h : ∀ i, f i = g i) (k : Nat) : ∀ x, crun f x k = crun g x k := by
  induction k with
  | zero => intro x; rfl
  | succ k ih => intro x; unfold crun; rw [h x, ih]
theorem crun_shift (f : Nat → Bool) (s k : Nat) : ∀ x, crun (fun i => f (i + s)) x k = crun f (x + s) k := by
  induction k with
  | zero => intro x; rfl
  | succ k ih => intro x; unfold crun; rw [ih, show x + 1 + s = x + s + 1 by omega]
theorem mx_shift {g : Nat → Nat} {W s : Nat} (hW : 0 < W) (hg : ∀ x, g (x + W) = g x) : mxTo (fun x => g (x + s)) W = mxTo g W := by
  have hper : ∀ i k, g (i + k * W) = g i := by
    intro i k
    induction k with
    | zero => simp
    | succ k ih => rw [Nat.add_mul, Nat.one_mul, ← Nat.add_assoc, hg, ih]
  have hmod : ∀ i, g (i % W) = g i := by
    intro i
    have := hper (i % W) (i / W)
    rw [Nat.mul_comm, Nat.mod_add_div] at this
    exact this.symm
  apply Nat.le_antisymm
  · refine mxTo_le fun x hx => ?_
    rw [← hmod (x + s)]
    exact le_mxTo (Nat.mod_lt _ hW)
  · refine mxTo_le fun x hx => ?_
    have e : g x = g ((x + (W - s % W)) % W + s) := by
      rw [← hmod ((x + (W - s % W)) % W + s), Nat.mod_add_mod]
      have h1 : s % W < W := Nat.mod_lt _ hW
      have h2 : s = s % W + W * (s / W) := (Nat.mod_add_div s W).symm
      have h3 : x + (W - s % W) + s = x + (1 + s / W) * W := by
        rw [Nat.add_mul, Nat.one_mul, Nat.mul_comm (s / W) W]; omega
      rw [h3, hmod, hper]
    rw [e]
    exact le_mxTo (g := fun x => g (x + s)) (Nat.mod_lt _ hW)
theorem rowG_congr {of of' : Bool} {W y y' : Nat} {bs bs' : List Bool} (h : ∀ i, rf of W bs y i = rf of' W bs' y' i) : rowG of W bs y = rowG of' W bs' y' := by
  unfold rowG
  exact mxTo_congr fun x hx => crun_congr h 65 x
theorem fl_1 {W H : Nat} {bs : List Bool} (hW : 0 < W) : longV true W H (turnL H W (bT (otF W H bs) (W * H))) = longV false W H bs := by
  unfold longV
  refine mxTo_congr fun y hy => rowG_congr fun i => ?_
  unfold rf
  have hi : i % W < W := Nat.mod_lt _ hW
  rw [turnL_get hy hi, bT_get _ (by rw [Nat.mul_comm W H]; exact place_lt' hy hi), otF_at hy]
  cases bs.getD (y * W + i % W) false <;> rfl
theorem fl_2 {W H : Nat} {bs : List Bool} (hH : 0 < H) : longV false H W (bT (otF W H bs) (W * H)) = longV true H W (turnL W H bs) := by
  unfold longV
  refine mxTo_congr fun y hy => rowG_congr fun i => ?_
  unfold rf
  have hi : i % H < H := Nat.mod_lt _ hH
  rw [turnL_get hy hi, bT_get _ (by rw [Nat.mul_comm W H]; exact place_lt' hi hy), otF_at hi]
  cases bs.getD (i % H * W + y) false <;> rfl
theorem fl_3 {W H s : Nat} {bs : List Bool} (hW : 0 < W) (hH : 0 < H) : longV true H W (turnL W H (bT (mvF W s bs) (W * H))) = longV true H W (turnL W H bs) := by
  have key : ∀ y, y < W → rowG true H (turnL W H (bT (mvF W s bs) (W * H))) y = rowG true H (turnL W H bs) ((y + s) % W) := by
    intro y hy
    refine rowG_congr fun i => ?_
    unfold rf
    have hi : i % H < H := Nat.mod_lt _ hH
    rw [turnL_get hy hi, bT_get _ (place_lt' hy hi), mvF_at hy, turnL_get (Nat.mod_lt _ hW) hi]
  unfold longV
  rw [mxTo_congr (g' := fun y => (fun z => rowG true H (turnL W H bs) (z % W)) (y + s)) key]
  rw [mx_shift (g := fun z => rowG true H (turnL W H bs) (z % W)) hW (fun x => by simp)]
  exact mxTo_congr fun y hy => by simp only [Nat.mod_eq_of_lt hy]
theorem fl_4 {W H s : Nat} {bs : List Bool} (hW : 0 < W) : longV false W H (bT (mvF W s bs) (W * H)) = longV false W H bs := by
  unfold longV
  refine mxTo_congr fun y hy => ?_
  have e : ∀ i, rf false W (bT (mvF W s bs) (W * H)) y i = (fun j => rf false W bs y (j + s)) i := by
    intro i
    unfold rf
    have hi : i % W < W := Nat.mod_lt _ hW
    rw [bT_get _ (place_lt' hi hy), mvF_at hi, Nat.mod_add_mod]
  unfold rowG
  rw [mxTo_congr (g' := fun x => crun (rf false W bs y) (x + s) 65) (fun x hx => by rw [crun_congr e, crun_shift])]
  refine mx_shift (g := fun x => crun (rf false W bs y) x 65) hW fun x => ?_
  rw [← crun_shift]
  exact crun_congr (fun i => rf_per false W bs y i) 65 x
/-- No run in a row is longer than the longest one. -/
theorem fl_5 {W H y x : Nat} {bs : List Bool} (hy : y < H) (hx : x ≤ W) (hW : W ≤ 64) (hW0 : 0 < W) : (scanTo (rf false W bs y) 0 0 x).1 ≤ longV false W H bs := by
  obtain ⟨h1, _, h3⟩ := scan_len (rf false W bs y) 0 0 x
  generalize (scanTo (rf false W bs y) 0 0 x).1 = m at *
  by_cases hm : m = 0
  · omega
  have h4 : m ≤ crun (rf false W bs y) (x - m) 65 := crun_ge (by omega) fun j hj => by
    have := h3 (m - 1 - j) (by omega)
    rwa [show 0 + x - 1 - (m - 1 - j) = x - m + j by omega] at this
  have h5 := le_mxTo (g := fun x => crun (rf false W bs y) x 65) (k := W) (i := x - m) (by omega)
  have h6 := le_mxTo (g := rowG false W bs) hy
  unfold longV
  unfold rowG at h6 ⊢
  exact Nat.le_trans h4 (Nat.le_trans h5 h6)
end Go.Proofs.Ytooilennejakhaa

namespace Go.Proofs.Ytooilennejakhaa
open Go.RowKit
set_option linter.unusedVariables false
set_option linter.unusedSimpArgs false
end Go.Proofs.Ytooilennejakhaa

namespace Go.Proofs.Ytooilennejakhaa
open Go.RowKit
set_option linter.unusedVariables false
set_option linter.unusedSimpArgs false
open Lo
theorem BelowX.set {base mb : Nat} {W w : World} (h : BelowX base mb W w) (i : Nat) (v : Value) : BelowX base mb W (w.setCell ⟨mb, i, none⟩ v) :=
  ⟨h.os, h.tape, h.output, by rw [World.size_setCell]; exact h.size, fun k hk hm => by rw [Below.heap_setCell _ _ _ k (fun e => hm (by rw [e]))]; exact h.block k hk hm⟩
theorem BelowX.okT {base mb : Nat} {W w : World} {a : Option Addr} {n c : Nat} {bs : List Bool} (h : BelowX base mb W w) (hT : OkT W a n c bs) (hbs : base = W.heap.size) (hm : ∀ b o, a = some ⟨b, o, none⟩ → b ≠ mb) : OkT w a n c bs := by
  refine ⟨⟨hT.bits.1, fun hn => ?_⟩, hT.cap, hT.lim⟩
  obtain ⟨b, o, h1, h2, h3⟩ := hT.bits.2 hn
  exact ⟨b, o, h1, Nat.lt_of_lt_of_le h2 (hbs ▸ h.size), fun j hj => (World.cell?_of_block (h.block b (by omega) (hm b o h1))).trans (h3 j hj)⟩
theorem wfN (W : Nat) (h : W ≤ 64) : (-9223372036854775808 ≤ (W : Int) ∧ (W : Int) ≤ 9223372036854775807) := by omega
def trF (W H : Nat) (bs : List Bool) (p : Nat) : Bool := bs.getD ((p % H) * W + p / H) false
theorem trF_at {W H x y : Nat} {bs : List Bool} (hy : y < H) : trF W H bs (x * H + y) = bs.getD (y * W + x) false := by unfold trF; rw [dm1 hy, dm2 hy]
end Go.Proofs.Ytooilennejakhaa

namespace Go.Proofs.Ytooilennejakhaa
open Go.RowKit
set_option linter.unusedVariables false
set_option linter.unusedSimpArgs false
open Ef
theorem map_set {p : List Int} {i : Nat} {k : Int} : (p.set i k).map i64v = (p.map i64v).set i (i64v k) := by rw [List.map_set]
theorem g_at {p : List Int} {i : Nat} (hi : i < p.length) : (p.map i64v)[i]? = some (.int .i64 (g p i)) := by
  rw [List.getElem?_map, List.getElem?_eq_getElem hi]
  simp [g, List.getD, hi, i64v]
/-- The untied strands, read off the world. -/
def wcnt (w : World) (tb N : Nat) : Nat := (List.range N).countP fun i => decide (cellInt w tb i < 0)
theorem wcnt_eq {w : World} {base tb N cap : Nat} {p : List Int} (hp : p.length = N) (h : w.ownsRow base 3 1 (.slice (some ⟨tb, 0, none⟩) N cap) N (p.map i64v)) : wcnt w tb N = cnt p N := by
  unfold wcnt cnt
  refine List.countP_congr fun i hi => ?_
  rw [List.mem_range] at hi
  rw [cellInt_of (by rw [(own_cell h hi).1, g_at (by omega)])]
def lenOf : Value → Nat
  | .slice _ n _ => n
  | _ => 0
def natS (T : List Nat) : List Value := T.map fun x : Nat => i64v (x : Int)
theorem BelowX.trans {base mb : Nat} {W w w' : World} (h : BelowX base mb W w) (k : BelowX base mb w w') : BelowX base mb W w' :=
  ⟨k.os.trans h.os, k.tape.trans h.tape, k.output.trans h.output, k.size, fun b h1 h2 => (k.block b h1 h2).trans (h.block b h1 h2)⟩
theorem BelowX.of_below {base mb : Nat} {W w : World} (hb : base ≤ W.heap.size) (h : Below base W w) : BelowX base mb W w :=
  ⟨h.os, h.tape, h.output, Nat.le_trans hb h.size, fun b h1 _ => h.block b h1⟩
theorem BelowX.to_other {base base' mb mb' : Nat} {W w : World} (h : BelowX base' mb' W w) (hb : base ≤ base') (hm : base ≤ mb') : BelowX base mb W w :=
  ⟨h.os, h.tape, h.output, Nat.le_trans hb h.size, fun b h1 _ => h.block b (by omega) (by omega)⟩
theorem BelowX.growE {base mb : Nat} {W w : World} (h : BelowX base mb W w) (E : Array Obj) (d : Nat) : BelowX base mb W (extW w E d) :=
  h.trans (BelowX.of_below h.size (bExtW (Below.refl base w) h.size))
theorem BelowX.ints {base mb : Nat} {W w : World} {a : Option Addr} {n : Nat} {zs : List Int} (h : BelowX base mb W w) (hi : IsInts W a n zs) (hW : ∀ b o, a = some ⟨b, o, none⟩ → b < base ∧ b ≠ mb) : IsInts w a n zs := by
  refine ⟨hi.1, fun hn => ?_⟩
  obtain ⟨b, o, h1, h2, h3⟩ := hi.2 hn
  obtain ⟨h4, h5⟩ := hW b o h1
  exact ⟨b, o, h1, Nat.lt_of_lt_of_le h4 h.size, fun j hj => (World.cell?_of_block (h.block b h4 h5)).trans (h3 j hj)⟩
theorem ints_of_own {w : World} {base n c gb : Nat} {l : List Int} (h : w.ownsRow base 3 1 (.slice (some ⟨gb, 0, none⟩) n c) n (l.map i64v)) : IsInts w (some ⟨gb, 0, none⟩) n l := by
  have hl : l.length = n := by have := (own_parts h).1; simpa using this
  refine ⟨hl, fun _ => ⟨gb, 0, rfl, own_lt h, fun j hj => ?_⟩⟩
  rw [Nat.zero_add, (own_cell h hj).1, List.getElem?_map, List.getElem?_eq_getElem (by omega)]
  simp [List.getD, hl, hj, i64v]
theorem slice_pop (tg m cp : Nat) (h : m ≤ cp) (w : World) : (Instr.slice 22 (.slice (some ⟨tg, 0, none⟩) (m + 1) cp) none (some (.int .i64 (m))) none).run Try.prog w = .ok (.slice (some ⟨tg, 0, none⟩) m cp) w := by
  have h1 := run_slice_h (P := Try.prog) w 22 (some ⟨tg, 0, none⟩) (m + 1) cp (by kernel_rfl) .i64 (m : Int) (by omega) (by omega)
  rw [h1]
  have hsz : (sizeOf (Try.prog.elem 22)).run Try.prog w = .ok 1 w := by go_simp
  rw [hsz]
  have e2 : ((m : Int)).toNat = m := by omega
  rw [e2]
  simp [Result.andThen, sliced, Addr.add_lit]
end Go.Proofs.Ytooilennejakhaa

namespace Go.Proofs.Ytooilennejakhaa
open Go.RowKit
set_option linter.unusedVariables false
set_option linter.unusedSimpArgs false
section
variable {P : Program} {l : List Oper} {n : Nat} {Q : Exit → Act → World → Prop}
def wpN (P : Program) (l : List Oper) (n : Nat) (Q : Exit → Act → World → Prop) : Nat → Array Bool → Act → World → Prop
  | 0, listed, a, W => Region.seqB .any l.toArray (l.length - n) n listed = true ∧ ∀ E d, wpList P l.toArray Q (l.drop n) a (extW W E d)
  | f + 1, listed, a, W => Region.ready .any l.toArray listed ≠ [] ∧
      ∀ i ∈ Region.ready .any l.toArray listed, i < n ∧ ∀ E d, wpOp P l.toArray Q i (fun a' w' => ExtOf (extW W E d) w' ∧ wpN P l n Q f (listed.setIfInBounds i true) a' w') a (extW W E d)
theorem wpN_grow : ∀ (f : Nat) (listed : Array Bool) (a : Act) (W : World) (E : Array Obj) (d : Nat), wpN P l n Q f listed a W → wpN P l n Q f listed a (extW W E d)
  | 0, listed, a, W, E, d, h => ⟨h.1, fun F e => by rw [extW_extW]; exact h.2 _ _⟩
  | f + 1, listed, a, W, E, d, h => ⟨h.1, fun i hi => ⟨(h.2 i hi).1, fun F e => by
      rw [extW_extW]
      exact (h.2 i hi).2 (E ++ F) e⟩⟩
theorem wpN_ext {f : Nat} {listed : Array Bool} {a : Act} {W w : World} (h : wpN P l n Q f listed a W) (hw : ExtOf W w) : wpN P l n Q f listed a w := by
  obtain ⟨E, d, rfl⟩ := hw
  exact wpN_grow f listed a W E d h
theorem wpAny_of_N : ∀ (f : Nat) (listed : Array Bool) (a : Act) (W : World), wpN P l n Q f listed a W → wpAny P .any l.toArray Q (f + (l.length - n)) listed a W
  | 0, listed, a, W, h => by
    have h2 := h.2 #[] W.drawn
    rw [extW_self] at h2
    have := wpAny_of_seq (P := P) (md := .any) (Q' := Q) (l.drop n) n listed a W (fun j => by simp [List.getElem?_drop]) (by rw [List.length_drop]; exact h.1) h2
    rw [List.length_drop] at this
    rwa [Nat.zero_add]
  | f + 1, listed, a, W, h => by
    rw [show f + 1 + (l.length - n) = (f + (l.length - n)) + 1 by omega]
    refine ⟨fun h0 => absurd h0 h.1, fun i hi => ?_⟩
    have := (h.2 i hi).2 #[] W.drawn
    rw [extW_self] at this
    exact wpOp_mono (fun a' w' h' => wpAny_of_N f _ a' w' h'.2) this
theorem wpN_first {i : Nat} {oi : Oper} {v : Value} (hi : l.toArray[i]? = some oi) (hsel : ∀ (j : Nat) (o : Oper) cs b, l.toArray[j]? = some o → o.op ≠ .select cs b)
    (hs : Region.sinkB .any l.toArray n = true) (hc : Region.chainB .any l.toArray n = true) (hn : n < l.toArray.size) (hin : i < n)
    (hQ : ∀ c a w, Q (.panic c) (a.put oi.dst v) w → Q (.panic c) a w) (f : Nat) :
    ∀ (listed : Array Bool) (a : Act) (W : World), HeadInv .any l.toArray n listed →
      (∀ j oj, l.toArray[j]? = some oj → j ≠ i → listed.getD j true = false → (∀ e ∈ oj.after, Region.binds .any e = true → e.on ≠ i) → oi.apart l.toArray oj = true) →
      i ∈ Region.ready .any l.toArray listed → YieldsE P l.toArray oi v a W →
      wpN P l n Q f (listed.setIfInBounds i true) (a.put oi.dst v) W → wpN P l n Q (f + 1) listed a W := by
  induction f with
  | zero =>
    intro listed a W inv _ hr hy H
    refine ⟨List.ne_nil_of_mem hr, fun j hj => ?_⟩
    have hjn : j < n := Nat.lt_of_not_le fun h => tail_waits hs hc hn inv _ i rfl hin (mem_ready.1 hr).1 j h hj
    refine ⟨hjn, fun E d => ?_⟩
    by_cases hji : j = i
    · subst hji; exact hy.wpOp hi E d fun w' hw' => ⟨hw', wpN_ext H hw'.trans'⟩
    · exact absurd (seqB_ready H.1 j (ready_mono hj hji)) (by omega)
  | succ f ih =>
    intro listed a W inv hfree hr hy H
    refine ⟨List.ne_nil_of_mem hr, fun j hj => ?_⟩
    have hjn : j < n := Nat.lt_of_not_le fun h => tail_waits hs hc hn inv _ i rfl hin (mem_ready.1 hr).1 j h hj
    refine ⟨hjn, fun E d => ?_⟩
    by_cases hji : j = i
    · subst hji; exact hy.wpOp hi E d fun w' hw' => ⟨hw', wpN_ext H hw'.trans'⟩
    · have h1 := (H.2 j (ready_mono hj hji)).2 E d
      obtain ⟨hjun, oj, hoj, hall⟩ := mem_ready.1 hj
      have hnot : ∀ e ∈ oj.after, Region.binds .any e = true → e.on ≠ i := by
        intro e he hb heq
        have h1 := hall e he hb
        rw [heq, getD_both (mem_ready.1 hr).1] at h1
        cases h1
      have h2 := wpOp_putY (Y := fun a' => YieldsE P l.toArray oi v a' W) (fun a a' e1 e2 hY E d => (hY E d).of_same e1 e2) hoj (hfree j oj hoj hji hjun hnot) (fun cs b => hsel i oi cs b hi) (fun cs b => hsel j oj cs b hoj) hQ hy h1
      have hfree' : ∀ k ok, l.toArray[k]? = some ok → k ≠ i → (listed.setIfInBounds j true).getD k true = false → (∀ e ∈ ok.after, Region.binds .any e = true → e.on ≠ i) → oi.apart l.toArray ok = true := by
        intro k ok hk hki hun hno
        refine hfree k ok hk hki ?_ hno
        by_cases hjk : j = k
        · subst hjk; exact hjun
        · rwa [getD_set_ne true hjk] at hun
      refine wpOp_mono (fun a' w' h3 => ⟨h3.2.1, ih (listed.setIfInBounds j true) a' w' (inv.set hj hjn) hfree' (ready_mono hr (Ne.symm hji)) (h3.1.grow h3.2.1.trans') ?_⟩) h2
      rw [Array.setIfInBounds_comm _ _ hji]
      exact h3.2.2
/-- What is asked of the region: the last operations wait for all others, one for the other. -/
def statN (l : List Oper) (n : Nat) : Bool := Region.noSelect l.toArray && Region.sinkB .any l.toArray n && Region.chainB .any l.toArray n && decide (n < l.length)
def wpM (P : Program) (l : List Oper) (n : Nat) (Q : Exit → Act → World → Prop) (f : Nat) (listed : Array Bool) (a : Act) (W : World) : Prop := statN l n = true → HeadInv .any l.toArray n listed → wpN P l n Q f listed a W
theorem statN_parts (h : statN l n = true) : Region.noSelect l.toArray = true ∧ Region.sinkB .any l.toArray n = true ∧ Region.chainB .any l.toArray n = true ∧ n < l.toArray.size := by
  unfold statN at h
  simp only [Bool.and_eq_true, decide_eq_true_eq] at h
  exact ⟨h.1.1.1, h.1.1.2, h.1.2, by simpa using h.2⟩
/-- Number i is taken first. -/
theorem wpM_take {i : Nat} {o : Oper} {f : Nat} {listed : Array Bool} {a : Act} {W : World} (hi : l.toArray[i]? = some o)
    (hf : (Region.free .any l.toArray listed i && (Region.ready .any l.toArray listed).contains i && decide (i < n)) = true)
    (hQ : ∀ v c a w, Q (.panic c) (a.put o.dst v) w → Q (.panic c) a w)
    (h : ∀ K : Act → Prop, (∀ a, wpM P l n Q f (listed.setIfInBounds i true) a W → K a) →
      if Region.wanted o (yielded l.toArray a.tmps) then ∃ v, (∀ E d, Oper.quietAt P o a (fun w' => ∃ F e, w' = extW (extW W E d) F e) (extW W E d) v) ∧ K (a.put o.dst v) else K (a.put o.dst undef)) : wpM P l n Q (f + 1) listed a W := by
  intro hst inv
  obtain ⟨s1, s2, s3, s4⟩ := statN_parts hst
  simp only [Bool.and_eq_true, decide_eq_true_eq] at hf
  obtain ⟨⟨h2, h3⟩, hin⟩ := hf
  have hr : i ∈ Region.ready .any l.toArray listed := by simpa using h3
  have h4 := h _ fun _ h => h
  by_cases hw : Region.wanted o (yielded l.toArray a.tmps) = true
  · rw [if_pos hw] at h4
    obtain ⟨v, hv, h5⟩ := h4
    refine wpN_first hi (Region.noSelect_spec s1) s2 s3 s4 hin (hQ v) f listed a W inv (Region.free_spec hi h2) hr (fun E d => .inl ⟨hw, fun w hwC => ?_⟩) (h5 hst (inv.set hr hin))
    obtain ⟨F, e, rfl⟩ := hwC
    rw [extW_extW]
    refine quietAt_mono (fun w' hw' => ?_) (hv (E ++ F) e)
    obtain ⟨F', e', rfl⟩ := hw'
    exact ⟨F ++ F', e', by rw [extW_extW, extW_extW, Array.append_assoc]⟩
  · rw [if_neg hw] at h4
    exact wpN_first hi (Region.noSelect_spec s1) s2 s3 s4 hin (hQ undef) f listed a W inv (Region.free_spec hi h2) hr (fun E d => .inr ⟨by simpa using hw, rfl⟩) (h4 hst (inv.set hr hin))
/-- Number i alone can come up. Behind it: the worlds that have grown since then. -/
theorem wpM_step {i : Nat} {o : Oper} {f : Nat} {listed : Array Bool} {a : Act} {W : World} (hi : l.toArray[i]? = some o) (hr : (decide (Region.ready .any l.toArray listed = [i]) && decide (i < n)) = true)
    (h : ∀ E d, ∀ K : Act → World → Prop, (∀ a' w', ExtOf (extW W E d) w' → wpM P l n Q f (listed.setIfInBounds i true) a' w' → K a' w') →
      if Region.wanted o (yielded l.toArray a.tmps) then Oper.wp P o a (extW W E d) K Q else K (a.put o.dst undef) (extW W E d)) : wpM P l n Q (f + 1) listed a W := by
  intro hst inv
  simp only [Bool.and_eq_true, decide_eq_true_eq] at hr
  obtain ⟨hr, hin⟩ := hr
  refine ⟨by rw [hr]; simp, fun j hj => ?_⟩
  have hji : j = i := by rw [hr] at hj; simpa using hj
  subst hji
  refine ⟨hin, fun E d => ?_⟩
  have h1 := h E d (fun a' w' => ExtOf (extW W E d) w' ∧ wpN P l n Q f (listed.setIfInBounds j true) a' w') (fun a w' he h' => ⟨he, h' hst (inv.set hj hin)⟩)
  unfold wpOp
  simp only [hi]
  by_cases hw : Region.wanted o (yielded l.toArray a.tmps) = true
  · rw [if_pos hw] at h1 ⊢
    exact .inl h1
  · rw [if_neg hw] at h1 ⊢
    exact h1
/-- The last operations. -/
theorem wpM_tail {listed : Array Bool} {a : Act} {W : World} (hs : Region.seqB .any l.toArray (l.length - n) n listed = true) (h : ∀ E d, wpList P l.toArray Q (l.drop n) a (extW W E d)) : wpM P l n Q 0 listed a W := fun _ _ => ⟨hs, h⟩
/-- The beginning. -/
theorem wp_region_M (n : Nat) {id : Nat} {a : Act} {W : World} (hm : P.follows .mixedOrders = true) (hst : statN l n = true) (h : wpM P l n Q n (Array.replicate l.length false) a W) : (Code.region id l.toArray true).wp P Q a W := by
  obtain ⟨_, _, _, s4⟩ := statN_parts hst
  have inv0 : HeadInv .any l.toArray n (Array.replicate l.length false) :=
    ⟨by simp, fun j oj _ hl => (by rw [getD_replicate_false] at hl; cases hl), fun t _ ht => getD_in (by simpa using ht) (getD_replicate_false _ _)⟩
  have h1 := wpN_grow _ _ _ _ #[] (W.drawn + 1) (h hst inv0)
  rw [extW_self] at h1
  have h2 := wpAny_of_N _ _ _ _ h1
  rw [show n + (l.length - n) = l.length by have : n < l.length := by simpa using s4
                                            omega] at h2
  exact wp_region_any hm (by simpa using h2)
end
end Go.Proofs.Ytooilennejakhaa

namespace Go.Proofs.Ytooilennejakhaa
open Go.RowKit
set_option linter.unusedVariables false
set_option linter.unusedSimpArgs false
open Ef
/-- The threads that are told. -/
def StrPostE (W H N : Nat) (cs : List Int) (w : World) (r : Ending) (w' : World) : Prop :=
  ((Stuck W cs N ∧ r = .returned (.tuple #[.agg #[.slice none 0 0, .slice none 0 0], .int .i64 (6)])) ∨ ∃ p A C B D, Str W cs N N p ∧ r = .returned (.tuple #[.agg #[.slice A W C, .slice B H D], .int .i64 (0)]) ∧ IsInts w' A W (p.take W) ∧ IsInts w' B H (p.drop W)) ∧ Below w.heap.size w w'
/-- Where the trying of colours for strand s stands. -/
def KInv (W : Nat) (cs : List Int) (s : Nat) (p : List Int) (k : Nat) (p2 : List Int) : Prop :=
  (p2 = p ∧ (0 ≤ g p s → k = 0) ∧ ∀ j : Nat, j < k → Never W cs (p.set s j)) ∨ (∃ k' : Nat, k = k' + 1 ∧ g p s < 0 ∧ k' < 62 ∧ (∀ j : Nat, j < k' → Never W cs (p.set s j)) ∧ Least W cs (p.set s k') p2)
theorem KInv.exit {W N s k : Nat} {cs p p2 : List Int} (h : KInv W cs s p k p2) (hs : Str W cs N s p) (hsN : s < N) (h0 : 0 ≤ g p2 s) : Str W cs N (s + 1) p2 := by
  rcases h with ⟨rfl, _, _⟩ | ⟨k', _, h1, h2, h3, h4⟩
  · exact .keep hs hsN h0
  · exact .tie hs hsN h1 h2 h3 h4
theorem KInv.open {W N s k : Nat} {cs p p2 : List Int} (h : KInv W cs s p k p2) (hs : Str W cs N s p) (hsN : s < N) (h0 : g p2 s < 0) : p2 = p ∧ ∀ j : Nat, j < k → Never W cs (p.set s j) := by
  rcases h with ⟨rfl, _, h⟩ | ⟨k', _, h1, h2, h3, h4⟩
  · exact ⟨rfl, h⟩
  · have hl := hs.inv.1
    have h5 := h4.1.2 s (by rw [set_len]; omega)
    rw [g_set p s s _ (by omega), if_pos rfl] at h5
    rw [h5 (by omega)] at h0
    omega
def chF (W H : Nat) (ca : Option Addr) (cn cc : Nat) : Nat → Value := fun j => if j = 0 then .int .i64 4 else if j = 1 then .int .i64 (W : Int) else if j = 2 then .int .i64 (H : Int) else .slice ca cn cc
theorem slice_3 (tb n W cap : Nat) (h : W ≤ n) (h2 : n ≤ cap) : ∀ w, (Instr.slice 22 (.slice (some ⟨tb, 0, none⟩) n cap) none (some (.int .i64 (W))) (some (.int .i64 (W)))).run Try.prog w = .ok (.slice (some ⟨tb, 0, none⟩) W W) w := by
  intro w
  rw [run_slice_hm (P := Try.prog) w 22 (some ⟨tb, 0, none⟩) n cap (by kernel_rfl) .i64 .i64 (W : Int) (W : Int) (by omega) (by omega) (by omega)]
  have hsz : (sizeOf (Try.prog.elem 22)).run Try.prog w = .ok 1 w := by go_simp
  rw [hsz]
  have e2 : ((W : Int)).toNat = W := by omega
  rw [e2]
  simp [Result.andThen, sliced, Addr.add_lit]
theorem slice_fr (tb n W H cap : Nat) (h : W + H = n) (h1 : 1 ≤ H) (h2 : n ≤ cap) : ∀ w, (Instr.slice 22 (.slice (some ⟨tb, 0, none⟩) n cap) (some (.int .i64 (W))) none none).run Try.prog w = .ok (.slice (some ⟨tb, W, none⟩) H (cap - W)) w := by
  intro w
  rw [run_slice_l (P := Try.prog) w 22 (some ⟨tb, 0, none⟩) n cap (by kernel_rfl) .i64 (W : Int) (by omega) (by omega)]
  have hsz : (sizeOf (Try.prog.elem 22)).run Try.prog w = .ok 1 w := by go_simp
  rw [hsz]
  have e2 : ((W : Int)).toNat = W := by omega
  rw [e2]
  have e3 : n - W = H := by omega
  simp [Result.andThen, sliced, Addr.add_lit, e3]
  omega
theorem ints_from {w : World} {b o n W H : Nat} {l : List Int} (h : IsInts w (some ⟨b, o, none⟩) n l) (hn : W + H = n) : IsInts w (some ⟨b, o + W, none⟩) H (l.drop W) := by
  refine ⟨by rw [List.length_drop, h.1]; omega, fun hH => ?_⟩
  obtain ⟨b', o', e, hlt, hc⟩ := h.2 (by omega)
  cases e
  refine ⟨b, o + W, rfl, hlt, fun j hj => ?_⟩
  rw [Nat.add_assoc, hc (W + j) (by omega)]
  rw [List.getD_eq_getElem?_getD, List.getD_eq_getElem?_getD, List.getElem?_drop]
theorem ints_upto {w : World} {b o n m : Nat} {l : List Int} (h : IsInts w (some ⟨b, o, none⟩) n l) (hm : m ≤ n) : IsInts w (some ⟨b, o, none⟩) m (l.take m) := by
  refine ⟨by rw [List.length_take, h.1]; omega, fun hH => ?_⟩
  obtain ⟨b', o', e, hlt, hc⟩ := h.2 (by omega)
  cases e
  refine ⟨b, o, rfl, hlt, fun j hj => ?_⟩
  rw [hc j (by omega)]
  rw [List.getD_eq_getElem?_getD, List.getD_eq_getElem?_getD, List.getElem?_take_of_lt hj]
theorem belowX7 {w w4 : World} {E : Array Obj} {d : Nat} (h : Below (extW w E d).heap.size (extW w E d) w4) : Below w.heap.size w w4 := by
  have h1 : Below w.heap.size w (extW w E d) := bExtW (Below.refl _ _) (Nat.le_refl _)
  exact h1.trans (h.mono h1.size)
theorem ints_set {w : World} {a : Option Addr} {n q i : Nat} {l : List Int} {v : Value} (h : IsInts w a n l) (hm : ∀ b o, a = some ⟨b, o, none⟩ → b ≠ q) : IsInts (w.setCell ⟨q, i, none⟩ v) a n l := by
  refine ⟨h.1, fun hn => ?_⟩
  obtain ⟨b, o, e, hlt, hc⟩ := h.2 hn
  refine ⟨b, o, e, by rw [World.size_setCell]; exact hlt, fun j hj => ?_⟩
  rw [← hc j hj]
  exact World.cell?_of_block (Below.heap_setCell _ _ _ b (fun e2 => hm b o e (by simpa using e2)))
end Go.Proofs.Ytooilennejakhaa
