/- Runs of truths that are turned, changed or begun elsewhere: no program in sight. -/
import Derived.Test.YtpmecoojhjopcaaLoM
import Derived.Test.YtpmecoojhjopcaaTpM
namespace Go.Proofs.Ytpmecoojhjopcaa
open Lo
set_option linter.unusedVariables false
set_option linter.unusedSimpArgs false
/-- The first k values of f. -/
def bT (f : Nat → Bool) (k : Nat) : List Bool := (List.range k).map f
theorem bT_succ (f : Nat → Bool) (k : Nat) : bT f (k+1) = bT f k ++ [f k] := by simp [bT, List.range_succ]
theorem bT_len (f : Nat → Bool) (k : Nat) : (bT f k).length = k := by simp [bT]
theorem bT_get (f : Nat → Bool) {k p : Nat} (hp : p < k) : (bT f k).getD p false = f p := getD_map_range f hp
def otF (W H : Nat) (bs : List Bool) (p : Nat) : Bool := !bs.getD ((p % H) * W + p / H) false
def mvF (W s : Nat) (bs : List Bool) (p : Nat) : Bool := bs.getD ((p / W) * W + (p % W + s) % W) false
theorem dm1 {H x y : Nat} (hy : y < H) : (x * H + y) % H = y := by rw [Nat.mul_comm, Nat.mul_add_mod, Nat.mod_eq_of_lt hy]
theorem dm2 {H x y : Nat} (hy : y < H) : (x * H + y) / H = x := by rw [Nat.mul_comm, Nat.mul_add_div (by omega), Nat.div_eq_of_lt hy]; omega
theorem otF_at {W H x y : Nat} {bs : List Bool} (hy : y < H) : otF W H bs (x * H + y) = !bs.getD (y * W + x) false := by unfold otF; rw [dm1 hy, dm2 hy]
theorem mvF_at {W s x y : Nat} {bs : List Bool} (hx : x < W) : mvF W s bs (y * W + x) = bs.getD (y * W + (x + s) % W) false := by unfold mvF; rw [dm1 hx, dm2 hx]
theorem place_lt' {W H x y : Nat} (hx : x < W) (hy : y < H) : y * W + x < W * H := by
  have : (y + 1) * W ≤ H * W := Nat.mul_le_mul_right W hy
  rw [Nat.add_mul, Nat.one_mul, Nat.mul_comm H W] at this; omega
theorem crun_congr {f g : Nat → Bool} (h : ∀ i, f i = g i) (k : Nat) : ∀ x, crun f x k = crun g x k := by
  induction k with
  | zero => intro x; rfl
  | succ k ih => intro x; unfold crun; rw [h x, ih]
theorem crun_shift (f : Nat → Bool) (s k : Nat) : ∀ x, crun (fun i => f (i + s)) x k = crun f (x + s) k := by
  induction k with
  | zero => intro x; rfl
  | succ k ih => intro x; unfold crun; rw [ih, show x + 1 + s = x + s + 1 by omega]
theorem mx_shift {g : Nat → Nat} {W s : Nat} (hW : 0 < W) (hg : ∀ x, g (x + W) = g x) : mxTo (fun x => g (x + s)) W = mxTo g W := by
  have hper : ∀ i k, g (i + k * W) = g i := by
    intro i k
    induction k with
    | zero => simp
    | succ k ih => rw [Nat.add_mul, Nat.one_mul, ← Nat.add_assoc, hg, ih]
  have hmod : ∀ i, g (i % W) = g i := by
    intro i
    have := hper (i % W) (i / W)
    rw [Nat.mul_comm, Nat.mod_add_div] at this
    exact this.symm
  apply Nat.le_antisymm
  · refine mxTo_le fun x hx => ?_
    rw [← hmod (x + s)]
    exact le_mxTo (Nat.mod_lt _ hW)
  · refine mxTo_le fun x hx => ?_
    have e : g x = g ((x + (W - s % W)) % W + s) := by
      rw [← hmod ((x + (W - s % W)) % W + s), Nat.mod_add_mod]
      have h1 : s % W < W := Nat.mod_lt _ hW
      have h2 : s = s % W + W * (s / W) := (Nat.mod_add_div s W).symm
      have h3 : x + (W - s % W) + s = x + (1 + s / W) * W := by
        rw [Nat.add_mul, Nat.one_mul, Nat.mul_comm (s / W) W]; omega
      rw [h3, hmod, hper]
    rw [e]
    exact le_mxTo (g := fun x => g (x + s)) (Nat.mod_lt _ hW)
theorem rowG_congr {of of' : Bool} {W y y' : Nat} {bs bs' : List Bool} (h : ∀ i, rf of W bs y i = rf of' W bs' y' i) : rowG of W bs y = rowG of' W bs' y' := by
  unfold rowG
  exact mxTo_congr fun x hx => crun_congr h 65 x
theorem fl_1 {W H : Nat} {bs : List Bool} (hW : 0 < W) : longV true W H (turnL H W (bT (otF W H bs) (W * H))) = longV false W H bs := by
  unfold longV
  refine mxTo_congr fun y hy => rowG_congr fun i => ?_
  unfold rf
  have hi : i % W < W := Nat.mod_lt _ hW
  rw [turnL_get hy hi, bT_get _ (by rw [Nat.mul_comm W H]; exact place_lt' hy hi), otF_at hy]
  cases bs.getD (y * W + i % W) false <;> rfl
theorem fl_2 {W H : Nat} {bs : List Bool} (hH : 0 < H) : longV false H W (bT (otF W H bs) (W * H)) = longV true H W (turnL W H bs) := by
  unfold longV
  refine mxTo_congr fun y hy => rowG_congr fun i => ?_
  unfold rf
  have hi : i % H < H := Nat.mod_lt _ hH
  rw [turnL_get hy hi, bT_get _ (by rw [Nat.mul_comm W H]; exact place_lt' hi hy), otF_at hi]
  cases bs.getD (i % H * W + y) false <;> rfl
theorem fl_3 {W H s : Nat} {bs : List Bool} (hW : 0 < W) (hH : 0 < H) : longV true H W (turnL W H (bT (mvF W s bs) (W * H))) = longV true H W (turnL W H bs) := by
  have key : ∀ y, y < W → rowG true H (turnL W H (bT (mvF W s bs) (W * H))) y = rowG true H (turnL W H bs) ((y + s) % W) := by
    intro y hy
    refine rowG_congr fun i => ?_
    unfold rf
    have hi : i % H < H := Nat.mod_lt _ hH
    rw [turnL_get hy hi, bT_get _ (place_lt' hy hi), mvF_at hy, turnL_get (Nat.mod_lt _ hW) hi]
  unfold longV
  rw [mxTo_congr (g' := fun y => (fun z => rowG true H (turnL W H bs) (z % W)) (y + s)) key]
  rw [mx_shift (g := fun z => rowG true H (turnL W H bs) (z % W)) hW (fun x => by simp)]
  exact mxTo_congr fun y hy => by simp only [Nat.mod_eq_of_lt hy]
theorem fl_4 {W H s : Nat} {bs : List Bool} (hW : 0 < W) : longV false W H (bT (mvF W s bs) (W * H)) = longV false W H bs := by
  unfold longV
  refine mxTo_congr fun y hy => ?_
  have e : ∀ i, rf false W (bT (mvF W s bs) (W * H)) y i = (fun j => rf false W bs y (j + s)) i := by
    intro i
    unfold rf
    have hi : i % W < W := Nat.mod_lt _ hW
    rw [bT_get _ (place_lt' hi hy), mvF_at hi, Nat.mod_add_mod]
  unfold rowG
  rw [mxTo_congr (g' := fun x => crun (rf false W bs y) (x + s) 65) (fun x hx => by rw [crun_congr e, crun_shift])]
  refine mx_shift (g := fun x => crun (rf false W bs y) x 65) hW fun x => ?_
  rw [← crun_shift]
  exact crun_congr (fun i => rf_per false W bs y i) 65 x
/-- No run in a row is longer than the longest one. -/
theorem fl_5 {W H y x : Nat} {bs : List Bool} (hy : y < H) (hx : x ≤ W) (hW : W ≤ 64) (hW0 : 0 < W) : (scanTo (rf false W bs y) 0 0 x).1 ≤ longV false W H bs := by
  obtain ⟨h1, _, h3⟩ := scan_len (rf false W bs y) 0 0 x
  generalize (scanTo (rf false W bs y) 0 0 x).1 = m at *
  by_cases hm : m = 0
  · omega
  have h4 : m ≤ crun (rf false W bs y) (x - m) 65 := crun_ge (by omega) fun j hj => by
    have := h3 (m - 1 - j) (by omega)
    rwa [show 0 + x - 1 - (m - 1 - j) = x - m + j by omega] at this
  have h5 := le_mxTo (g := fun x => crun (rf false W bs y) x 65) (k := W) (i := x - m) (by omega)
  have h6 := le_mxTo (g := rowG false W bs) hy
  unfold longV
  unfold rowG at h6 ⊢
  exact Nat.le_trans h4 (Nat.le_trans h5 h6)
end Go.Proofs.Ytpmecoojhjopcaa
