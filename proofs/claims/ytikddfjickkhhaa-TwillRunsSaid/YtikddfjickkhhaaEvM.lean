/- Counting what holds in rows and columns: no program in sight. -/
import Derived.Test.YtikddfjickkhhaaEv1
namespace Go.Proofs.Ytikddfjickkhhaa
set_option linter.unusedVariables false
set_option linter.unusedSimpArgs false
theorem cn_congr {f g : Nat → Bool} {k : Nat} (h : ∀ x, x < k → f x = g x) : cn f k = cn g k := by
  induction k with
  | zero => rfl
  | succ k ih => unfold cn; rw [ih fun x hx => h x (by omega), h k (by omega)]
theorem cn_no {f : Nat → Bool} {k : Nat} (h : ∀ x, x < k → f x = false) : cn f k = 0 := by
  induction k with
  | zero => rfl
  | succ k ih => unfold cn; rw [ih fun x hx => h x (by omega), h k (by omega)]; rfl
/-- At most one of them can hold. -/
theorem cn_one {f : Nat → Bool} {k at' : Nat} (h : ∀ x, x < k → x ≠ at' → f x = false) : cn f k = if at' < k ∧ f at' = true then 1 else 0 := by
  induction k with
  | zero => simp [cn]
  | succ k ih =>
    unfold cn
    rw [ih fun x hx => h x (by omega)]
    by_cases hk : k = at'
    · subst hk
      rw [if_neg (by omega)]
      by_cases hf : f k = true
      · rw [if_pos hf, if_pos ⟨by omega, hf⟩]
      · rw [if_neg hf, if_neg (fun h => hf h.2)]
    · have h0 := h k (by omega) hk
      rw [h0]
      simp only [Bool.false_eq_true, if_false, Nat.add_zero]
      by_cases h1 : at' < k ∧ f at' = true
      · rw [if_pos h1, if_pos ⟨by omega, h1.2⟩]
      · rw [if_neg h1, if_neg (fun h => h1 ⟨by omega, h.2⟩)]
/-- What is counted at a place. -/
def inF (bs : List Bool) (W at' : Nat) (col : Bool) (y x : Nat) : Bool := rb bs W y x && (col && decide (x = at') || !col && decide (y = at'))
/-- Counted in the first y rows. -/
def inC (bs : List Bool) (W at' : Nat) (col : Bool) : Nat → Nat
  | 0 => 0
  | y + 1 => inC bs W at' col y + cn (inF bs W at' col y) W
theorem inC_row {bs : List Bool} {W at' : Nat} : ∀ H, inC bs W at' false H = if at' < H then cn (rb bs W at') W else 0 := by
  intro H
  induction H with
  | zero => rfl
  | succ y ih =>
    unfold inC
    rw [ih]
    by_cases hk : y = at'
    · subst hk
      rw [if_neg (by omega), if_pos (by omega), Nat.zero_add]
      exact cn_congr fun x hx => by unfold inF; simp
    · rw [cn_no (f := inF bs W at' false y) (fun x hx => by unfold inF; simp [hk])]
      by_cases h1 : at' < y
      · rw [if_pos h1, if_pos (by omega)]; rfl
      · rw [if_neg h1, if_neg (by omega)]
theorem inC_col {bs : List Bool} {W at' : Nat} (h : at' < W) : ∀ H, inC bs W at' true H = cn (fun y => rb bs W y at') H := by
  intro H
  induction H with
  | zero => rfl
  | succ y ih =>
    show inC bs W at' true y + cn (inF bs W at' true y) W = cn (fun y => rb bs W y at') y + (if rb bs W y at' then 1 else 0)
    rw [ih, cn_one (f := inF bs W at' true y) (at' := at') (fun x hx hne => by unfold inF; simp [hne])]
    congr 1
    have e : inF bs W at' true y at' = rb bs W y at' := by unfold inF; simp
    rw [e]
    by_cases hb : rb bs W y at' = true
    · rw [if_pos ⟨h, hb⟩, if_pos hb]
    · rw [if_neg (fun hh => hb hh.2), if_neg hb]
theorem inC_le (bs : List Bool) (W at' : Nat) (col : Bool) : ∀ y, inC bs W at' col y ≤ y * W := by
  intro y
  induction y with
  | zero => simp [inC]
  | succ y ih => unfold inC; have := cn_le (inF bs W at' col y) W; rw [Nat.add_mul, Nat.one_mul]; omega
theorem turn_col {bs : List Bool} {W H x : Nat} (hx : x < W) : cn (rb (turnL W H bs) H x) H = cn (fun y => rb bs W y x) H :=
  cn_congr fun y hy => by unfold rb; exact turnL_get hx hy
end Go.Proofs.Ytikddfjickkhhaa
