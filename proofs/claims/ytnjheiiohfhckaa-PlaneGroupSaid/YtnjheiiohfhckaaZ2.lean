/- Rests of divisions, and turns of a point: no program in sight. -/
import Derived.Test.YtnjheiiohfhckaaZ
namespace Go.Proofs.Ytnjheiiohfhckaa.Z
set_option linter.unusedVariables false
set_option linter.unusedSimpArgs false
def near (a b : Int) : Int := (2 * a + b) / (2 * b)
theorem near_bd (a b : Int) (hb : 0 < b) : -b ≤ 2 * (a - b * near a b) ∧ 2 * (a - b * near a b) ≤ b := by
  unfold near
  have h1 := Int.emod_nonneg (2 * a + b) (show 2 * b ≠ 0 by omega)
  have h2 := Int.emod_lt_of_pos (2 * a + b) (show 0 < 2 * b by omega)
  have h3 := Int.mul_ediv_add_emod (2 * a + b) (2 * b)
  generalize (2 * a + b) / (2 * b) = q at *
  have h4 : 2 * b * q = 2 * (b * q) := by rw [Int.mul_assoc]
  omega
def over (g : Int) (a b : Pt) : Pt := (near (mul g a (conj g b)).1 (nrm g b), near (mul g a (conj g b)).2 (nrm g b))
def rem (g : Int) (a b : Pt) : Pt := sub a (mul g (over g a b) b)
theorem rem_lt {g : Int} (hg : G g) {a b : Pt} (hb : b ≠ (0,0)) : 4 * nrm g (rem g a b) ≤ 3 * nrm g b := by
  have hn := nrm_pos hg hb
  have e : mul g (rem g a b) (conj g b) = sub (mul g a (conj g b)) (mul g (over g a b) (nrm g b, 0)) := by
    unfold rem; rw [sub_mul, mul_assoc, mul_conj hg]
  have e2 := nrm_mul g (rem g a b) (conj g b)
  rw [nrm_conj hg, e] at e2
  generalize hz : mul g a (conj g b) = z at *
  have b1 := near_bd z.1 (nrm g b) (by omega)
  have b2 := near_bd z.2 (nrm g b) (by omega)
  have e3 : sub z (mul g (over g a b) (nrm g b, 0)) = (z.1 - nrm g b * near z.1 (nrm g b), z.2 - nrm g b * near z.2 (nrm g b)) := by
    unfold over; rw [hz]
    apply ext2
    · simp [sub, mul, tmX, Int.mul_comm]
    · simp [sub, mul, tmY, Int.mul_comm]
  rw [e3] at e2
  generalize hn' : nrm g b = n at *
  generalize z.1 - n * near z.1 n = x at *
  generalize z.2 - n * near z.2 n = y at *
  have h1 := nrm_bd hg (a := (2 * x, 2 * y)) (B := n) (by omega) (by omega)
  have h2 : nrm g (2 * x, 2 * y) = 4 * nrm g (x, y) := by
    rcases hg with rfl | rfl
    · rw [nrm4, nrm4]; simp only; grind
    · rw [nrm6, nrm6]; simp only; grind
  have h3 : (4 * nrm g (rem g a b)) * n ≤ (3 * n) * n := by rw [Int.mul_assoc, ← e2, Int.mul_assoc]; omega
  exact Int.le_of_mul_le_mul_right h3 (by omega)
def bil (g : Int) (a b : Pt) : Int := if g = 4 then 2 * (a.1 * b.1 + a.2 * b.2) else 2 * (a.1 * b.1) + a.1 * b.2 + a.2 * b.1 + 2 * (a.2 * b.2)
theorem nrm_add {g : Int} (hg : G g) (a b : Pt) : nrm g (add a b) = nrm g a + bil g a b + nrm g b := by
  rcases hg with rfl | rfl
  · rw [nrm4, nrm4, nrm4]; simp only [add, bil, if_true]; grind
  · rw [nrm6, nrm6, nrm6]; simp [add, bil]; grind
def turn (g : Int) (p : Pt) : Pt := (-p.2, if g = 4 then p.1 else p.1 + p.2)
def tn (g : Int) : Nat → Pt → Pt
  | 0, p => p
  | k + 1, p => turn g (tn g k p)
theorem turn_mul {g : Int} (hg : G g) (p : Pt) : turn g p = mul g (0,1) p := by
  rcases hg with rfl | rfl <;> apply ext2 <;> simp [turn, mul, tmX, tmY]
theorem nrm_turn {g : Int} (hg : G g) (p : Pt) : nrm g (turn g p) = nrm g p := by
  rw [turn_mul hg, nrm_mul]
  rcases hg with rfl | rfl <;> simp [nrm, tmX, miX]
theorem nrm_tn {g : Int} (hg : G g) (k : Nat) (p : Pt) : nrm g (tn g k p) = nrm g p := by
  induction k with
  | zero => rfl
  | succ k ih => rw [tn, nrm_turn hg, ih]
theorem dvd_tn {g : Int} (hg : G g) (k : Nat) (p : Pt) : Dvd g p (tn g k p) := by
  induction k with
  | zero => exact dvd_refl g p
  | succ k ih => rw [tn, turn_mul hg]; exact dvd_mul ih _
theorem turn_zero (g : Int) : turn g (0,0) = (0,0) := by simp [turn]
theorem sq_le {x n : Int} (h : -n ≤ x ∧ x ≤ n) : x * x ≤ n * n := by
  have := mul_bd h.1 h.2 h.1 h.2; omega
/-- Where no turn of b makes a shorter, a is shorter than b. -/
theorem rest_lt {g : Int} (hg : G g) {a b : Pt} (hb : b ≠ (0,0)) (h : ∀ k : Nat, (k : Int) < g → nrm g a ≤ nrm g (add a (tn g k b))) : 2 * nrm g a ≤ nrm g b := by
  have hn := nrm_pos hg hb
  have h' : ∀ k : Nat, (k : Int) < g → -nrm g b ≤ bil g a (tn g k b) := by
    intro k hk; have := h k hk; rw [nrm_add hg, nrm_tn hg] at this; omega
  rcases hg with rfl | rfl
  · have k0 := h' 0 (by omega); have k1 := h' 1 (by omega); have k2 := h' 2 (by omega); have k3 := h' 3 (by omega)
    have e2 : bil 4 a (tn 4 2 b) = - bil 4 a b := by simp [bil, tn, turn, Int.mul_neg]; omega
    have e3 : bil 4 a (tn 4 3 b) = - bil 4 a (tn 4 1 b) := by simp [bil, tn, turn, Int.mul_neg]; omega
    have id : 4 * (nrm 4 a * nrm 4 b) = bil 4 a b * bil 4 a b + bil 4 a (tn 4 1 b) * bil 4 a (tn 4 1 b) := by rw [nrm4, nrm4]; simp [bil, tn, turn]; grind
    rw [e2] at k2; rw [e3] at k3
    have s1 := sq_le (x := bil 4 a b) (n := nrm 4 b) ⟨k0, by omega⟩
    have s2 := sq_le (x := bil 4 a (tn 4 1 b)) (n := nrm 4 b) ⟨k1, by omega⟩
    have h3 : (2 * nrm 4 a) * nrm 4 b ≤ nrm 4 b * nrm 4 b := by rw [Int.mul_assoc]; omega
    exact Int.le_of_mul_le_mul_right h3 (by omega)
  · have k0 := h' 0 (by omega); have k1 := h' 1 (by omega); have k2 := h' 2 (by omega); have k3 := h' 3 (by omega); have k4 := h' 4 (by omega); have k5 := h' 5 (by omega)
    have e2 : bil 6 a (tn 6 2 b) = bil 6 a (tn 6 1 b) - bil 6 a b := by simp [bil, tn, turn]; grind
    have e3 : bil 6 a (tn 6 3 b) = - bil 6 a b := by simp [bil, tn, turn]; grind
    have e4 : bil 6 a (tn 6 4 b) = - bil 6 a (tn 6 1 b) := by simp [bil, tn, turn]; grind
    have e5 : bil 6 a (tn 6 5 b) = - (bil 6 a (tn 6 1 b) - bil 6 a b) := by simp [bil, tn, turn]; grind
    have id : 6 * (nrm 6 a * nrm 6 b) = bil 6 a b * bil 6 a b + bil 6 a (tn 6 1 b) * bil 6 a (tn 6 1 b) + (bil 6 a (tn 6 1 b) - bil 6 a b) * (bil 6 a (tn 6 1 b) - bil 6 a b) := by rw [nrm6, nrm6]; simp [bil, tn, turn]; grind
    rw [e2] at k2; rw [e3] at k3; rw [e4] at k4; rw [e5] at k5
    have s1 := sq_le (x := bil 6 a b) (n := nrm 6 b) ⟨k0, by omega⟩
    have s2 := sq_le (x := bil 6 a (tn 6 1 b)) (n := nrm 6 b) ⟨k1, by omega⟩
    have s3 := sq_le (x := bil 6 a (tn 6 1 b) - bil 6 a b) (n := nrm 6 b) ⟨k2, by omega⟩
    have h3 : (2 * nrm 6 a) * nrm 6 b ≤ nrm 6 b * nrm 6 b := by rw [Int.mul_assoc]; omega
    exact Int.le_of_mul_le_mul_right h3 (by omega)
/-- How many turns it is at most to the first corner. -/
def rank (g : Int) (p : Pt) : Nat :=
  if g = 4 then (if 0 < p.1 ∧ 0 ≤ p.2 then 0 else if 0 ≤ p.1 ∧ p.2 < 0 then 1 else if p.1 < 0 ∧ p.2 ≤ 0 then 2 else 3)
  else (if 0 < p.1 ∧ 0 ≤ p.2 then 0 else if p.2 < 0 ∧ 0 ≤ p.1 + p.2 then 1 else if 0 ≤ p.1 ∧ p.1 + p.2 < 0 then 2 else if p.1 < 0 ∧ p.2 ≤ 0 then 3 else if 0 < p.2 ∧ p.1 + p.2 ≤ 0 then 4 else 5)
theorem rank_turn {g : Int} (hg : G g) {p : Pt} (h0 : p ≠ (0,0)) (hn : ¬ (0 < p.1 ∧ 0 ≤ p.2)) : rank g (turn g p) < rank g p := by
  obtain ⟨x, y⟩ := p
  have hne : x ≠ 0 ∨ y ≠ 0 := by
    by_cases h1 : x = 0
    · right; intro h2; exact h0 (by rw [h1, h2])
    · exact .inl h1
  rcases hg with rfl | rfl
  · simp only [rank, turn, if_true] at *
    (repeat' split) <;> omega
  · simp only [rank, turn] at *
    simp only [show ¬ ((6:Int) = 4) by omega, if_false] at *
    (repeat' split) <;> omega
theorem rank_le (g : Int) (p : Pt) : rank g p ≤ 5 := by
  unfold rank; (repeat' split) <;> omega
theorem nrm_sub_le {g : Int} (hg : G g) (a r : Pt) : nrm g (sub a r) ≤ 2 * nrm g a + 2 * nrm g r := by
  have h := nrm_nonneg hg (add a r)
  have e : nrm g (sub a r) + nrm g (add a r) = 2 * nrm g a + 2 * nrm g r := by
    rcases hg with rfl | rfl
    · simp only [nrm4, sub, add]; grind
    · simp only [nrm6, sub, add]; grind
  omega
theorem over_bd {g : Int} (hg : G g) {a b : Pt} (hb : b ≠ (0,0)) {N : Int} (ha : nrm g a ≤ N) : nrm g (over g a b) ≤ 2 * N + 2 := by
  have hn := nrm_pos hg hb
  have hr := rem_lt hg (a := a) hb
  have hs := nrm_sub_le hg a (rem g a b)
  have e : sub a (rem g a b) = mul g (over g a b) b := by apply ext2 <;> simp [sub, rem] <;> omega
  rw [e, nrm_mul] at hs
  have ha0 := nrm_nonneg hg a
  have h2 : nrm g (over g a b) * nrm g b ≤ (2 * N + 2) * nrm g b := by
    have : 2 * N * 1 ≤ 2 * N * nrm g b := Int.mul_le_mul_of_nonneg_left hn (by omega)
    rw [Int.add_mul]; omega
  exact Int.le_of_mul_le_mul_right h2 (by omega)
end Go.Proofs.Ytnjheiiohfhckaa.Z
