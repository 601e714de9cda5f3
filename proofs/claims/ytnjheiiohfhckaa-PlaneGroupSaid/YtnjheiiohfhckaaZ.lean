/- The whole numbers of Gauss and of Eisenstein: division with rest, greatest divisors; no program in sight. -/
import Derived.Test.YtnjheiiohfhckaaT7
namespace Go.Proofs.Ytnjheiiohfhckaa.Z
set_option linter.unusedVariables false
set_option linter.unusedSimpArgs false
abbrev Pt := Int × Int
def G (g : Int) : Prop := g = 4 ∨ g = 6
def mul (g : Int) (a b : Pt) : Pt := (tmX a.1 a.2 b.1 b.2, tmY g a.1 a.2 b.1 b.2)
def add (a b : Pt) : Pt := (a.1 + b.1, a.2 + b.2)
def sub (a b : Pt) : Pt := (a.1 - b.1, a.2 - b.2)
def conj (g : Int) (a : Pt) : Pt := (miX g a.1 a.2, -a.2)
def nrm (g : Int) (a : Pt) : Int := tmX a.1 a.2 (miX g a.1 a.2) (-a.2)
theorem ext2 {a b : Pt} (h1 : a.1 = b.1) (h2 : a.2 = b.2) : a = b := by
  obtain ⟨a1, a2⟩ := a; obtain ⟨b1, b2⟩ := b; simp_all
theorem mul_comm (g : Int) (a b : Pt) : mul g a b = mul g b a := ext2 (tmX_comm ..) (tmY_comm ..)
theorem mul_assoc (g : Int) (a b c : Pt) : mul g (mul g a b) c = mul g a (mul g b c) := ext2 (tm_assoc g ..).1 (tm_assoc g ..).2
theorem add_mul (g : Int) (a b c : Pt) : mul g (add a b) c = add (mul g a c) (mul g b c) := ext2 (tm_dist g ..).1 (tm_dist g ..).2
theorem mul_add (g : Int) (a b c : Pt) : mul g c (add a b) = add (mul g c a) (mul g c b) := by rw [mul_comm, add_mul, mul_comm g a, mul_comm g b]
theorem one_mul (g : Int) (a : Pt) : mul g (1,0) a = a := by apply ext2 <;> simp [mul, tmX, tmY]
theorem zero_mul (g : Int) (a : Pt) : mul g (0,0) a = (0,0) := by apply ext2 <;> simp [mul, tmX, tmY]
theorem mul_zero (g : Int) (a : Pt) : mul g a (0,0) = (0,0) := by rw [mul_comm, zero_mul]
theorem sub_mul (g : Int) (a b c : Pt) : mul g (sub a b) c = sub (mul g a c) (mul g b c) := by
  apply ext2
  · simp only [mul, sub, tmX]; grind
  · simp only [mul, sub, tmY]; split <;> grind
theorem nrm_mul (g : Int) (a b : Pt) : nrm g (mul g a b) = nrm g a * nrm g b := (norm_mul g ..).symm
theorem nrm4 (a : Pt) : nrm 4 a = a.1 * a.1 + a.2 * a.2 := by simp [nrm, tmX, miX, Int.mul_neg]
theorem nrm6 (a : Pt) : nrm 6 a = a.1 * a.1 + a.1 * a.2 + a.2 * a.2 := by simp [nrm, tmX, miX, Int.mul_neg, Int.mul_add]
theorem sq_nonneg (x : Int) : 0 ≤ x * x := by
  rcases Int.le_total 0 x with h | h
  · exact Int.mul_nonneg h h
  · have := Int.mul_nonneg (show 0 ≤ -x by omega) (show 0 ≤ -x by omega); rwa [Int.neg_mul_neg] at this
theorem sq_pos {x : Int} (h : x ≠ 0) : 1 ≤ x * x := by
  rcases Int.lt_or_gt_of_ne h with h | h
  · have := Int.mul_le_mul (show 1 ≤ -x by omega) (show 1 ≤ -x by omega) (by omega) (by omega); rw [Int.neg_mul_neg] at this; omega
  · have := Int.mul_le_mul (show 1 ≤ x by omega) (show 1 ≤ x by omega) (by omega) (by omega); omega
/-- Four times the norm of a point of triangles. -/
theorem nrm6' (a : Pt) : 4 * nrm 6 a = (2 * a.1 + a.2) * (2 * a.1 + a.2) + 3 * (a.2 * a.2) := by rw [nrm6]; grind
theorem nrm6'' (a : Pt) : 4 * nrm 6 a = (a.1 + 2 * a.2) * (a.1 + 2 * a.2) + 3 * (a.1 * a.1) := by rw [nrm6]; grind
theorem nrm_nonneg {g : Int} (hg : G g) (a : Pt) : 0 ≤ nrm g a := by
  rcases hg with rfl | rfl
  · rw [nrm4]; have := sq_nonneg a.1; have := sq_nonneg a.2; omega
  · have h := nrm6' a; have := sq_nonneg (2 * a.1 + a.2); have := sq_nonneg a.2; omega
theorem nrm_pos {g : Int} (hg : G g) {a : Pt} (h : a ≠ (0,0)) : 1 ≤ nrm g a := by
  have hne : a.1 ≠ 0 ∨ a.2 ≠ 0 := by
    by_cases h1 : a.1 = 0
    · right; intro h2; exact h (ext2 h1 h2)
    · exact .inl h1
  rcases hg with rfl | rfl
  · rw [nrm4]; have h1 := sq_nonneg a.1; have h2 := sq_nonneg a.2
    rcases hne with h | h <;> have := sq_pos h <;> omega
  · have h1 := sq_nonneg (2 * a.1 + a.2); have h2 := sq_nonneg (a.1 + 2 * a.2)
    have e1 := nrm6' a; have e2 := nrm6'' a
    rcases hne with h | h <;> have := sq_pos h <;> omega
theorem nrm_zero {g : Int} (hg : G g) {a : Pt} (h : nrm g a = 0) : a = (0,0) := Decidable.byContradiction fun hc => by have := nrm_pos hg hc; omega
theorem nrm_conj {g : Int} (hg : G g) (a : Pt) : nrm g (conj g a) = nrm g a := by
  rcases hg with rfl | rfl
  · rw [nrm4, nrm4]; simp [conj, miX, Int.neg_mul_neg]
  · rw [nrm6, nrm6]; simp [conj, miX]; grind
theorem mul_conj {g : Int} (hg : G g) (a : Pt) : mul g a (conj g a) = (nrm g a, 0) := by
  rcases hg with rfl | rfl
  · apply ext2 <;> simp [mul, conj, nrm, tmX, tmY, miX] <;> grind
  · apply ext2 <;> simp [mul, conj, nrm, tmX, tmY, miX] <;> grind
theorem mul_eq_zero {g : Int} (hg : G g) {a b : Pt} (h : mul g a b = (0,0)) : a = (0,0) ∨ b = (0,0) := by
  have e := nrm_mul g a b
  rw [h] at e
  have : nrm g a * nrm g b = 0 := by rw [← e]; simp [nrm, tmX]
  rcases Int.mul_eq_zero.1 this with h | h
  · exact .inl (nrm_zero hg h)
  · exact .inr (nrm_zero hg h)
def Dvd (g : Int) (a b : Pt) : Prop := ∃ q, b = mul g q a
theorem dvd_refl (g : Int) (a : Pt) : Dvd g a a := ⟨(1,0), (one_mul g a).symm⟩
theorem dvd_trans {g : Int} {a b c : Pt} (h : Dvd g a b) (k : Dvd g b c) : Dvd g a c := by
  obtain ⟨p, rfl⟩ := h; obtain ⟨q, rfl⟩ := k; exact ⟨mul g q p, (mul_assoc ..).symm⟩
theorem dvd_zero (g : Int) (a : Pt) : Dvd g a (0,0) := ⟨(0,0), (zero_mul g a).symm⟩
theorem dvd_add {g : Int} {a b c : Pt} (h : Dvd g a b) (k : Dvd g a c) : Dvd g a (add b c) := by
  obtain ⟨p, rfl⟩ := h; obtain ⟨q, rfl⟩ := k; exact ⟨add p q, (add_mul ..).symm⟩
theorem dvd_mul {g : Int} {a b : Pt} (h : Dvd g a b) (c : Pt) : Dvd g a (mul g c b) := by
  obtain ⟨p, rfl⟩ := h; exact ⟨mul g c p, (mul_assoc ..).symm⟩
/-- d is told of a and b: it divides both, and is a sum of multiples of these. -/
structure IsGcd (g : Int) (a b d : Pt) : Prop where
  left : Dvd g d a
  right : Dvd g d b
  comb : ∃ u v, d = add (mul g u a) (mul g v b)
theorem IsGcd.great {g : Int} {a b d c : Pt} (h : IsGcd g a b d) (ha : Dvd g c a) (hb : Dvd g c b) : Dvd g c d := by
  obtain ⟨u, v, e⟩ := h.comb; rw [e]; exact dvd_add (dvd_mul ha u) (dvd_mul hb v)
theorem IsGcd.zero (g : Int) (a : Pt) : IsGcd g a (0,0) a :=
  ⟨dvd_refl g a, dvd_zero g a, (1,0), (0,0), by rw [one_mul, zero_mul]; simp [add]⟩
/-- A step: (a, b) and (b, a - q b) have the same. -/
theorem IsGcd.step {g : Int} {a b q d : Pt} (h : IsGcd g b (sub a (mul g q b)) d) : IsGcd g a b d := by
  obtain ⟨h1, h2, u, v, e⟩ := h
  refine ⟨?_, h1, v, sub u (mul g v q), ?_⟩
  · have := dvd_add h2 (dvd_mul h1 q)
    have e : add (sub a (mul g q b)) (mul g q b) = a := by apply ext2 <;> simp [add, sub]
    rwa [e] at this
  · rw [e]
    rw [sub_mul, mul_assoc, mul_comm g v (sub a (mul g q b)), sub_mul, mul_comm g a v, mul_comm g (mul g q b) v]
    apply ext2 <;> simp only [add, sub] <;> omega
theorem IsGcd.unit {g : Int} {a b d e : Pt} (h : IsGcd g a b d) (h1 : Dvd g d e) (h2 : Dvd g e d) : IsGcd g a b e := by
  refine ⟨dvd_trans h2 h.left, dvd_trans h2 h.right, ?_⟩
  obtain ⟨q, rfl⟩ := h1
  obtain ⟨u, v, k⟩ := h.comb
  refine ⟨mul g q u, mul g q v, ?_⟩
  rw [mul_assoc, mul_assoc, ← mul_add, ← k]
theorem mul_cancel {g : Int} (hg : G g) {a b c : Pt} (h : mul g a c = mul g b c) (hc : c ≠ (0,0)) : a = b := by
  have : mul g (sub a b) c = (0,0) := by rw [sub_mul, h]; simp [sub]
  rcases mul_eq_zero hg this with h | h
  · simp only [sub, Prod.mk.injEq] at h; exact ext2 (by omega) (by omega)
  · exact absurd h hc
theorem unit_of {g : Int} (hg : G g) {u : Pt} (h : nrm g u = 1) : (g = 4 ∧ (u = (1,0) ∨ u = (0,1) ∨ u = (-1,0) ∨ u = (0,-1))) ∨
    (g = 6 ∧ (u = (1,0) ∨ u = (0,1) ∨ u = (-1,1) ∨ u = (-1,0) ∨ u = (0,-1) ∨ u = (1,-1))) := by
  obtain ⟨x, y⟩ := u
  have small : ∀ z : Int, z * z ≤ 1 → -1 ≤ z ∧ z ≤ 1 := by
    intro z hz
    have h1 := sq_nonneg (z - 1); have h2 := sq_nonneg (z + 1)
    constructor
    · refine Decidable.byContradiction fun hc => ?_
      have := Int.mul_le_mul (show 2 ≤ -z by omega) (show 2 ≤ -z by omega) (by omega) (by omega)
      rw [Int.neg_mul_neg] at this; omega
    · refine Decidable.byContradiction fun hc => ?_
      have := Int.mul_le_mul (show 2 ≤ z by omega) (show 2 ≤ z by omega) (by omega) (by omega)
      omega
  rcases hg with rfl | rfl
  · rw [nrm4] at h; simp only at h
    have h1 := sq_nonneg x; have h2 := sq_nonneg y
    have hx := small x (by omega); have hy := small y (by omega)
    left; refine ⟨rfl, ?_⟩
    have hx' : x = -1 ∨ x = 0 ∨ x = 1 := by omega
    have hy' : y = -1 ∨ y = 0 ∨ y = 1 := by omega
    rcases hx' with rfl | rfl | rfl <;> rcases hy' with rfl | rfl | rfl <;> simp_all
  · have h1 := sq_nonneg (2 * x + y); have h2 := sq_nonneg (x + 2 * y)
    have e1 := nrm6' (x, y); have e2 := nrm6'' (x, y)
    simp only at e1 e2
    have h3 := sq_nonneg x; have h4 := sq_nonneg y
    have hx := small x (by omega); have hy := small y (by omega)
    right; refine ⟨rfl, ?_⟩
    rw [nrm6] at h; simp only at h
    have hx' : x = -1 ∨ x = 0 ∨ x = 1 := by omega
    have hy' : y = -1 ∨ y = 0 ∨ y = 1 := by omega
    rcases hx' with rfl | rfl | rfl <;> rcases hy' with rfl | rfl | rfl <;> simp_all
/-- The one of those that differ by turns alone. -/
def Normal (d : Pt) : Prop := d = (0,0) ∨ (0 < d.1 ∧ 0 ≤ d.2)
theorem assoc_unit {g : Int} (hg : G g) {d e : Pt} (h1 : Dvd g d e) (h2 : Dvd g e d) (hd : d ≠ (0,0)) : ∃ u, nrm g u = 1 ∧ e = mul g u d := by
  obtain ⟨u, rfl⟩ := h1
  obtain ⟨v, k⟩ := h2
  rw [← mul_assoc] at k
  have k2 : mul g (1,0) d = mul g (mul g v u) d := by rw [one_mul]; exact k
  have k3 := mul_cancel hg k2 hd
  have k4 := nrm_mul g v u
  rw [← k3] at k4
  have k5 : nrm g (1,0) = 1 := by simp [nrm, tmX, miX]
  rw [k5] at k4
  refine ⟨u, ?_, rfl⟩
  have n1 := nrm_nonneg hg u; have n2 := nrm_nonneg hg v
  refine Int.le_antisymm ?_ ?_
  · refine Decidable.byContradiction fun hc => ?_
    by_cases hv : nrm g v = 0
    · rw [hv] at k4; omega
    · have := Int.mul_le_mul (show 1 ≤ nrm g v by omega) (show 2 ≤ nrm g u by omega) (by omega) (by omega); omega
  · refine Decidable.byContradiction fun hc => ?_
    have : nrm g u = 0 := by omega
    rw [this] at k4; omega
theorem gcd_unique {g : Int} (hg : G g) {a b d e : Pt} (hd : IsGcd g a b d) (he : IsGcd g a b e) (nd : Normal d) (ne : Normal e) : d = e := by
  have h1 : Dvd g d e := he.great hd.left hd.right
  have h2 : Dvd g e d := hd.great he.left he.right
  by_cases hz : d = (0,0)
  · subst hz; obtain ⟨q, rfl⟩ := h1; rw [mul_zero]
  · obtain ⟨u, hu, rfl⟩ := assoc_unit hg h1 h2 hz
    have hd' : 0 < d.1 ∧ 0 ≤ d.2 := by rcases nd with h | h; exact absurd h hz; exact h
    have hez : mul g u d ≠ (0,0) := by
      intro h
      rcases mul_eq_zero hg h with h | h
      · rw [h] at hu; simp [nrm, tmX] at hu
      · exact hz h
    have he' : 0 < (mul g u d).1 ∧ 0 ≤ (mul g u d).2 := by rcases ne with h | h; exact absurd h hez; exact h
    obtain ⟨x, y⟩ := d
    rcases unit_of hg hu with ⟨rfl, h⟩ | ⟨rfl, h⟩
    · rcases h with rfl | rfl | rfl | rfl <;> simp [mul, tmX, tmY] at he' hd' ⊢ <;> omega
    · rcases h with rfl | rfl | rfl | rfl | rfl | rfl <;> simp [mul, tmX, tmY] at he' hd' ⊢ <;> omega
/-- How large the parts of a point are, by its norm. -/
theorem part_bd {g : Int} (hg : G g) {a : Pt} {B : Int} (hB : 0 ≤ B) (h : 4 * nrm g a ≤ 3 * (B * B)) : (-B ≤ a.1 ∧ a.1 ≤ B) ∧ (-B ≤ a.2 ∧ a.2 ≤ B) := by
  have key : ∀ z : Int, z * z ≤ B * B → -B ≤ z ∧ z ≤ B := by
    intro z hz
    constructor
    · refine Decidable.byContradiction fun hc => ?_
      have := Int.mul_le_mul (show B + 1 ≤ -z by omega) (show B + 1 ≤ -z by omega) (by omega) (by omega)
      rw [Int.neg_mul_neg, Int.add_mul, Int.mul_add] at this; omega
    · refine Decidable.byContradiction fun hc => ?_
      have := Int.mul_le_mul (show B + 1 ≤ z by omega) (show B + 1 ≤ z by omega) (by omega) (by omega)
      rw [Int.add_mul, Int.mul_add] at this; omega
  rcases hg with rfl | rfl
  · rw [nrm4] at h
    have h1 := sq_nonneg a.1; have h2 := sq_nonneg a.2; have h3 := sq_nonneg B
    exact ⟨key _ (by omega), key _ (by omega)⟩
  · have h1 := sq_nonneg (2 * a.1 + a.2); have h2 := sq_nonneg (a.1 + 2 * a.2)
    have e1 := nrm6' a; have e2 := nrm6'' a
    exact ⟨key _ (by omega), key _ (by omega)⟩
theorem nrm_bd {g : Int} (hg : G g) {a : Pt} {B : Int} (h1 : -B ≤ a.1 ∧ a.1 ≤ B) (h2 : -B ≤ a.2 ∧ a.2 ≤ B) : nrm g a ≤ 3 * (B * B) := by
  have m1 := mul_bd h1.1 h1.2 h1.1 h1.2
  have m2 := mul_bd h1.1 h1.2 h2.1 h2.2
  have m3 := mul_bd h2.1 h2.2 h2.1 h2.2
  rcases hg with rfl | rfl
  · rw [nrm4]; have := sq_nonneg B; omega
  · rw [nrm6]; omega
end Go.Proofs.Ytnjheiiohfhckaa.Z
