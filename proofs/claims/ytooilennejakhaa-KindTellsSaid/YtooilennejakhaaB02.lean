/- Lemmas and contracts of functions (what each call returns, and that it changes nothing that was there) that the proof of a law of this seat uses; each lemma states its own conditions. -/
import Derived.Test.YtooilennejakhaaB01
namespace Go.Proofs.Ytooilennejakhaa
open Go.RowKit
set_option linter.unusedVariables false
set_option linter.unusedSimpArgs false
theorem tmX_comm (x y a b : Int) : tmX x y a b = tmX a b x y := by simp only [tmX, Int.mul_comm]
theorem tmY_comm (g x y a b : Int) : tmY g x y a b = tmY g a b x y := by
  simp only [tmY]; rw [Int.mul_comm x b, Int.mul_comm y a, Int.mul_comm y b, Int.add_comm (b*x)]
theorem fltE_comm (g x y a b : Int) : fltE g [(x,y),(a,b)] = fltE g [(a,b),(x,y)] := by
  rw [fltE_two, fltE_two]; simp only [and_comm]
theorem TE_comm (g x y a b : Int) : TE g x y a b = TE g a b x y := by simp only [TE, fltE_comm g x y a b, tmX_comm x y a b, tmY_comm g x y a b]
theorem TX_comm (g x y a b : Int) : TX g x y a b = TX g a b x y := by simp only [TX, fltE_comm g x y a b, tmX_comm x y a b, tmY_comm g x y a b]
theorem TY_comm (g x y a b : Int) : TY g x y a b = TY g a b x y := by simp only [TY, fltE_comm g x y a b, tmX_comm x y a b, tmY_comm g x y a b]
def sm (x y : Int) : Prop := -1048576 ≤ x ∧ x ≤ 1048576 ∧ -1048576 ≤ y ∧ y ≤ 1048576
theorem TE_zero {g x y a b : Int} (h : TE g x y a b = 0) : (g = 4 ∨ g = 6) ∧ sm x y ∧ sm a b ∧ sm (tmX x y a b) (tmY g x y a b) ∧ TX g x y a b = tmX x y a b ∧ TY g x y a b = tmY g x y a b := by
  by_cases hf : fltE g [(x,y),(a,b)] = 0
  · obtain ⟨h1, h2, h3⟩ := fltE_two_ok hf
    simp only [TE, hf, if_true] at h
    have hs : smB (tmX x y a b) (tmY g x y a b) = true := by
      unfold tdE at h
      split at h
      · assumption
      · omega
    refine ⟨h1, h2, h3, ?_, by simp [TX, hf, tdX, hs], by simp [TY, hf, tdY, hs]⟩
    simpa [smB, sm] using hs
  · simp [TE, hf] at h
theorem fltE_two_zero {g x y a b : Int} (hg : g = 4 ∨ g = 6) (h1 : sm x y) (h2 : sm a b) : fltE g [(x,y),(a,b)] = 0 := by
  rw [fltE_two]; unfold sm at *; simp [hg, h1, h2]
theorem fltE_one_zero {g x y : Int} (hg : g = 4 ∨ g = 6) (h1 : sm x y) : fltE g [(x,y)] = 0 := by
  rw [fltE_one]; unfold sm at *; simp [hg, h1]
theorem norm_mul (g x y a b : Int) : tmX x y (miX g x y) (-y) * tmX a b (miX g a b) (-b) = tmX (tmX x y a b) (tmY g x y a b) (miX g (tmX x y a b) (tmY g x y a b)) (-(tmY g x y a b)) := by
  by_cases h : g = 6 <;> simp only [tmX, tmY, miX, h, if_true, if_false] <;> grind
theorem tm_assoc (g x y a b c d : Int) : tmX (tmX x y a b) (tmY g x y a b) c d = tmX x y (tmX a b c d) (tmY g a b c d) ∧ tmY g (tmX x y a b) (tmY g x y a b) c d = tmY g x y (tmX a b c d) (tmY g a b c d) := by
  by_cases h : g = 6 <;> simp only [tmX, tmY, h, if_true, if_false] <;> constructor <;> grind
theorem tm_dist (g x y a b c d : Int) : tmX (x + a) (y + b) c d = tmX x y c d + tmX a b c d ∧ tmY g (x + a) (y + b) c d = tmY g x y c d + tmY g a b c d := by
  by_cases h : g = 6 <;> simp only [tmX, tmY, h, if_true, if_false] <;> constructor <;> grind
end Go.Proofs.Ytooilennejakhaa

namespace Go.Proofs.Ytooilennejakhaa.Z
set_option linter.unusedVariables false
set_option linter.unusedSimpArgs false
abbrev Pt := Int × Int
def G (g : Int) : Prop := g = 4 ∨ g = 6
def mul (g : Int) (a b : Pt) : Pt := (tmX a.1 a.2 b.1 b.2, tmY g a.1 a.2 b.1 b.2)
def add (a b : Pt) : Pt := (a.1 + b.1, a.2 + b.2)
def sub (a b : Pt) : Pt := (a.1 - b.1, a.2 - b.2)
def conj (g : Int) (a : Pt) : Pt := (miX g a.1 a.2, -a.2)
def nrm (g : Int) (a : Pt) : Int := tmX a.1 a.2 (miX g a.1 a.2) (-a.2)
theorem ext2 {a b : Pt} (h1 : a.1 = b.1) (h2 : a.2 = b.2) : a = b := by
  obtain ⟨a1, a2⟩ := a; obtain ⟨b1, b2⟩ := b; simp_all
theorem mul_comm (g : Int) (a b : Pt) : mul g a b = mul g b a := ext2 (tmX_comm ..) (tmY_comm ..)
theorem mul_assoc (g : Int) (a b c : Pt) : mul g (mul g a b) c = mul g a (mul g b c) := ext2 (tm_assoc g ..).1 (tm_assoc g ..).2
theorem add_mul (g : Int) (a b c : Pt) : mul g (add a b) c = add (mul g a c) (mul g b c) := ext2 (tm_dist g ..).1 (tm_dist g ..).2
theorem mul_add (g : Int) (a b c : Pt) : mul g c (add a b) = add (mul g c a) (mul g c b) := by rw [mul_comm, add_mul, mul_comm g a, mul_comm g b]
theorem one_mul (g : Int) (a : Pt) : mul g (1,0) a = a := by apply ext2 <;> simp [mul, tmX, tmY]
theorem zero_mul (g : Int) (a : Pt) : mul g (0,0) a = (0,0) := by apply ext2 <;> simp [mul, tmX, tmY]
theorem mul_zero (g : Int) (a : Pt) : mul g a (0,0) = (0,0) := by rw [mul_comm, zero_mul]
theorem sub_mul (g : Int) (a b c : Pt) : mul g (sub a b) c = sub (mul g a c) (mul g b c) := by
  apply ext2
  · simp only [mul, sub, tmX]; grind
  · simp only [mul, sub, tmY]; split <;> grind
theorem nrm_mul (g : Int) (a b : Pt) : nrm g (mul g a b) = nrm g a * nrm g b := (norm_mul g ..).symm
theorem nrm4 (a : Pt) : nrm 4 a = a.1 * a.1 + a.2 * a.2 := by simp [nrm, tmX, miX, Int.mul_neg]
theorem nrm6 (a : Pt) : nrm 6 a = a.1 * a.1 + a.1 * a.2 + a.2 * a.2 := by simp [nrm, tmX, miX, Int.mul_neg, Int.mul_add]
theorem sq_nonneg (x : Int) : 0 ≤ x * x := by
  rcases Int.le_total 0 x with h | h
  · exact Int.mul_nonneg h h
  · have := Int.mul_nonneg (show 0 ≤ -x by omega) (show 0 ≤ -x by omega); rwa [Int.neg_mul_neg] at this
theorem sq_pos {x : Int} (h : x ≠ 0) : 1 ≤ x * x := by
  rcases Int.lt_or_gt_of_ne h with h | h
  · have := Int.mul_le_mul (show 1 ≤ -x by omega) (show 1 ≤ -x by omega) (by omega) (by omega); rw [Int.neg_mul_neg] at this; omega
  · have := Int.mul_le_mul (show 1 ≤ x by omega) (show 1 ≤ x by omega) (by omega) (by omega); omega
/-- Four times the norm of a point of triangles. -/
theorem nrm6' (a : Pt) : 4 * nrm 6 a = (2 * a.1 + a.2) * (2 * a.1 + a.2) + 3 * (a.2 * a.2) := by rw [nrm6]; grind
theorem nrm6'' (a : Pt) : 4 * nrm 6 a = (a.1 + 2 * a.2) * (a.1 + 2 * a.2) + 3 * (a.1 * a.1) := by rw [nrm6]; grind
theorem nrm_nonneg {g : Int} (hg : G g) (a : Pt) : 0 ≤ nrm g a := by
  rcases hg with rfl | rfl
  · rw [nrm4]; have := sq_nonneg a.1; have := sq_nonneg a.2; omega
  · have h := nrm6' a; have := sq_nonneg (2 * a.1 + a.2); have := sq_nonneg a.2; omega
theorem nrm_pos {g : Int} (hg : G g) {a : Pt} (h : a ≠ (0,0)) : 1 ≤ nrm g a := by
  have hne : a.1 ≠ 0 ∨ a.2 ≠ 0 := by
    by_cases h1 : a.1 = 0
    · right; intro h2; exact h (ext2 h1 h2)
    · exact .inl h1
  rcases hg with rfl | rfl
  · rw [nrm4]; have h1 := sq_nonneg a.1; have h2 := sq_nonneg a.2
    rcases hne with h | h <;> have := sq_pos h <;> omega
  · have h1 := sq_nonneg (2 * a.1 + a.2); have h2 := sq_nonneg (a.1 + 2 * a.2)
    have e1 := nrm6' a; have e2 := nrm6'' a
    rcases hne with h | h <;> have := sq_pos h <;> omega
theorem nrm_zero {g : Int} (hg : G g) {a : Pt} (h : nrm g a = 0) : a = (0,0) := Decidable.byContradiction fun hc => by have := nrm_pos hg hc; omega
theorem nrm_conj {g : Int} (hg : G g) (a : Pt) : nrm g (conj g a) = nrm g a := by
  rcases hg with rfl | rfl
  · rw [nrm4, nrm4]; simp [conj, miX, Int.neg_mul_neg]
  · rw [nrm6, nrm6]; simp [conj, miX]; grind
theorem mul_conj {g : Int} (hg : G g) (a : Pt) : mul g a (conj g a) = (nrm g a, 0) := by
  rcases hg with rfl | rfl
  · apply ext2 <;> simp [mul, conj, nrm, tmX, tmY, miX] <;> grind
  · apply ext2 <;> simp [mul, conj, nrm, tmX, tmY, miX] <;> grind
theorem mul_eq_zero {g : Int} (hg : G g) {a b : Pt} (h : mul g a b = (0,0)) : a = (0,0) ∨ b = (0,0) := by
  have e := nrm_mul g a b
  rw [h] at e
  have : nrm g a * nrm g b = 0 := by rw [← e]; simp [nrm, tmX]
  rcases Int.mul_eq_zero.1 this with h | h
  · exact .inl (nrm_zero hg h)
  · exact .inr (nrm_zero hg h)
def Dvd (g : Int) (a b : Pt) : Prop := ∃ q, b = mul g q a
theorem dvd_refl (g : Int) (a : Pt) : Dvd g a a := ⟨(1,0), (one_mul g a).symm⟩
theorem dvd_trans {g : Int} {a b c : Pt} (h : Dvd g a b) (k : Dvd g b c) : Dvd g a c := by
  obtain ⟨p, rfl⟩ := h; obtain ⟨q, rfl⟩ := k; exact ⟨mul g q p, (mul_assoc ..).symm⟩
theorem dvd_zero (g : Int) (a : Pt) : Dvd g a (0,0) := ⟨(0,0), (zero_mul g a).symm⟩
theorem dvd_add {g : Int} {a b c : Pt} (h : Dvd g a b) (k : Dvd g a c) : Dvd g a (add b c) := by
  obtain ⟨p, rfl⟩ := h; obtain ⟨q, rfl⟩ := k; exact ⟨add p q, (add_mul ..).symm⟩
theorem dvd_mul {g : Int} {a b : Pt} (h : Dvd g a b) (c : Pt) : Dvd g a (mul g c b) := by
  obtain ⟨p, rfl⟩ := h; exact ⟨mul g c p, (mul_assoc ..).symm⟩
/-- d is told of a and b: it divides both, and is a sum of multiples of these. -/
structure IsGcd (g : Int) (a b d : Pt) : Prop where
  left : Dvd g d a
  right : Dvd g d b
  comb : ∃ u v, d = add (mul g u a) (mul g v b)
theorem IsGcd.great {g : Int} {a b d c : Pt} (h : IsGcd g a b d) (ha : Dvd g c a) (hb : Dvd g c b) : Dvd g c d := by
  obtain ⟨u, v, e⟩ := h.comb; rw [e]; exact dvd_add (dvd_mul ha u) (dvd_mul hb v)
theorem IsGcd.zero (g : Int) (a : Pt) : IsGcd g a (0,0) a :=
  ⟨dvd_refl g a, dvd_zero g a, (1,0), (0,0), by rw [one_mul, zero_mul]; simp [add]⟩
/-- A step: (a, b) and (b, a - q b) have the same. -/
theorem IsGcd.step {g : Int} {a b q d : Pt} (h : IsGcd g b (sub a (mul g q b)) d) : IsGcd g a b d := by
  obtain ⟨h1, h2, u, v, e⟩ := h
  refine ⟨?_, h1, v, sub u (mul g v q), ?_⟩
  · have := dvd_add h2 (dvd_mul h1 q)
    have e : add (sub a (mul g q b)) (mul g q b) = a := by apply ext2 <;> simp [add, sub]
    rwa [e] at this
  · rw [e]
    rw [sub_mul, mul_assoc, mul_comm g v (sub a (mul g q b)), sub_mul, mul_comm g a v, mul_comm g (mul g q b) v]
    apply ext2 <;> simp only [add, sub] <;> omega
theorem IsGcd.unit {g : Int} {a b d e : Pt} (h : IsGcd g a b d) (h1 : Dvd g d e) (h2 : Dvd g e d) : IsGcd g a b e := by
  refine ⟨dvd_trans h2 h.left, dvd_trans h2 h.right, ?_⟩
  obtain ⟨q, rfl⟩ := h1
  obtain ⟨u, v, k⟩ := h.comb
  refine ⟨mul g q u, mul g q v, ?_⟩
  rw [mul_assoc, mul_assoc, ← mul_add, ← k]
theorem mul_cancel {g : Int} (hg : G g) {a b c : Pt} (h : mul g a c = mul g b c) (hc : c ≠ (0,0)) : a = b := by
  have : mul g (sub a b) c = (0,0) := by rw [sub_mul, h]; simp [sub]
  rcases mul_eq_zero hg this with h | h
  · simp only [sub, Prod.mk.injEq] at h; exact ext2 (by omega) (by omega)
  · exact absurd h hc
theorem unit_of {g : Int} (hg : G g) {u : Pt} (h : nrm g u = 1) : (g = 4 ∧ (u = (1,0) ∨ u = (0,1) ∨ u = (-1,0) ∨ u = (0,-1))) ∨
    (g = 6 ∧ (u = (1,0) ∨ u = (0,1) ∨ u = (-1,1) ∨ u = (-1,0) ∨ u = (0,-1) ∨ u = (1,-1))) := by
  obtain ⟨x, y⟩ := u
  have small : ∀ z : Int, z * z ≤ 1 → -1 ≤ z ∧ z ≤ 1 := by
    intro z hz
    have h1 := sq_nonneg (z - 1); have h2 := sq_nonneg (z + 1)
    constructor
    · refine Decidable.byContradiction fun hc => ?_
      have := Int.mul_le_mul (show 2 ≤ -z by omega) (show 2 ≤ -z by omega) (by omega) (by omega)
      rw [Int.neg_mul_neg] at this; omega
    · refine Decidable.byContradiction fun hc => ?_
      have := Int.mul_le_mul (show 2 ≤ z by omega) (show 2 ≤ z by omega) (by omega) (by omega)
      omega
  rcases hg with rfl | rfl
  · rw [nrm4] at h; simp only at h
    have h1 := sq_nonneg x; have h2 := sq_nonneg y
    have hx := small x (by omega); have hy := small y (by omega)
    left; refine ⟨rfl, ?_⟩
    have hx' : x = -1 ∨ x = 0 ∨ x = 1 := by omega
    have hy' : y = -1 ∨ y = 0 ∨ y = 1 := by omega
    rcases hx' with rfl | rfl | rfl <;> rcases hy' with rfl | rfl | rfl <;> simp_all
  · have h1 := sq_nonneg (2 * x + y); have h2 := sq_nonneg (x + 2 * y)
    have e1 := nrm6' (x, y); have e2 := nrm6'' (x, y)
    simp only at e1 e2
    have h3 := sq_nonneg x; have h4 := sq_nonneg y
    have hx := small x (by omega); have hy := small y (by omega)
    right; refine ⟨rfl, ?_⟩
    rw [nrm6] at h; simp only at h
    have hx' : x = -1 ∨ x = 0 ∨ x = 1 := by omega
    have hy' : y = -1 ∨ y = 0 ∨ y = 1 := by omega
    rcases hx' with rfl | rfl | rfl <;> rcases hy' with rfl | rfl | rfl <;> simp_all
/-- The one of those that differ by turns alone. -/
def Normal (d : Pt) : Prop := d = (0,0) ∨ (0 < d.1 ∧ 0 ≤ d.2)
theorem assoc_unit {g : Int} (hg : G g) {d e : Pt} (h1 : Dvd g d e) (h2 : Dvd g e d) (hd : d ≠ (0,0)) : ∃ u, nrm g u = 1 ∧ e = mul g u d := by
  obtain ⟨u, rfl⟩ := h1
  obtain ⟨v, k⟩ := h2
  rw [← mul_assoc] at k
  have k2 : mul g (1,0) d = mul g (mul g v u) d := by rw [one_mul]; exact k
  have k3 := mul_cancel hg k2 hd
  have k4 := nrm_mul g v u
  rw [← k3] at k4
  have k5 : nrm g (1,0) = 1 := by simp [nrm, tmX, miX]
  rw [k5] at k4
  refine ⟨u, ?_, rfl⟩
  have n1 := nrm_nonneg hg u; have n2 := nrm_nonneg hg v
  refine Int.le_antisymm ?_ ?_
  · refine Decidable.byContradiction fun hc => ?_
    by_cases hv : nrm g v = 0
    · rw [hv] at k4; omega
    · have := Int.mul_le_mul (show 1 ≤ nrm g v by omega) (show 2 ≤ nrm g u by omega) (by omega) (by omega); omega
  · refine Decidable.byContradiction fun hc => ?_
    have : nrm g u = 0 := by omega
    rw [this] at k4; omega
theorem gcd_unique {g : Int} (hg : G g) {a b d e : Pt} (hd : IsGcd g a b d) (he : IsGcd g a b e) (nd : Normal d) (ne : Normal e) : d = e := by
  have h1 : Dvd g d e := he.great hd.left hd.right
  have h2 : Dvd g e d := hd.great he.left he.right
  by_cases hz : d = (0,0)
  · subst hz; obtain ⟨q, rfl⟩ := h1; rw [mul_zero]
  · obtain ⟨u, hu, rfl⟩ := assoc_unit hg h1 h2 hz
    have hd' : 0 < d.1 ∧ 0 ≤ d.2 := by rcases nd with h | h; exact absurd h hz; exact h
    have hez : mul g u d ≠ (0,0) := by
      intro h
      rcases mul_eq_zero hg h with h | h
      · rw [h] at hu; simp [nrm, tmX] at hu
      · exact hz h
    have he' : 0 < (mul g u d).1 ∧ 0 ≤ (mul g u d).2 := by rcases ne with h | h; exact absurd h hez; exact h
    obtain ⟨x, y⟩ := d
    rcases unit_of hg hu with ⟨rfl, h⟩ | ⟨rfl, h⟩
    · rcases h with rfl | rfl | rfl | rfl <;> simp [mul, tmX, tmY] at he' hd' ⊢ <;> omega
    · rcases h with rfl | rfl | rfl | rfl | rfl | rfl <;> simp [mul, tmX, tmY] at he' hd' ⊢ <;> omega
/-- How large the parts of a point are, by its norm. -/
theorem part_bd {g : Int} (hg : G g) {a : Pt} {B : Int} (hB : 0 ≤ B) (h : 4 * nrm g a ≤ 3 * (B * B)) : (-B ≤ a.1 ∧ a.1 ≤ B) ∧ (-B ≤ a.2 ∧ a.2 ≤ B) := by
  have key : ∀ z : Int, z * z ≤ B * B → -B ≤ z ∧ z ≤ B := by
    intro z hz
    constructor
    · refine Decidable.byContradiction fun hc => ?_
      have := Int.mul_le_mul (show B + 1 ≤ -z by omega) (show B + 1 ≤ -z by omega) (by omega) (by omega)
      rw [Int.neg_mul_neg, Int.add_mul, Int.mul_add] at this; omega
    · refine Decidable.byContradiction fun hc => ?_
      have := Int.mul_le_mul (show B + 1 ≤ z by omega) (show B + 1 ≤ z by omega) (by omega) (by omega)
      rw [Int.add_mul, Int.mul_add] at this; omega
  rcases hg with rfl | rfl
  · rw [nrm4] at h
    have h1 := sq_nonneg a.1; have h2 := sq_nonneg a.2; have h3 := sq_nonneg B
    exact ⟨key _ (by omega), key _ (by omega)⟩
  · have h1 := sq_nonneg (2 * a.1 + a.2); have h2 := sq_nonneg (a.1 + 2 * a.2)
    have e1 := nrm6' a; have e2 := nrm6'' a
    exact ⟨key _ (by omega), key _ (by omega)⟩
theorem nrm_bd {g : Int} (hg : G g) {a : Pt} {B : Int} (h1 : -B ≤ a.1 ∧ a.1 ≤ B) (h2 : -B ≤ a.2 ∧ a.2 ≤ B) : nrm g a ≤ 3 * (B * B) := by
  have m1 := mul_bd h1.1 h1.2 h1.1 h1.2
  have m2 := mul_bd h1.1 h1.2 h2.1 h2.2
  have m3 := mul_bd h2.1 h2.2 h2.1 h2.2
  rcases hg with rfl | rfl
  · rw [nrm4]; have := sq_nonneg B; omega
  · rw [nrm6]; omega
end Go.Proofs.Ytooilennejakhaa.Z

namespace Go.Proofs.Ytooilennejakhaa.Z
set_option linter.unusedVariables false
set_option linter.unusedSimpArgs false
def near (a b : Int) : Int := (2 * a + b) / (2 * b)
theorem near_bd (a b : Int) (hb : 0 < b) : -b ≤ 2 * (a - b * near a b) ∧ 2 * (a - b * near a b) ≤ b := by
  unfold near
  have h1 := Int.emod_nonneg (2 * a + b) (show 2 * b ≠ 0 by omega)
  have h2 := Int.emod_lt_of_pos (2 * a + b) (show 0 < 2 * b by omega)
  have h3 := Int.mul_ediv_add_emod (2 * a + b) (2 * b)
  generalize (2 * a + b) / (2 * b) = q at *
  have h4 : 2 * b * q = 2 * (b * q) := by rw [Int.mul_assoc]
  omega
def over (g : Int) (a b : Pt) : Pt := (near (mul g a (conj g b)).1 (nrm g b), near (mul g a (conj g b)).2 (nrm g b))
def rem (g : Int) (a b : Pt) : Pt := sub a (mul g (over g a b) b)
theorem rem_lt {g : Int} (hg : G g) {a b : Pt} (hb : b ≠ (0,0)) : 4 * nrm g (rem g a b) ≤ 3 * nrm g b := by
  have hn := nrm_pos hg hb
  have e : mul g (rem g a b) (conj g b) = sub (mul g a (conj g b)) (mul g (over g a b) (nrm g b, 0)) := by
    unfold rem; rw [sub_mul, mul_assoc, mul_conj hg]
  have e2 := nrm_mul g (rem g a b) (conj g b)
  rw [nrm_conj hg, e] at e2
  generalize hz : mul g a (conj g b) = z at *
  have b1 := near_bd z.1 (nrm g b) (by omega)
  have b2 := near_bd z.2 (nrm g b) (by omega)
  have e3 : sub z (mul g (over g a b) (nrm g b, 0)) = (z.1 - nrm g b * near z.1 (nrm g b), z.2 - nrm g b * near z.2 (nrm g b)) := by
    unfold over; rw [hz]
    apply ext2
    · simp [sub, mul, tmX, Int.mul_comm]
    · simp [sub, mul, tmY, Int.mul_comm]
  rw [e3] at e2
  generalize hn' : nrm g b = n at *
  generalize z.1 - n * near z.1 n = x at *
  generalize z.2 - n * near z.2 n = y at *
  have h1 := nrm_bd hg (a := (2 * x, 2 * y)) (B := n) (by omega) (by omega)
  have h2 : nrm g (2 * x, 2 * y) = 4 * nrm g (x, y) := by
    rcases hg with rfl | rfl
    · rw [nrm4, nrm4]; simp only; grind
    · rw [nrm6, nrm6]; simp only; grind
  have h3 : (4 * nrm g (rem g a b)) * n ≤ (3 * n) * n := by rw [Int.mul_assoc, ← e2, Int.mul_assoc]; omega
  exact Int.le_of_mul_le_mul_right h3 (by omega)
def bil (g : Int) (a b : Pt) : Int := if g = 4 then 2 * (a.1 * b.1 + a.2 * b.2) else 2 * (a.1 * b.1) + a.1 * b.2 + a.2 * b.1 + 2 * (a.2 * b.2)
theorem nrm_add {g : Int} (hg : G g) (a b : Pt) : nrm g (add a b) = nrm g a + bil g a b + nrm g b := by
  rcases hg with rfl | rfl
  · rw [nrm4, nrm4, nrm4]; simp only [add, bil, if_true]; grind
  · rw [nrm6, nrm6, nrm6]; simp [add, bil]; grind
def turn (g : Int) (p : Pt) : Pt := (-p.2, if g = 4 then p.1 else p.1 + p.2)
def tn (g : Int) : Nat → Pt → Pt
  | 0, p => p
  | k + 1, p => turn g (tn g k p)
theorem turn_mul {g : Int} (hg : G g) (p : Pt) : turn g p = mul g (0,1) p := by
  rcases hg with rfl | rfl <;> apply ext2 <;> simp [turn, mul, tmX, tmY]
theorem nrm_turn {g : Int} (hg : G g) (p : Pt) : nrm g (turn g p) = nrm g p := by
  rw [turn_mul hg, nrm_mul]
  rcases hg with rfl | rfl <;> simp [nrm, tmX, miX]
theorem nrm_tn {g : Int} (hg : G g) (k : Nat) (p : Pt) : nrm g (tn g k p) = nrm g p := by
  induction k with
  | zero => rfl
  | succ k ih => rw [tn, nrm_turn hg, ih]
theorem dvd_tn {g : Int} (hg : G g) (k : Nat) (p : Pt) : Dvd g p (tn g k p) := by
  induction k with
  | zero => exact dvd_refl g p
  | succ k ih => rw [tn, turn_mul hg]; exact dvd_mul ih _
theorem turn_zero (g : Int) : turn g (0,0) = (0,0) := by simp [turn]
theorem sq_le {x n : Int} (h : -n ≤ x ∧ x ≤ n) : x * x ≤ n * n := by
  have := mul_bd h.1 h.2 h.1 h.2; omega
/-- Where no turn of b makes a shorter, a is shorter than b. -/
theorem rest_lt {g : Int} (hg : G g) {a b : Pt} (hb : b ≠ (0,0)) (h : ∀ k : Nat, (k : Int) < g → nrm g a ≤ nrm g (add a (tn g k b))) : 2 * nrm g a ≤ nrm g b := by
  have hn := nrm_pos hg hb
  have h' : ∀ k : Nat, (k : Int) < g → -nrm g b ≤ bil g a (tn g k b) := by
    intro k hk; have := h k hk; rw [nrm_add hg, nrm_tn hg] at this; omega
  rcases hg with rfl | rfl
  · have k0 := h' 0 (by omega); have k1 := h' 1 (by omega); have k2 := h' 2 (by omega); have k3 := h' 3 (by omega)
    have e2 : bil 4 a (tn 4 2 b) = - bil 4 a b := by simp [bil, tn, turn, Int.mul_neg]; omega
    have e3 : bil 4 a (tn 4 3 b) = - bil 4 a (tn 4 1 b) := by simp [bil, tn, turn, Int.mul_neg]; omega
    have id : 4 * (nrm 4 a * nrm 4 b) = bil 4 a b * bil 4 a b + bil 4 a (tn 4 1 b) * bil 4 a (tn 4 1 b) := by rw [nrm4, nrm4]; simp [bil, tn, turn]; grind
    rw [e2] at k2; rw [e3] at k3
    have s1 := sq_le (x := bil 4 a b) (n := nrm 4 b) ⟨k0, by omega⟩
    have s2 := sq_le (x := bil 4 a (tn 4 1 b)) (n := nrm 4 b) ⟨k1, by omega⟩
    have h3 : (2 * nrm 4 a) * nrm 4 b ≤ nrm 4 b * nrm 4 b := by rw [Int.mul_assoc]; omega
    exact Int.le_of_mul_le_mul_right h3 (by omega)
  · have k0 := h' 0 (by omega); have k1 := h' 1 (by omega); have k2 := h' 2 (by omega); have k3 := h' 3 (by omega); have k4 := h' 4 (by omega); have k5 := h' 5 (by omega)
    have e2 : bil 6 a (tn 6 2 b) = bil 6 a (tn 6 1 b) - bil 6 a b := by simp [bil, tn, turn]; grind
    have e3 : bil 6 a (tn 6 3 b) = - bil 6 a b := by simp [bil, tn, turn]; grind
    have e4 : bil 6 a (tn 6 4 b) = - bil 6 a (tn 6 1 b) := by simp [bil, tn, turn]; grind
    have e5 : bil 6 a (tn 6 5 b) = - (bil 6 a (tn 6 1 b) - bil 6 a b) := by simp [bil, tn, turn]; grind
    have id : 6 * (nrm 6 a * nrm 6 b) = bil 6 a b * bil 6 a b + bil 6 a (tn 6 1 b) * bil 6 a (tn 6 1 b) + (bil 6 a (tn 6 1 b) - bil 6 a b) * (bil 6 a (tn 6 1 b) - bil 6 a b) := by rw [nrm6, nrm6]; simp [bil, tn, turn]; grind
    rw [e2] at k2; rw [e3] at k3; rw [e4] at k4; rw [e5] at k5
    have s1 := sq_le (x := bil 6 a b) (n := nrm 6 b) ⟨k0, by omega⟩
    have s2 := sq_le (x := bil 6 a (tn 6 1 b)) (n := nrm 6 b) ⟨k1, by omega⟩
    have s3 := sq_le (x := bil 6 a (tn 6 1 b) - bil 6 a b) (n := nrm 6 b) ⟨k2, by omega⟩
    have h3 : (2 * nrm 6 a) * nrm 6 b ≤ nrm 6 b * nrm 6 b := by rw [Int.mul_assoc]; omega
    exact Int.le_of_mul_le_mul_right h3 (by omega)
/-- How many turns it is at most to the first corner. -/
def rank (g : Int) (p : Pt) : Nat :=
  if g = 4 then (if 0 < p.1 ∧ 0 ≤ p.2 then 0 else if 0 ≤ p.1 ∧ p.2 < 0 then 1 else if p.1 < 0 ∧ p.2 ≤ 0 then 2 else 3)
  else (if 0 < p.1 ∧ 0 ≤ p.2 then 0 else if p.2 < 0 ∧ 0 ≤ p.1 + p.2 then 1 else if 0 ≤ p.1 ∧ p.1 + p.2 < 0 then 2 else if p.1 < 0 ∧ p.2 ≤ 0 then 3 else if 0 < p.2 ∧ p.1 + p.2 ≤ 0 then 4 else 5)
theorem rank_turn {g : Int} (hg : G g) {p : Pt} (h0 : p ≠ (0,0)) (hn : ¬ (0 < p.1 ∧ 0 ≤ p.2)) : rank g (turn g p) < rank g p := by
  obtain ⟨x, y⟩ := p
  have hne : x ≠ 0 ∨ y ≠ 0 := by
    by_cases h1 : x = 0
    · right; intro h2; exact h0 (by rw [h1, h2])
    · exact .inl h1
  rcases hg with rfl | rfl
  · simp only [rank, turn, if_true] at *
    (repeat' split) <;> omega
  · simp only [rank, turn] at *
    simp only [show ¬ ((6:Int) = 4) by omega, if_false] at *
    (repeat' split) <;> omega
theorem rank_le (g : Int) (p : Pt) : rank g p ≤ 5 := by
  unfold rank; (repeat' split) <;> omega
theorem nrm_sub_le {g : Int} (hg : G g) (a r : Pt) : nrm g (sub a r) ≤ 2 * nrm g a + 2 * nrm g r := by
  have h := nrm_nonneg hg (add a r)
  have e : nrm g (sub a r) + nrm g (add a r) = 2 * nrm g a + 2 * nrm g r := by
    rcases hg with rfl | rfl
    · simp only [nrm4, sub, add]; grind
    · simp only [nrm6, sub, add]; grind
  omega
theorem over_bd {g : Int} (hg : G g) {a b : Pt} (hb : b ≠ (0,0)) {N : Int} (ha : nrm g a ≤ N) : nrm g (over g a b) ≤ 2 * N + 2 := by
  have hn := nrm_pos hg hb
  have hr := rem_lt hg (a := a) hb
  have hs := nrm_sub_le hg a (rem g a b)
  have e : sub a (rem g a b) = mul g (over g a b) b := by apply ext2 <;> simp [sub, rem] <;> omega
  rw [e, nrm_mul] at hs
  have ha0 := nrm_nonneg hg a
  have h2 : nrm g (over g a b) * nrm g b ≤ (2 * N + 2) * nrm g b := by
    have : 2 * N * 1 ≤ 2 * N * nrm g b := Int.mul_le_mul_of_nonneg_left hn (by omega)
    rw [Int.add_mul]; omega
  exact Int.le_of_mul_le_mul_right h2 (by omega)
end Go.Proofs.Ytooilennejakhaa.Z

namespace Go.Proofs.Ytooilennejakhaa.Z
set_option linter.unusedVariables false
set_option linter.unusedSimpArgs false
structure Mv where
  t : Nat
  f : Bool
  o : Pt
deriving DecidableEq
def mir (g : Int) (f : Bool) (z : Pt) : Pt := if f then conj g z else z
def lin (g : Int) (t : Nat) (f : Bool) (z : Pt) : Pt := tn g t (mir g f z)
def To (g : Int) (m : Mv) (z : Pt) : Pt := add (lin g m.t m.f z) m.o
def idm : Mv := ⟨0, false, (0,0)⟩
def bothT (g : Int) (f h : Mv) : Nat := if f.f then (f.t + (g.toNat - h.t)) % g.toNat else (f.t + h.t) % g.toNat
def both (g : Int) (f h : Mv) : Mv := ⟨bothT g f h, f.f ^^ h.f, To g f h.o⟩
def okT (g : Int) (m : Mv) : Prop := m.t < g.toNat
theorem tn_add (g : Int) (a b : Nat) (p : Pt) : tn g (a + b) p = tn g a (tn g b p) := by
  induction a with
  | zero => simp [tn]
  | succ a ih => rw [show a + 1 + b = (a + b) + 1 by omega, tn, tn, ih]
theorem tn_full {g : Int} (hg : G g) (p : Pt) : tn g g.toNat p = p := by
  rcases hg with rfl | rfl
  · apply ext2 <;> simp [tn, turn]
  · apply ext2 <;> simp [tn, turn] <;> omega
theorem tn_full_mul {g : Int} (hg : G g) (k : Nat) (p : Pt) : tn g (g.toNat * k) p = p := by
  induction k with
  | zero => rfl
  | succ k ih => rw [Nat.mul_succ, tn_add, tn_full hg, ih]
theorem tn_mod {g : Int} (hg : G g) (k : Nat) (p : Pt) : tn g (k % g.toNat) p = tn g k p := by
  have h := Nat.div_add_mod k g.toNat
  conv => rhs; rw [← h, tn_add, tn_full_mul hg]
theorem conj_conj (g : Int) (p : Pt) : conj g (conj g p) = p := by
  apply ext2 <;> simp [conj, miX] <;> split <;> omega
theorem turn_conj {g : Int} (hg : G g) (p : Pt) : turn g (conj g (turn g p)) = conj g p := by
  rcases hg with rfl | rfl <;> apply ext2 <;> simp [turn, conj, miX] <;> omega
theorem tn_conj {g : Int} (hg : G g) (k : Nat) (p : Pt) : tn g k (conj g (tn g k p)) = conj g p := by
  induction k with
  | zero => rfl
  | succ k ih => rw [Nat.add_comm k 1, tn_add, Nat.add_comm 1 k]; show tn g 1 (tn g k (conj g (turn g (tn g k p)))) = _; rw [← tn_add, Nat.add_comm 1 k, tn_add]; show tn g k (turn g (conj g (turn g (tn g k p)))) = _; rw [turn_conj hg, ih]
theorem conj_tn {g : Int} (hg : G g) {k : Nat} (hk : k ≤ g.toNat) (p : Pt) : conj g (tn g k p) = tn g (g.toNat - k) (conj g p) := by
  have h := tn_conj hg k p
  rw [← h, ← tn_add, Nat.sub_add_cancel hk, tn_full hg]
theorem conj_add (g : Int) (a b : Pt) : conj g (add a b) = add (conj g a) (conj g b) := by
  apply ext2 <;> simp [conj, add, miX] <;> (try split) <;> omega
theorem turn_add (g : Int) (a b : Pt) : turn g (add a b) = add (turn g a) (turn g b) := by
  apply ext2 <;> simp [turn, add] <;> (try split) <;> omega
theorem tn_addp (g : Int) (k : Nat) (a b : Pt) : tn g k (add a b) = add (tn g k a) (tn g k b) := by
  induction k with
  | zero => rfl
  | succ k ih => rw [tn, ih, turn_add]; rfl
theorem lin_add (g : Int) (t : Nat) (f : Bool) (a b : Pt) : lin g t f (add a b) = add (lin g t f a) (lin g t f b) := by
  cases f
  · exact tn_addp g t a b
  · simp only [lin, mir, if_true]; rw [conj_add, tn_addp]
theorem lin_both {g : Int} (hg : G g) {f h : Mv} (hh : okT g h) (z : Pt) : lin g (bothT g f h) (f.f ^^ h.f) z = lin g f.t f.f (lin g h.t h.f z) := by
  unfold okT at hh
  cases e1 : f.f <;> cases e2 : h.f <;> simp only [lin, mir, bothT, e1, e2, if_true, if_false, Bool.false_eq_true, Bool.xor_false, Bool.xor_true, Bool.not_true, Bool.not_false]
  · rw [tn_mod hg, tn_add]
  · rw [tn_mod hg, tn_add]
  · rw [tn_mod hg, tn_add, conj_tn hg (by omega)]
  · rw [tn_mod hg, tn_add, conj_tn hg (by omega), conj_conj]
theorem add_assoc (a b c : Pt) : add (add a b) c = add a (add b c) := by apply ext2 <;> simp [add] <;> omega
theorem To_both {g : Int} (hg : G g) {f h : Mv} (hh : okT g h) (z : Pt) : To g (both g f h) z = To g f (To g h z) := by
  simp only [To, both]
  rw [lin_both hg hh, lin_add, add_assoc]
theorem both_ok {g : Int} (hg : G g) (f h : Mv) : okT g (both g f h) := by
  have : 0 < g.toNat := by rcases hg with rfl | rfl <;> decide
  unfold okT both bothT
  simp only
  split <;> exact Nat.mod_lt _ this
theorem lin_inj4 : ∀ (t1 t2 : Fin 4) (f1 f2 : Bool), lin 4 t1 f1 (1,0) = lin 4 t2 f2 (1,0) → lin 4 t1 f1 (0,1) = lin 4 t2 f2 (0,1) → t1 = t2 ∧ f1 = f2 := by decide +kernel
theorem lin_inj6 : ∀ (t1 t2 : Fin 6) (f1 f2 : Bool), lin 6 t1 f1 (1,0) = lin 6 t2 f2 (1,0) → lin 6 t1 f1 (0,1) = lin 6 t2 f2 (0,1) → t1 = t2 ∧ f1 = f2 := by decide +kernel
theorem lin_inj {g : Int} (hg : G g) {t1 t2 : Nat} {f1 f2 : Bool} (h1 : t1 < g.toNat) (h2 : t2 < g.toNat) (e1 : lin g t1 f1 (1,0) = lin g t2 f2 (1,0)) (e2 : lin g t1 f1 (0,1) = lin g t2 f2 (0,1)) : t1 = t2 ∧ f1 = f2 := by
  rcases hg with rfl | rfl
  · have := lin_inj4 ⟨t1, h1⟩ ⟨t2, h2⟩ f1 f2 e1 e2; simpa using this
  · have := lin_inj6 ⟨t1, h1⟩ ⟨t2, h2⟩ f1 f2 e1 e2; simpa using this
theorem add_cancel {a b c : Pt} (h : add a c = add b c) : a = b := by
  simp only [add, Prod.mk.injEq] at h
  exact ext2 (by omega) (by omega)
theorem tn_zero (g : Int) (k : Nat) : tn g k (0,0) = (0,0) := by
  induction k with
  | zero => rfl
  | succ k ih => rw [tn, ih, turn_zero]
theorem lin_zero (g : Int) (t : Nat) (f : Bool) : lin g t f (0,0) = (0,0) := by
  have e : mir g f (0,0) = (0,0) := by cases f <;> simp [mir, conj, miX]
  rw [lin, e, tn_zero]
theorem To_zero (g : Int) (m : Mv) : To g m (0,0) = m.o := by rw [To, lin_zero]; simp [add]
theorem ext_maps {g : Int} (hg : G g) {m n : Mv} (hm : okT g m) (hn : okT g n) (h : ∀ z, To g m z = To g n z) : m = n := by
  have h0 := h (0,0)
  rw [To_zero, To_zero] at h0
  have h1 := h (1,0)
  have h2 := h (0,1)
  simp only [To, h0] at h1 h2
  obtain ⟨e1, e2⟩ := lin_inj hg hm hn (add_cancel h1) (add_cancel h2)
  cases m; cases n; simp_all
theorem both_assoc {g : Int} (hg : G g) {f h k : Mv} (hh : okT g h) (hk : okT g k) : both g (both g f h) k = both g f (both g h k) :=
  ext_maps hg (both_ok hg _ _) (both_ok hg _ _) fun z => by rw [To_both hg hk, To_both hg hh, To_both hg (both_ok hg _ _), To_both hg hk]
def neg (p : Pt) : Pt := (-p.1, -p.2)
def invT (g : Int) (f : Mv) : Nat := if f.f then f.t else (g.toNat - f.t) % g.toNat
def inv (g : Int) (f : Mv) : Mv := ⟨invT g f, f.f, neg (lin g (invT g f) f.f f.o)⟩
theorem inv_ok {g : Int} (hg : G g) {f : Mv} (hf : okT g f) : okT g (inv g f) := by
  have : 0 < g.toNat := by rcases hg with rfl | rfl <;> decide
  unfold okT inv invT at *
  simp only
  split
  · exact hf
  · exact Nat.mod_lt _ this
theorem neg_eq (g : Int) (p : Pt) : add p (neg p) = (0,0) ∧ add (neg p) p = (0,0) := by
  constructor <;> apply ext2 <;> simp [add, neg] <;> omega
theorem bothT_inv {g : Int} (hg : G g) {f : Mv} (hf : okT g f) : bothT g (inv g f) f = 0 ∧ bothT g f (inv g f) = 0 := by
  unfold okT at hf
  have hm : ∀ a, a < g.toNat → ((g.toNat - a) % g.toNat + a) % g.toNat = 0 := by
    intro a ha
    rw [Nat.mod_add_mod, Nat.sub_add_cancel (by omega), Nat.mod_self]
  have hm2 : ∀ a, a < g.toNat → (a + (g.toNat - a)) % g.toNat = 0 := by
    intro a ha
    rw [show a + (g.toNat - a) = g.toNat by omega, Nat.mod_self]
  cases e : f.f
  · simp only [bothT, inv, invT, e, Bool.false_eq_true, if_false]
    exact ⟨hm _ hf, by rw [Nat.add_comm]; exact hm _ hf⟩
  · simp only [bothT, inv, invT, e, if_true]
    exact ⟨hm2 _ hf, hm2 _ hf⟩
theorem both_inv {g : Int} (hg : G g) {f : Mv} (hf : okT g f) : both g (inv g f) f = idm ∧ both g f (inv g f) = idm := by
  have hb := bothT_inv hg hf
  constructor
  · unfold both
    rw [hb.1]
    have e2 : ((inv g f).f ^^ f.f) = false := by simp [inv]
    have e3 : To g (inv g f) f.o = (0,0) := (neg_eq g _).1
    rw [e2, e3]; rfl
  · unfold both
    rw [hb.2]
    have e2 : (f.f ^^ (inv g f).f) = false := by simp [inv]
    have e3 : To g f (inv g f).o = (0,0) := by
      have hl := lin_both hg (f := f) (h := inv g f) (inv_ok hg hf) f.o
      rw [hb.2, e2] at hl
      have h4 : lin g f.t f.f (lin g (inv g f).t (inv g f).f f.o) = f.o := by rw [← hl]; rfl
      have h5 : add (lin g f.t f.f (lin g (inv g f).t (inv g f).f f.o)) (lin g f.t f.f (inv g f).o) = (0,0) := by
        rw [← lin_add]
        have : add (lin g (inv g f).t (inv g f).f f.o) (inv g f).o = (0,0) := (neg_eq g _).1
        rw [this, lin_zero]
      rw [h4] at h5
      unfold To
      simp only [add, Prod.mk.injEq] at h5 ⊢
      omega
    rw [e2, e3]; rfl
/-- A move done so often. -/
def pw (g : Int) (f : Mv) : Nat → Mv
  | 0 => idm
  | n + 1 => both g f (pw g f n)
theorem idm_ok {g : Int} (hg : G g) : okT g idm := by rcases hg with rfl | rfl <;> simp [okT, idm]
theorem pw_ok {g : Int} (hg : G g) (f : Mv) (n : Nat) : okT g (pw g f n) := by
  cases n with
  | zero => exact idm_ok hg
  | succ n => exact both_ok hg _ _
theorem pw_one {g : Int} {f : Mv} (hf : okT g f) : pw g f 1 = f := by
  unfold okT at hf
  obtain ⟨t, fl, o⟩ := f
  have e : To g ⟨t, fl, o⟩ (0,0) = o := To_zero g _
  simp only [pw, both, idm, e, Bool.xor_false, Mv.mk.injEq, and_true]
  unfold bothT
  simp only [Nat.sub_zero, Nat.add_mod_right, Nat.add_zero, ite_self]
  exact Nat.mod_eq_of_lt hf
/-- On squares four times tell it. -/
theorem pw_four {f : Mv} (hf : okT 4 f) (h : ∀ n, 1 ≤ n → n ≤ 4 → pw 4 f n ≠ idm) : pw 4 f 5 ≠ idm ∧ pw 4 f 6 ≠ idm := by
  have h1 := h 1 (by omega) (by omega); have h2 := h 2 (by omega) (by omega); have h3 := h 3 (by omega) (by omega); have h4 := h 4 (by omega) (by omega)
  clear h
  obtain ⟨t, fl, x, y⟩ := f
  have ht : t = 0 ∨ t = 1 ∨ t = 2 ∨ t = 3 := by simp only [okT] at hf; omega
  rcases ht with rfl | rfl | rfl | rfl <;> cases fl <;> simp [pw, both, bothT, idm, To, lin, mir, tn, turn, conj, miX, add] at * <;> omega
theorem nrm_add_le {g : Int} (hg : G g) (a r : Pt) : nrm g (add a r) ≤ 2 * nrm g a + 2 * nrm g r := by
  have h := nrm_nonneg hg (sub a r)
  have e : nrm g (sub a r) + nrm g (add a r) = 2 * nrm g a + 2 * nrm g r := by
    rcases hg with rfl | rfl
    · simp only [nrm4, sub, add]; grind
    · simp only [nrm6, sub, add]; grind
  omega
theorem nrm_lin {g : Int} (hg : G g) (t : Nat) (f : Bool) (z : Pt) : nrm g (lin g t f z) = nrm g z := by
  cases f
  · exact nrm_tn hg t z
  · simp only [lin, mir, if_true]; rw [nrm_tn hg, nrm_conj hg]
theorem nrm_To {g : Int} (hg : G g) (m : Mv) (z : Pt) : nrm g (To g m z) ≤ 2 * nrm g z + 2 * nrm g m.o := by
  have := nrm_add_le hg (lin g m.t m.f z) m.o
  rw [nrm_lin hg] at this
  exact this
theorem lin_sub (g : Int) (t : Nat) (f : Bool) (a b : Pt) : sub (lin g t f a) (lin g t f b) = lin g t f (sub a b) := by
  have h := lin_add g t f (sub a b) b
  have e : add (sub a b) b = a := by apply ext2 <;> simp [add, sub]
  rw [e] at h
  rw [h]; apply ext2 <;> simp [add, sub]
/-- A move keeps how far points are apart. -/
theorem nrm_apart {g : Int} (hg : G g) (m : Mv) (a b : Pt) : nrm g (sub (To g m a) (To g m b)) = nrm g (sub a b) := by
  have e : sub (To g m a) (To g m b) = sub (lin g m.t m.f a) (lin g m.t m.f b) := by apply ext2 <;> simp [To, add, sub] <;> omega
  rw [e, lin_sub, nrm_lin hg]
end Go.Proofs.Ytooilennejakhaa.Z
