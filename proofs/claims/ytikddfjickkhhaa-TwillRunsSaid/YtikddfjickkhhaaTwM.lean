/- Satins and twills: the plain arithmetic, no program in sight. -/
import Derived.Test.YtikddfjickkhhaaRows
namespace Go.Proofs.Ytikddfjickkhhaa.Tw
set_option linter.unusedVariables false
set_option linter.unusedSimpArgs false
/-- Is k a move by which a satin of n ends can be woven? -/
def mvOk (n k : Nat) : Prop := 2 ≤ k ∧ k + 2 ≤ n ∧ Nat.gcd n k = 1
instance (n k : Nat) : Decidable (mvOk n k) := by unfold mvOk; exact inferInstance
theorem inj_of_gcd {n k y z : Nat} (hg : Nat.gcd n k = 1) (hy : y < n) (hz : z < y) : z * k % n ≠ y * k % n := by
  intro h
  have h1 : n ∣ y * k - z * k := Nat.dvd_of_mod_eq_zero (Nat.sub_mod_eq_zero_of_mod_eq h.symm)
  rw [← Nat.sub_mul] at h1
  have h2 : n ∣ y - z := Nat.Coprime.dvd_of_dvd_mul_right hg h1
  have h3 := Nat.le_of_dvd (by omega) h2
  omega
theorem not_inj {n k : Nat} (hn : 1 < n) (hg : Nat.gcd n k ≠ 1) : ∃ y, y < n ∧ 0 < y ∧ 0 * k % n = y * k % n := by
  have hgp : 0 < Nat.gcd n k := Nat.gcd_pos_of_pos_left k (by omega)
  obtain ⟨a, ha⟩ := Nat.gcd_dvd_left n k
  obtain ⟨b, hb⟩ := Nat.gcd_dvd_right n k
  generalize hG : Nat.gcd n k = G at *
  have ha0 : 0 < a := by
    rcases Nat.eq_zero_or_pos a with h | h
    · subst h; simp at ha; omega
    · exact h
  refine ⟨a, ?_, ha0, ?_⟩
  · have : a * 1 < a * G := Nat.mul_lt_mul_of_pos_left (by omega) ha0
    rw [ha, Nat.mul_comm]; omega
  · have e : a * k = n * b := by rw [ha, hb, Nat.mul_comm G a, Nat.mul_assoc]
    rw [e]; simp
theorem step_eq {n k y : Nat} (hk : k < n) (hy : y < n) : ((((((y + 1) % n * k % n : Nat) : Int) - ((y * k % n : Nat) : Int)) + n) % n) = k := by
  have e1 : (y + 1) % n * k % n = (y * k + k) % n := by rw [Nat.mod_mul_mod, Nat.add_mul, Nat.one_mul]
  rw [e1]
  have e2 : (y * k + k) % n = (y * k % n + k) % n := by rw [Nat.mod_add_mod]
  rw [e2]
  have h1 : y * k % n < n := Nat.mod_lt _ (by omega)
  generalize y * k % n = r at *
  by_cases h : r + k < n
  · rw [Nat.mod_eq_of_lt h]
    have : ((r + k : Nat) : Int) - r + n = k + n := by omega
    rw [this, Int.add_emod_right, Int.emod_eq_of_lt (by omega) (by omega)]
  · have h2 : (r + k) % n = r + k - n := by rw [Nat.mod_eq_sub_mod (by omega), Nat.mod_eq_of_lt (by omega)]
    rw [h2]
    have : ((r + k - n : Nat) : Int) - r + n = k := by omega
    rw [this, Int.emod_eq_of_lt (by omega) (by omega)]
/-- The place of the twill's row: it is 0 just where the satin's point lies. -/
theorem place_zero {n k x y : Nat} (hx : x < n) : ((((x : Int) - (y * k : Nat)) % n) = 0) ↔ x = y * k % n := by
  constructor
  · intro h
    have h1 : ((y * k % n : Nat) : Int) = (x : Int) % n := by
      have : ((x : Int) - (y * k : Nat)) % n = 0 := h
      rw [Int.natCast_emod]
      have := Int.emod_emod_of_dvd ((x : Int) - (y * k : Nat)) (Int.dvd_refl (n : Int))
      exact ((Int.emod_eq_emod_iff_emod_sub_eq_zero).2 h).symm
    rw [Int.emod_eq_of_lt (by omega) (by omega)] at h1
    omega
  · intro h
    subst h
    rw [Int.natCast_emod]
    have : ((y * k : Nat) : Int) % n - (y * k : Nat) = - (n * (((y * k : Nat) : Int) / n)) := by
      have := Int.mul_ediv_add_emod ((y * k : Nat) : Int) n
      omega
    rw [this, Int.neg_emod]
    simp
end Go.Proofs.Ytikddfjickkhhaa.Tw
