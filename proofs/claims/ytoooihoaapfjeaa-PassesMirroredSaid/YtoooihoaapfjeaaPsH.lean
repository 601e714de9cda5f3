/- Chapter 13: mirrored it takes as many passes: no program in sight. -/
import Derived.Test.YtoooihoaapfjeaaPsG
namespace Go.Proofs.Ytoooihoaapfjeaa
open Go.RowKit
set_option linter.unusedVariables false
set_option linter.unusedSimpArgs false
namespace Ps
/-- Loops mirrored. -/
def mir (s : List Int) : List Int := (s.map fun x => 11 - x).reverse
theorem mir_len (s : List Int) : (mir s).length = s.length := by simp [mir]
theorem mir_get {s : List Int} {i : Nat} (h : i < s.length) : (mir s).getD i 0 = 11 - s.getD (s.length - 1 - i) 0 := by
  unfold mir
  rw [List.getD_eq_getElem?_getD, List.getElem?_reverse (by simpa using h), List.getElem?_map, List.length_map, List.getD_eq_getElem?_getD, List.getElem?_eq_getElem (by omega)]
  rfl
theorem mir_mir (s : List Int) : mir (mir s) = s := by
  refine ext_getD (by rw [mir_len, mir_len]) fun i hi => ?_
  rw [mir_len, mir_len] at hi
  rw [mir_get (by rw [mir_len]; exact hi), mir_len, mir_get (by omega), show s.length - 1 - (s.length - 1 - i) = i by omega]
  omega
/-- The bits of w read backwards. -/
def rb : Nat → Nat → Nat
  | 0, _ => 0
  | n + 1, w => 2 ^ n * (w % 2) + rb n (w / 2)
theorem rb_lt : ∀ n w, rb n w < 2 ^ n
  | 0, _ => by simp [rb]
  | n + 1, w => by
    have := rb_lt n (w / 2)
    have h2 : w % 2 < 2 := Nat.mod_lt _ (by omega)
    rw [rb, Nat.pow_succ]
    have h3 : 2 ^ n * (w % 2) ≤ 2 ^ n * 1 := Nat.mul_le_mul (Nat.le_refl _) (by omega)
    omega
theorem rb_pos : ∀ n w, 1 ≤ w → w < 2 ^ n → 1 ≤ rb n w
  | 0, w, h, h2 => by simp at h2; omega
  | n + 1, w, h, h2 => by
    rw [rb]
    have h4 : 1 ≤ 2 ^ n := Nat.one_le_two_pow
    by_cases h3 : w % 2 = 1
    · rw [h3]; omega
    · have := rb_pos n (w / 2) (by omega) (by rw [Nat.pow_succ] at h2; omega)
      omega
theorem bit_tb (w i : Nat) : bit w i = w.testBit i := by
  unfold bit
  rw [Nat.testBit_eq_decide_div_mod_eq]
  by_cases h : w / 2 ^ i % 2 = 1 <;> simp [h]
theorem bit_rb : ∀ n w i, i < n → bit (rb n w) i = bit w (n - 1 - i)
  | 0, _, _, h => by omega
  | n + 1, w, i, h => by
    rw [bit_tb, rb, Nat.testBit_two_pow_mul_add _ (rb_lt n (w / 2))]
    by_cases hi : i < n
    · rw [if_pos hi, ← bit_tb, bit_rb n (w / 2) i hi]
      unfold bit
      rw [Nat.div_div_eq_div_mul, show n + 1 - 1 - i = (n - 1 - i) + 1 by omega, Nat.pow_succ, Nat.mul_comm 2]
    · obtain rfl : i = n := by omega
      rw [if_neg hi, ← bit_tb]
      unfold bit
      simp
theorem mv_mir {s : List Int} {b : Int} {w : Nat} : mv (mir s) (-b) (rb s.length w) = mir (mv s b w) := by
  refine ext_getD (by rw [mv_len, mir_len, mir_len, mv_len]) fun i hi => ?_
  rw [mv_len, mir_len] at hi
  rw [mv_get _ _ _ _ (by rw [mir_len]; exact hi), mir_get hi, mir_get (by rw [mv_len]; exact hi), mv_len, mv_get _ _ _ _ (by omega), bit_rb _ _ _ hi]
  split <;> omega
theorem okS_mir {to : List Int} {sl : Int} {s : List Int} (hl : s.length = to.length) (h : okS to sl s) : okS (mir to) sl (mir s) := by
  intro i hi
  rw [mir_len] at hi
  have h1 := h (s.length - 1 - i) (by omega)
  unfold okAt at h1 ⊢
  rw [mir_get hi]
  refine ⟨by omega, by omega, fun h0 => ?_⟩
  have h2 := (h (s.length - 1 - (i - 1)) (by omega)).2.2 (by omega)
  rw [show s.length - 1 - (i - 1) - 1 = s.length - 1 - i by omega] at h2
  rw [mir_get (show i - 1 < s.length by omega), mir_get (show i < to.length by omega), mir_get (show i - 1 < to.length by omega), ← hl]
  refine ⟨by omega, by omega, fun h3 => ?_⟩
  have := h2.2.2 (by omega)
  omega
/-- A pass mirrored. -/
def mp (n : Nat) (p : Int × Nat) : Int × Nat := (-p.1, rb n p.2)
theorem mp_valid {n : Nat} {p : Int × Nat} (h : valid n p) : valid n (mp n p) := by
  obtain ⟨h1, h2, h3⟩ := h
  refine ⟨?_, rb_pos _ _ h2 h3, rb_lt _ _⟩
  show -p.1 = -2 ∨ -p.1 = -1 ∨ -p.1 = 1 ∨ -p.1 = 2
  omega
theorem does_mir {to : List Int} {sl : Int} : ∀ (L : List (Int × Nat)) (s : List Int), s.length = to.length → doesIt to sl s L → doesIt (mir to) sl (mir s) (L.map (mp to.length))
  | [], s, _, h => by
    have h : s = to := h
    show mir s = mir to
    rw [h]
  | p :: L, s, hl, h => by
    have e : mv (mir s) (mp to.length p).1 (mp to.length p).2 = mir (mv s p.1 p.2) := by
      unfold mp
      rw [← hl]
      exact mv_mir
    show okS _ _ (mv (mir s) _ _) ∧ doesIt _ _ (mv (mir s) _ _) _
    rw [e]
    exact ⟨okS_mir (by rw [mv_len]; exact hl) h.1, does_mir L _ (by rw [mv_len]; exact hl) h.2⟩
theorem dist_mir {to : List Int} {sl : Int} {k : Nat} {s : List Int} (hl : s.length = to.length) (h : dist to sl k s) : dist (mir to) sl k (mir s) := by
  obtain ⟨L, h1, h2, h3⟩ := h
  refine ⟨L.map (mp to.length), by simp [h1], fun q hq => ?_, does_mir L s hl h3⟩
  obtain ⟨p, hp, rfl⟩ := List.mem_map.1 hq
  rw [mir_len]
  exact mp_valid (h2 p hp)
theorem dmin_mir {to : List Int} {sl : Int} {k : Nat} {s : List Int} (hl : s.length = to.length) (h : Dmin to sl k s) : Dmin (mir to) sl k (mir s) := by
  refine ⟨dist_mir hl h.1, fun k' h' => h.2 k' ?_⟩
  have := dist_mir (by rw [mir_len, mir_len]; exact hl) h'
  rwa [mir_mir, mir_mir] at this
theorem wrP_mir {fr to : List Int} {sl : Int} (h : wrP fr to sl = 0) : wrP (mir fr) (mir to) sl = 0 := by
  have h0 := h
  obtain ⟨h1, h2, h3, h4, h5, h6, h7⟩ := wrP_zero h
  unfold wrP at h0 ⊢
  rw [if_neg (by omega), if_neg (by omega)] at h0
  rw [mir_len, mir_len, if_neg (by omega), if_neg (by omega)]
  have ht : ¬ twice fr := fun h => by rw [if_pos h] at h0; omega
  have ht2 : ¬ twice (mir fr) := by
    rintro ⟨i, hi, hi0, he⟩
    rw [mir_len] at hi
    rw [mir_get hi, mir_get (by omega)] at he
    refine ht ⟨fr.length - i, by omega, by omega, ?_⟩
    rw [show fr.length - i - 1 = fr.length - 1 - i by omega, show fr.length - i = fr.length - 1 - (i - 1) by omega]
    omega
  rw [if_neg ht2, if_neg]
  rintro (h | h)
  · exact h (okS_mir h3.symm h6)
  · exact h (okS_mir rfl h7)
/-- What the loop has made behind k rounds. -/
def mirK (s : List Int) (k : Nat) : List Int := (mir s).take k
theorem mirK_succ {s : List Int} {k : Nat} (h : k < s.length) : mirK s (k + 1) = mirK s k ++ [11 - s.getD (s.length - 1 - k) 0] := by
  unfold mirK
  rw [List.take_add_one, ← mir_get h, List.getD_eq_getElem?_getD, List.getElem?_eq_getElem (by rw [mir_len]; exact h)]
  rfl
theorem mirK_len {s : List Int} {k : Nat} (h : k ≤ s.length) : (mirK s k).length = k := by
  unfold mirK
  rw [List.length_take, mir_len]; omega
theorem mirK_all (s : List Int) : mirK s s.length = mir s := by
  unfold mirK
  rw [← mir_len, List.take_length]
end Ps
end Go.Proofs.Ytoooihoaapfjeaa
