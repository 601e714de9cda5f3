/- Lemmas and contracts of functions (what each call returns, and that it changes nothing that was there) that the proof of a law of this seat uses; each lemma states its own conditions. -/
import Derived.Test.YtikddfjickkhhaaMl9
import Derived.Test.YtikddfjickkhhaaTfM
namespace Go.Proofs.Ytikddfjickkhhaa
open Go.RowKit
set_option linter.unusedVariables false
set_option linter.unusedSimpArgs false
open Lo Tw
/-- The longest of the first k runs whose number is even, or odd. -/
def mxN (zs : List Int) (r k : Nat) : Nat := mxTo (fun i => if i % 2 = r then (zs.getD i 0).toNat else 0) k
theorem mxTo_att {g : Nat → Nat} {k : Nat} (h : 0 < mxTo g k) : ∃ i, i < k ∧ g i = mxTo g k := by
  induction k with
  | zero => simp [mxTo] at h
  | succ k ih =>
    by_cases hk : mxTo g k ≤ g k
    · refine ⟨k, by omega, ?_⟩
      show _ = max (mxTo g k) (g k)
      omega
    · have e : mxTo g (k+1) = mxTo g k := by show max (mxTo g k) (g k) = _; omega
      rw [e] at h ⊢
      obtain ⟨i, h1, h2⟩ := ih h
      exact ⟨i, by omega, h2⟩
theorem mx_eq {f : Nat → Bool} {N M : Nat} (hM : M < 65) (ha : ∃ x, x < N ∧ ∀ j, j < M → f (x + j) = true) (hb : ∀ x, x < N → ∃ j, j ≤ M ∧ f (x + j) = false) : mxTo (fun x => crun f x 65) N = M := by
  apply Nat.le_antisymm
  · refine mxTo_le fun x hx => ?_
    rcases Nat.lt_or_ge M (crun f x 65) with h | h
    · obtain ⟨j, hj, hf⟩ := hb x hx
      have := crun_all (f := f) (k := 65) (x := x) (j := j) (by omega)
      rw [hf] at this; cases this
    · exact h
  · obtain ⟨x, hx, h⟩ := ha
    exact Nat.le_trans (crun_ge (by omega) h) (le_mxTo (g := fun x => crun f x 65) hx)
/-- The row, going round, at any place. -/
def rnd (R : List Bool) (N : Nat) (q : Int) : Bool := R.getD (q % (N : Int)).toNat false
theorem rnd_mod {R : List Bool} {N : Nat} {p q : Int} (h : p % (N : Int) = q % (N : Int)) : rnd R N p = rnd R N q := by unfold rnd; rw [h]
theorem rnd_at {R : List Bool} {N p : Nat} (h : p < N) : rnd R N p = R.getD p false := by
  unfold rnd; rw [Int.emod_eq_of_lt (by omega) (by omega)]; simp
theorem run_of {zs : List Int} {p : Nat} : ∀ k, k ≤ zs.length → (p : Int) < sumTo zs k → ∃ i, i < k ∧ sumTo zs i ≤ p ∧ (p : Int) < sumTo zs (i+1) := by
  intro k
  induction k with
  | zero => intro _ h; simp [sumTo] at h; omega
  | succ k ih =>
    intro hk h
    by_cases h2 : (p : Int) < sumTo zs k
    · obtain ⟨i, h3, h4⟩ := ih (by omega) h2
      exact ⟨i, by omega, h4⟩
    · exact ⟨k, by omega, by omega, h⟩
section
variable {zs : List Int} {N : Nat}
theorem rnd_run (hr : runsOk zs) (hN : (N : Int) = sumTo zs zs.length) {i : Nat} {q : Int} (hi : i < zs.length) (h1 : sumTo zs i ≤ q) (h2 : q < sumTo zs (i+1)) : rnd (rowTo zs zs.length) N q = (i % 2 == 0) := by
  have h0 := (sumTo_bd hr i (by omega)).1
  have h3 := sumTo_mono hr (show i + 1 ≤ zs.length by omega) (Nat.le_refl _)
  obtain ⟨p, rfl⟩ : ∃ p : Nat, q = p := ⟨q.toNat, by omega⟩
  rw [rnd_at (by omega)]
  exact rowTo_at hr hi h1 h2 _ hi (Nat.le_refl _)
/-- Where the round's place lies. -/
theorem rnd_place (hN : (N : Int) = sumTo zs zs.length) (h0 : 0 < N) (q : Int) : ∃ (p : Int) (i : Nat), i < zs.length ∧ sumTo zs i ≤ p ∧ p < sumTo zs (i+1) ∧ p % (N : Int) = q % (N : Int) := by
  have a1 := Int.emod_nonneg q (show (N : Int) ≠ 0 by omega)
  have a2 := Int.emod_lt_of_pos q (show (0 : Int) < N by omega)
  obtain ⟨i, h1, h2, h3⟩ := run_of (zs := zs) (p := (q % (N : Int)).toNat) zs.length (Nat.le_refl _) (by omega)
  exact ⟨((q % (N : Int)).toNat : Nat), i, h1, h2, h3, by rw [Int.toNat_of_nonneg a1, Int.emod_emod_of_dvd _ (Int.dvd_refl _)]⟩
theorem mxN_att (hr : runsOk zs) {r : Nat} (hr2 : r < 2) (hl : 2 ≤ zs.length) : ∃ i, i < zs.length ∧ i % 2 = r ∧ (mxN zs r zs.length : Int) = zs.getD i 0 := by
  have hle : (if r % 2 = r then (zs.getD r 0).toNat else 0) ≤ mxN zs r zs.length := le_mxTo (g := fun i => if i % 2 = r then (zs.getD i 0).toNat else 0) (show r < zs.length by omega)
  rw [if_pos (by omega)] at hle
  have h1 := hr r (by omega)
  obtain ⟨i, h2, h3⟩ := mxTo_att (g := fun i => if i % 2 = r then (zs.getD i 0).toNat else 0) (k := zs.length) (by unfold mxN at hle; omega)
  change _ = mxN zs r zs.length at h3
  have h4 := hr i h2
  by_cases hi : i % 2 = r
  · simp only [if_pos hi] at h3
    exact ⟨i, h2, hi, by omega⟩
  · simp only [if_neg hi] at h3; omega
theorem mxN_ge (hr : runsOk zs) {r i : Nat} (hi : i < zs.length) (h : i % 2 = r) : zs.getD i 0 ≤ mxN zs r zs.length := by
  have h1 := le_mxTo (g := fun i => if i % 2 = r then (zs.getD i 0).toNat else 0) hi
  change _ ≤ mxN zs r zs.length at h1
  simp only [if_pos h] at h1
  omega
theorem mxN_64 (hr : runsOk zs) (r : Nat) : mxN zs r zs.length ≤ 64 := by
  refine mxTo_le fun i hi => ?_
  have := hr i hi
  split <;> omega
theorem mod_sub_N (q : Int) (h0 : 0 < N) : (q - N) % (N : Int) = q % (N : Int) := by
  rw [Int.sub_emod]; simp
theorem fall_max (hr : runsOk zs) (hN : (N : Int) = sumTo zs zs.length) (h0 : 0 < N) (hl : 2 ≤ zs.length) (hev : zs.length % 2 = 0) (c : Int) {f : Nat → Bool} (hf : ∀ i : Nat, f i = !rnd (rowTo zs zs.length) N (i + c)) :
    mxTo (fun x => crun f x 65) N = mxN zs 1 zs.length := by
  have h64 := mxN_64 hr 1
  refine mx_eq (by omega) ?_ ?_
  · obtain ⟨i, h1, h2, h3⟩ := mxN_att hr (r := 1) (by omega) hl
    have a1 := Int.emod_nonneg (sumTo zs i - c) (show (N : Int) ≠ 0 by omega)
    have a2 := Int.emod_lt_of_pos (sumTo zs i - c) (show (0 : Int) < N by omega)
    refine ⟨((sumTo zs i - c) % (N : Int)).toNat, by omega, fun j hj => ?_⟩
    rw [hf]
    have e : rnd (rowTo zs zs.length) N (((((sumTo zs i - c) % (N : Int)).toNat + j : Nat) : Int) + c) = rnd (rowTo zs zs.length) N (sumTo zs i + j) := by
      apply rnd_mod
      rw [Int.natCast_add, Int.toNat_of_nonneg a1, Int.add_assoc, Int.emod_add_emod]
      congr 1; omega
    rw [e, rnd_run hr hN h1 (by omega) (by simp only [sumTo]; omega), h2]; rfl
  · intro x hx
    obtain ⟨p, i, h1, h2, h3, h4⟩ := rnd_place hN h0 (x + c)
    have key : ∀ j : Nat, f (x + j) = !rnd (rowTo zs zs.length) N (p + j) := by
      intro j
      rw [hf]
      congr 1
      apply rnd_mod
      rw [show (((x + j : Nat) : Int) + c) = (x + c) + j by omega, ← Int.emod_add_emod, ← h4, Int.emod_add_emod]
    by_cases hi : i % 2 = 1
    · have hz := mxN_ge hr h1 hi
      simp only [sumTo] at h3
      refine ⟨(sumTo zs (i+1) - p).toNat, by simp only [sumTo]; omega, ?_⟩
      rw [key, Int.toNat_of_nonneg (by simp only [sumTo]; omega), show p + (sumTo zs (i+1) - p) = sumTo zs (i+1) by omega]
      by_cases hlast : i + 1 < zs.length
      · have := hr (i+1) hlast
        rw [rnd_run hr hN hlast (Int.le_refl _) (by rw [show sumTo zs (i+1+1) = sumTo zs (i+1) + zs.getD (i+1) 0 from rfl]; omega), show (i+1) % 2 = 0 by omega]; rfl
      · rw [show i + 1 = zs.length by omega, ← hN]
        have := hr 0 (by omega)
        rw [rnd_mod (q := 0) (by simp), rnd_run hr hN (i := 0) (by omega) (by simp [sumTo]) (by simp only [sumTo]; omega)]; rfl
    · refine ⟨0, by omega, ?_⟩
      rw [key, show p + ((0 : Nat) : Int) = p by omega, rnd_run hr hN h1 h2 h3, show i % 2 = 0 by omega]; rfl
theorem rise_max (hr : runsOk zs) (hN : (N : Int) = sumTo zs zs.length) (h0 : 0 < N) (hl : 2 ≤ zs.length) (hev : zs.length % 2 = 0) (c : Int) {f : Nat → Bool} (hf : ∀ i : Nat, f i = rnd (rowTo zs zs.length) N (c - i)) :
    mxTo (fun x => crun f x 65) N = mxN zs 0 zs.length := by
  have h64 := mxN_64 hr 0
  refine mx_eq (by omega) ?_ ?_
  · obtain ⟨i, h1, h2, h3⟩ := mxN_att hr (r := 0) (by omega) hl
    have a1 := Int.emod_nonneg (c - sumTo zs (i+1) + 1) (show (N : Int) ≠ 0 by omega)
    have a2 := Int.emod_lt_of_pos (c - sumTo zs (i+1) + 1) (show (0 : Int) < N by omega)
    refine ⟨((c - sumTo zs (i+1) + 1) % (N : Int)).toNat, by omega, fun j hj => ?_⟩
    rw [hf]
    have e : rnd (rowTo zs zs.length) N (c - ((((c - sumTo zs (i+1) + 1) % (N : Int)).toNat + j : Nat) : Int)) = rnd (rowTo zs zs.length) N (sumTo zs (i+1) - 1 - j) := by
      apply rnd_mod
      rw [Int.natCast_add, Int.toNat_of_nonneg a1, show c - ((c - sumTo zs (i+1) + 1) % (N : Int) + j) = (c - j) - (c - sumTo zs (i+1) + 1) % (N : Int) by omega, Int.sub_emod_emod]
      congr 1; omega
    rw [e, rnd_run hr hN h1 (by simp only [sumTo]; omega) (by omega), h2]; rfl
  · intro x hx
    obtain ⟨p, i, h1, h2, h3, h4⟩ := rnd_place hN h0 (c - x)
    have key : ∀ j : Nat, f (x + j) = rnd (rowTo zs zs.length) N (p - j) := by
      intro j
      rw [hf]
      apply rnd_mod
      rw [show (c - ((x + j : Nat) : Int)) = (c - x) - j by omega, ← Int.emod_sub_emod, ← h4, Int.emod_sub_emod]
    by_cases hi : i % 2 = 0
    · have hz := mxN_ge hr h1 hi
      have hz1 := hr i h1
      simp only [sumTo] at h3
      refine ⟨(p - sumTo zs i + 1).toNat, by omega, ?_⟩
      rw [key, Int.toNat_of_nonneg (by omega), show p - (p - sumTo zs i + 1) = sumTo zs i - 1 by omega]
      by_cases hi0 : 0 < i
      · obtain ⟨k, rfl⟩ : ∃ k, i = k + 1 := ⟨i - 1, by omega⟩
        have := hr k (by omega)
        rw [rnd_run hr hN (i := k) (by omega) (by simp only [sumTo]; omega) (by omega), show k % 2 = 1 by omega]; rfl
      · obtain rfl : i = 0 := by omega
        obtain ⟨k, hk⟩ : ∃ k, zs.length = k + 1 := ⟨zs.length - 1, by omega⟩
        have := hr k (by omega)
        have hs : sumTo zs (k+1) = sumTo zs k + zs.getD k 0 := rfl
        rw [hk] at hN
        rw [rnd_mod (q := sumTo zs (k+1) - 1) (by rw [← hN]; show (0 - 1 : Int) % (N : Int) = _; rw [← Int.add_emod_right, show (0 - 1 + (N : Int)) = N - 1 by omega]), rnd_run hr (by rw [hk]; exact hN) (i := k) (by omega) (by omega) (by omega), show k % 2 = 1 by omega]; rfl
    · refine ⟨0, by omega, ?_⟩
      rw [key, show p - ((0 : Nat) : Int) = p by omega, rnd_run hr hN h1 h2 h3, show i % 2 = 1 by omega]; rfl
end
theorem bits_get {R : List Bool} {N : Nat} {move : Int} {x y : Nat} (hx : x < N) (hy : y < N) : (bitsTo R N move (N * N)).getD (y * N + x) false = rnd R N ((x : Int) - y * move) := by
  unfold bitsTo
  rw [getD_map_range _ (place_lt' hx hy), dm1 hx, dm2 hx]
  rfl
theorem tw_along {zs : List Int} {N : Nat} {move : Int} (hr : runsOk zs) (hN : (N : Int) = sumTo zs zs.length) (h0 : 0 < N) (hl : 2 ≤ zs.length) (hev : zs.length % 2 = 0) : longV false N N (bitsTo (rowTo zs zs.length) N move (N * N)) = mxN zs 1 zs.length := by
  have key : ∀ y, y < N → rowG false N (bitsTo (rowTo zs zs.length) N move (N * N)) y = mxN zs 1 zs.length := by
    intro y hy
    refine fall_max hr hN h0 hl hev (-(y * move)) fun i => ?_
    unfold rf
    have hi : i % N < N := Nat.mod_lt _ h0
    rw [bits_get hi hy, rnd_mod (q := (i : Int) + -(y * move)) (by rw [← Int.sub_eq_add_neg, Int.natCast_emod, Int.emod_sub_emod])]
    cases rnd (rowTo zs zs.length) N ((i : Int) + -(y * move)) <;> rfl
  unfold longV
  apply Nat.le_antisymm
  · exact mxTo_le fun y hy => by rw [key y hy]; exact Nat.le_refl _
  · have := le_mxTo (g := rowG false N (bitsTo (rowTo zs zs.length) N move (N * N))) h0
    rw [key 0 h0] at this; exact this
theorem tw_up {zs : List Int} {N : Nat} (hr : runsOk zs) (hN : (N : Int) = sumTo zs zs.length) (h0 : 0 < N) (hl : 2 ≤ zs.length) (hev : zs.length % 2 = 0) : longV true N N (turnL N N (bitsTo (rowTo zs zs.length) N 1 (N * N))) = mxN zs 0 zs.length := by
  have key : ∀ x, x < N → rowG true N (turnL N N (bitsTo (rowTo zs zs.length) N 1 (N * N))) x = mxN zs 0 zs.length := by
    intro x hx
    refine rise_max hr hN h0 hl hev x fun i => ?_
    unfold rf
    have hi : i % N < N := Nat.mod_lt _ h0
    rw [turnL_get hx hi, bits_get hx hi, rnd_mod (q := (x : Int) - i) (by rw [Int.mul_one, Int.natCast_emod, Int.sub_emod_emod])]
    cases rnd (rowTo zs zs.length) N ((x : Int) - i) <;> rfl
  unfold longV
  apply Nat.le_antisymm
  · exact mxTo_le fun y hy => by rw [key y hy]; exact Nat.le_refl _
  · have := le_mxTo (g := rowG true N (turnL N N (bitsTo (rowTo zs zs.length) N 1 (N * N)))) h0
    rw [key 0 h0] at this; exact this
theorem cn_eq (f : Nat → Bool) (k : Nat) : cn f k = ((List.range k).filter f).length := by
  induction k with
  | zero => rfl
  | succ k ih =>
    rw [List.range_succ, List.filter_append, List.length_append, ← ih]
    show cn f k + (if f k = true then 1 else 0) = _
    by_cases h : f k = true <;> simp [h]
theorem cn_not (f : Nat → Bool) (k : Nat) : cn f k + cn (fun x => !f x) k = k := by
  induction k with
  | zero => rfl
  | succ k ih =>
    show cn f k + (if f k = true then 1 else 0) + (cn (fun x => !f x) k + (if (!f k) = true then 1 else 0)) = k + 1
    cases f k <;> simp <;> omega
theorem cn_inj_le {f : Nat → Bool} {s : Nat → Nat} {k : Nat} (h1 : ∀ x, x < k → s x < k) (h2 : ∀ x y, x < k → y < x → s y ≠ s x) : cn (fun x => f (s x)) k ≤ cn f k := by
  rw [cn_eq, cn_eq, ← List.length_map (f := s)]
  refine List.Nodup.length_le_of_subset ?_ ?_
  · have hp : ((List.range k).filter fun x => f (s x)).Pairwise (fun a b => a < b ∧ b < k) := by
      apply List.Pairwise.filter
      rw [List.pairwise_iff_getElem]
      intro i j hi hj hij
      simp at hi hj ⊢
      exact ⟨hij, hj⟩
    exact (List.pairwise_map).2 (hp.imp fun h => h2 _ _ h.2 h.1)
  · intro y hy
    simp only [List.mem_map, List.mem_filter, List.mem_range] at hy ⊢
    obtain ⟨x, ⟨hx, hf⟩, rfl⟩ := hy
    exact ⟨h1 x hx, hf⟩
theorem cn_inj {f : Nat → Bool} {s : Nat → Nat} {k : Nat} (h1 : ∀ x, x < k → s x < k) (h2 : ∀ x y, x < k → y < x → s y ≠ s x) : cn (fun x => f (s x)) k = cn f k := by
  have a := cn_inj_le (f := f) h1 h2
  have b := cn_inj_le (f := fun x => !f x) h1 h2
  have c := cn_not f k
  have d := cn_not (fun x => f (s x)) k
  omega
theorem rnd_nat (R : List Bool) (N : Nat) (q : Int) : rnd R N q = R.getD (q % (N : Int)).toNat false := rfl
theorem emod_cast_ne {N : Nat} {p q : Int} (h0 : 0 < N) (h : ¬ (N : Int) ∣ (q - p)) : (p % (N : Int)).toNat ≠ (q % (N : Int)).toNat := by
  intro e
  have a1 := Int.emod_nonneg p (show (N : Int) ≠ 0 by omega)
  have a2 := Int.emod_nonneg q (show (N : Int) ≠ 0 by omega)
  have e2 : q % (N : Int) = p % (N : Int) := by omega
  exact h (Int.dvd_of_emod_eq_zero ((Int.emod_eq_emod_iff_emod_sub_eq_zero).1 e2))
theorem tw_even {R : List Bool} {N k : Nat} (h0 : 0 < N) (hg : Nat.gcd N k = 1) :
    evL N N (bitsTo R N k (N * N)) = true ∧ evL N N (turnL N N (bitsTo R N k (N * N))) = true := by
  have hlt : ∀ q : Int, (q % (N : Int)).toNat < N := fun q => by
    have a2 := Int.emod_lt_of_pos q (show (0 : Int) < N by omega)
    omega
  have rows : ∀ y, y < N → cn (rb (bitsTo R N k (N * N)) N y) N = cn (fun p => R.getD p false) N := by
    intro y hy
    rw [cn_congr (g := fun x => (fun p => R.getD p false) (((x : Int) - y * (k : Int)) % (N : Int)).toNat) (fun x hx => by unfold rb; rw [bits_get hx hy]; rfl)]
    refine cn_inj (f := fun p => R.getD p false) (s := fun x : Nat => (((x : Int) - y * (k : Int)) % (N : Int)).toNat) (fun x hx => hlt _) fun x z hx hz => emod_cast_ne h0 fun hd => ?_
    rw [show (x : Int) - y * (k : Int) - (z - y * (k : Int)) = ((x - z : Nat) : Int) by omega] at hd
    have := Nat.le_of_dvd (by omega) (Int.natCast_dvd_natCast.1 hd)
    omega
  have cols : ∀ x, x < N → cn (rb (turnL N N (bitsTo R N k (N * N))) N x) N = cn (fun p => R.getD p false) N := by
    intro x hx
    rw [turn_col hx, cn_congr (g := fun y => (fun p => R.getD p false) (((x : Int) - y * (k : Int)) % (N : Int)).toNat) (fun y hy => by unfold rb; rw [bits_get hx hy]; rfl)]
    refine cn_inj (f := fun p => R.getD p false) (s := fun y : Nat => (((x : Int) - y * (k : Int)) % (N : Int)).toNat) (fun y hy => hlt _) fun y z hy hz => (emod_cast_ne h0 fun hd => ?_).symm
    have h3 : (x : Int) - z * (k : Int) - (x - y * (k : Int)) = (((y - z) * k : Nat) : Int) := by
      rw [Int.natCast_mul, Int.natCast_sub (by omega), Int.sub_mul]; omega
    rw [h3] at hd
    have h2 : N ∣ y - z := Nat.Coprime.dvd_of_dvd_mul_right hg (Int.natCast_dvd_natCast.1 hd)
    have := Nat.le_of_dvd (by omega) h2
    omega
  unfold evL
  exact ⟨decide_eq_true fun y hy => by rw [rows y hy, rows 0 h0], decide_eq_true fun y hy => by rw [cols y hy, cols 0 h0]⟩
end Go.Proofs.Ytikddfjickkhhaa
