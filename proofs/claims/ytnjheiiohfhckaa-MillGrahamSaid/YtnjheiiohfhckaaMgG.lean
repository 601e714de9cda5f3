/- GRAHAM's bound for the plan of a mill, as plain lists: no program in sight. -/
import Derived.Test.YtnjheiiohfhckaaMgP
namespace Go.Proofs.Ytnjheiiohfhckaa.Mg
theorem sum_set (l : List Int) (i : Nat) (v : Int) (h : i < l.length) : (l.set i v).sum = l.sum - l.getD i 0 + v := by
  induction l generalizing i with
  | nil => simp at h
  | cons a l ih =>
    cases i with
    | zero => simp; omega
    | succ i => simp only [List.length_cons] at h; simp only [List.set_cons_succ, List.sum_cons, List.getD_cons_succ]; rw [ih i (by omega)]; omega
theorem sum_ge (l : List Int) (x : Int) (h : ∀ j, j < l.length → x ≤ l.getD j 0) : (l.length : Int) * x ≤ l.sum := by
  induction l with
  | nil => simp
  | cons a l ih =>
    have h0 := h 0 (by simp)
    have := ih fun j hj => by have := h (j+1) (by simp; omega); simpa using this
    simp only [List.length_cons, List.sum_cons]
    simp at h0
    have e : ((l.length + 1 : Nat) : Int) * x = (l.length : Int) * x + x := by rw [Int.natCast_add, Int.add_mul]; simp
    omega
theorem sum_le (l : List Int) (x : Int) (h : ∀ j, j < l.length → l.getD j 0 ≤ x) : l.sum ≤ (l.length : Int) * x := by
  induction l with
  | nil => simp
  | cons a l ih =>
    have h0 := h 0 (by simp)
    have := ih fun j hj => by have := h (j+1) (by simp; omega); simpa using this
    simp only [List.length_cons, List.sum_cons]
    simp at h0
    have e : ((l.length + 1 : Nat) : Int) * x = (l.length : Int) * x + x := by rw [Int.natCast_add, Int.add_mul]; simp
    omega
theorem gset (l : List Int) (i j : Nat) (v : Int) (hi : i < l.length) : (l.set i v).getD j 0 = if j = i then v else l.getD j 0 := by
  rw [List.getD_eq_getElem?_getD, List.getElem?_set, List.getD_eq_getElem?_getD]
  by_cases h : i = j
  · subst h; simp [hi]
  · rw [if_neg h, if_neg (fun e => h e.symm)]
/-- The greatest of the first k. -/
def mostTo (zs : List Int) : Nat → Int
  | 0 => 0
  | k + 1 => if zs.getD k 0 > mostTo zs k then zs.getD k 0 else mostTo zs k
def allTo (zs : List Int) : Nat → Int
  | 0 => 0
  | k + 1 => allTo zs k + zs.getD k 0
theorem allTo_bd (zs : List Int) (hz : ∀ j, j < zs.length → 0 ≤ zs.getD j 0 ∧ zs.getD j 0 ≤ 1048576) (k : Nat) (hk : k ≤ zs.length) : (0 ≤ allTo zs k ∧ allTo zs k ≤ k * 1048576) ∧ (0 ≤ mostTo zs k ∧ mostTo zs k ≤ 1048576) := by
  induction k with
  | zero => simp [allTo, mostTo]
  | succ k ih =>
    have := ih (by omega)
    have h := hz k (by omega)
    refine ⟨by simp only [allTo]; omega, by simp only [mostTo]; split <;> omega⟩
structure Inv (zs : List Int) (m k : Nat) (s : PS) : Prop where
  len : s.fr.length = m
  olen : s.out.length = k
  loom : ∀ j, j < k → 0 ≤ (s.out.getD j (0,0)).1 ∧ (s.out.getD j (0,0)).1 < m ∧ 0 ≤ (s.out.getD j (0,0)).2 ∧ (s.out.getD j (0,0)).2 + zs.getD j 0 ≤ s.last
  done : ∀ j, j < k → ∀ q : Nat, (q : Int) = (s.out.getD j (0,0)).1 → (s.out.getD j (0,0)).2 + zs.getD j 0 ≤ s.fr.getD q 0
  early : ∀ j, j < k → ∀ q, q < m → (s.out.getD j (0,0)).2 ≤ s.fr.getD q 0
  order : ∀ i, i < k → ∀ j, j < i → ((s.out.getD j (0,0)).1 = (s.out.getD i (0,0)).1 → (s.out.getD j (0,0)).2 + zs.getD j 0 ≤ (s.out.getD i (0,0)).2) ∧ (s.out.getD j (0,0)).2 ≤ (s.out.getD i (0,0)).2
  sum : s.fr.sum = allTo zs k
  nn : ∀ q, q < m → 0 ≤ s.fr.getD q 0 ∧ s.fr.getD q 0 ≤ s.last
  last0 : 0 ≤ s.last
  most0 : 0 ≤ mostTo zs k
  most : mostTo zs k ≤ s.last
  graham : (m : Int) * s.last ≤ allTo zs k + ((m : Int) - 1) * mostTo zs k
theorem getD_snoc (l : List (Int × Int)) (x : Int × Int) (j : Nat) : (l ++ [x]).getD j (0,0) = if j < l.length then l.getD j (0,0) else if j = l.length then x else (0,0) := by
  rw [List.getD_eq_getElem?_getD, List.getElem?_append]
  split
  · rw [List.getD_eq_getElem?_getD]
  · rename_i h
    by_cases e : j = l.length
    · simp [e]
    · rw [if_neg e, List.getElem?_eq_none (by simp; omega)]; rfl
theorem inv_step {zs : List Int} {m k : Nat} {s : PS} (h : Inv zs m k s) (hm : 1 ≤ m) (hz : 0 ≤ zs.getD k 0) : Inv zs m (k+1) (pstep s (zs.getD k 0)) := by
  have hb := bestTo_lt s.fr s.fr.length (by rw [h.len]; omega)
  have hmin := bestTo_le s.fr s.fr.length
  rw [h.len] at hb hmin
  have hps : pstep s (zs.getD k 0) = { fr := s.fr.set (bestTo s.fr m) (s.fr.getD (bestTo s.fr m) 0 + zs.getD k 0), out := s.out ++ [(((bestTo s.fr m : Nat) : Int), s.fr.getD (bestTo s.fr m) 0)], last := if s.fr.getD (bestTo s.fr m) 0 + zs.getD k 0 > s.last then s.fr.getD (bestTo s.fr m) 0 + zs.getD k 0 else s.last } := by
    unfold pstep; rw [h.len]
  rw [hps]
  generalize hb' : bestTo s.fr m = b at *
  have hsum := sum_ge s.fr (s.fr.getD b 0) (by rw [h.len]; exact hmin)
  rw [h.len, h.sum] at hsum
  have hfb := h.nn b hb
  have hl := h.olen
  have hall : allTo zs (k+1) = allTo zs k + zs.getD k 0 := rfl
  have hmost : mostTo zs (k+1) = if zs.getD k 0 > mostTo zs k then zs.getD k 0 else mostTo zs k := rfl
  have hmz : zs.getD k 0 ≤ mostTo zs (k+1) ∧ mostTo zs k ≤ mostTo zs (k+1) := by rw [hmost]; split <;> omega
  have h0 := h.most0
  have hl0 := h.last0
  generalize hzz : zs.getD k 0 = z at *
  generalize hff : s.fr.getD b 0 = f at *
  have hset : ∀ q, (s.fr.set b (f + z)).getD q 0 = if q = b then f + z else s.fr.getD q 0 := fun q => gset s.fr b q (f + z) (by rw [h.len]; exact hb)
  have hlast : s.last ≤ (if f + z > s.last then f + z else s.last) ∧ f + z ≤ (if f + z > s.last then f + z else s.last) := by split <;> omega
  refine ⟨by simp [h.len], by simp [hl], ?_, ?_, ?_, ?_, ?_, ?_, by show 0 ≤ (if f + z > s.last then f + z else s.last); omega, by omega, ?_, ?_⟩
  · intro j hj
    show 0 ≤ ((s.out ++ [((b : Int), f)]).getD j (0,0)).1 ∧ _
    rw [getD_snoc, hl]
    by_cases hjk : j < k
    · simp only [hjk, if_true]
      have := h.loom j hjk
      exact ⟨this.1, this.2.1, this.2.2.1, by omega⟩
    · have e : j = k := by omega
      subst e
      simp only [Nat.lt_irrefl, if_false, if_true]
      exact ⟨by omega, by omega, hfb.1, by rw [hzz]; exact hlast.2⟩
  · intro j hj q hq
    show ((s.out ++ [((b : Int), f)]).getD j (0,0)).2 + _ ≤ (s.fr.set b (f + z)).getD q 0
    rw [getD_snoc, hl] at hq ⊢
    rw [hset]
    by_cases hjk : j < k
    · simp only [hjk, if_true] at hq ⊢
      have := h.done j hjk q hq
      split
      · rename_i e; subst e; omega
      · exact this
    · have e : j = k := by omega
      subst e
      simp only [Nat.lt_irrefl, if_false, if_true] at hq ⊢
      have : q = b := by omega
      rw [if_pos this, hzz]; omega
  · intro j hj q hq
    show ((s.out ++ [((b : Int), f)]).getD j (0,0)).2 ≤ (s.fr.set b (f + z)).getD q 0
    rw [getD_snoc, hl, hset]
    by_cases hjk : j < k
    · simp only [hjk, if_true]
      have h1 := h.early j hjk q hq
      split
      · rename_i e; subst e; omega
      · exact h1
    · have e : j = k := by omega
      subst e
      simp only [Nat.lt_irrefl, if_false, if_true]
      have := hmin q hq
      split <;> omega
  · intro i hi j hj
    have e1 : (s.out ++ [((b : Int), f)]).getD j (0,0) = s.out.getD j (0,0) := by rw [getD_snoc, hl, if_pos (by omega)]
    show (((s.out ++ [((b : Int), f)]).getD j (0,0)).1 = ((s.out ++ [((b : Int), f)]).getD i (0,0)).1 → _ ≤ ((s.out ++ [((b : Int), f)]).getD i (0,0)).2) ∧ ((s.out ++ [((b : Int), f)]).getD j (0,0)).2 ≤ ((s.out ++ [((b : Int), f)]).getD i (0,0)).2
    rw [e1, getD_snoc, hl]
    by_cases hik : i < k
    · simp only [hik, if_true]
      exact h.order i hik j hj
    · have e : i = k := by omega
      subst e
      simp only [Nat.lt_irrefl, if_false, if_true]
      refine ⟨fun e => ?_, ?_⟩
      · have := h.done j (by omega) b e.symm; omega
      · have := h.early j (by omega) b hb; omega
  · show (s.fr.set b (f + z)).sum = _
    rw [sum_set _ _ _ (by rw [h.len]; exact hb), h.sum, hall, hff]; omega
  · intro q hq
    show 0 ≤ (s.fr.set b (f + z)).getD q 0 ∧ (s.fr.set b (f + z)).getD q 0 ≤ (if f + z > s.last then f + z else s.last)
    rw [hset]
    have := h.nn q hq
    split <;> omega
  · show mostTo zs (k+1) ≤ if f + z > s.last then f + z else s.last
    have := h.most
    rw [hmost]; split <;> omega
  · show (m : Int) * (if f + z > s.last then f + z else s.last) ≤ allTo zs (k+1) + ((m : Int) - 1) * mostTo zs (k+1)
    have hg := h.graham
    have hmul : ((m : Int) - 1) * mostTo zs k ≤ ((m : Int) - 1) * mostTo zs (k+1) := Int.mul_le_mul_of_nonneg_left hmz.2 (by omega)
    have hmul2 : ((m : Int) - 1) * z ≤ ((m : Int) - 1) * mostTo zs (k+1) := Int.mul_le_mul_of_nonneg_left hmz.1 (by omega)
    split
    · rw [Int.mul_add]
      have : (m : Int) * z = ((m : Int) - 1) * z + z := by rw [Int.sub_mul]; omega
      omega
    · omega
theorem inv (zs : List Int) (m : Nat) (hm : 1 ≤ m) (k : Nat) (hk : k ≤ zs.length) (hz : ∀ j, j < zs.length → 0 ≤ zs.getD j 0) : Inv zs m k (planTo zs m k) := by
  induction k with
  | zero =>
    refine ⟨by simp [planTo], rfl, by omega, by omega, by omega, by omega, ?_, ?_, by simp [planTo], by simp [mostTo], by simp [mostTo, planTo], by simp [planTo, allTo, mostTo]⟩
    · simp [planTo, allTo]
    · intro q hq; simp only [planTo, List.take_zero, List.foldl_nil]; rw [List.getD_eq_getElem?_getD, List.getElem?_replicate, if_pos hq]; simp
  | succ k ih =>
    rw [planTo_succ _ _ _ (by omega)]
    exact inv_step (ih (by omega)) hm (hz k (by omega))
theorem inv_ge (zs : List Int) (m k : Nat) (s : PS) (h : Inv zs m k s) : allTo zs k ≤ (m : Int) * s.last := by
  rw [← h.sum]
  have := sum_le s.fr s.last (by rw [h.len]; exact fun j hj => (h.nn j hj).2)
  rwa [h.len] at this
end Go.Proofs.Ytnjheiiohfhckaa.Mg
