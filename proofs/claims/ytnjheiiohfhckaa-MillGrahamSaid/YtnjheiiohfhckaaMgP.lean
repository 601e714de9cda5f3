/- The plan of a mill as plain lists: each job goes to the loom that is free first. -/
namespace Go.Proofs.Ytnjheiiohfhckaa.Mg
def bestTo (fr : List Int) : Nat → Nat
  | 0 => 0
  | k + 1 => if fr.getD k 0 < fr.getD (bestTo fr k) 0 then k else bestTo fr k
structure PS where
  fr : List Int
  out : List (Int × Int)
  last : Int
def pstep (s : PS) (n : Int) : PS :=
  let b := bestTo s.fr s.fr.length
  let f := s.fr.getD b 0 + n
  { fr := s.fr.set b f, out := s.out ++ [((b : Int), s.fr.getD b 0)], last := if f > s.last then f else s.last }
def planTo (zs : List Int) (m k : Nat) : PS := (zs.take k).foldl pstep ⟨List.replicate m 0, [], 0⟩
theorem bestTo_lt (fr : List Int) (k : Nat) (h : 0 < k) : bestTo fr k < k := by
  induction k with
  | zero => omega
  | succ k ih =>
    unfold bestTo
    split
    · omega
    · cases k with
      | zero => simp [bestTo]
      | succ k => have := ih (by omega); omega
theorem bestTo_le (fr : List Int) (k : Nat) : ∀ j, j < k → fr.getD (bestTo fr k) 0 ≤ fr.getD j 0 := by
  induction k with
  | zero => intro j hj; omega
  | succ k ih =>
    intro j hj
    have : bestTo fr (k+1) = if fr.getD k 0 < fr.getD (bestTo fr k) 0 then k else bestTo fr k := rfl
    rw [this]
    by_cases hjk : j = k
    · subst hjk; split <;> omega
    · have := ih j (by omega)
      split <;> omega
theorem planTo_succ (zs : List Int) (m k : Nat) (h : k < zs.length) : planTo zs m (k+1) = pstep (planTo zs m k) (zs.getD k 0) := by
  unfold planTo
  rw [List.take_succ_eq_append_getElem h, List.foldl_append]; simp [List.getD, h]
theorem planTo_fr_len (zs : List Int) (m k : Nat) : (planTo zs m k).fr.length = m := by
  unfold planTo
  generalize zs.take k = l
  have : ∀ s : PS, s.fr.length = m → (l.foldl pstep s).fr.length = m := by
    induction l with
    | nil => intro s h; exact h
    | cons a l ih => intro s h; exact ih _ (by simp [pstep, h])
  exact this _ (by simp)
theorem planTo_out_len (zs : List Int) (m k : Nat) (h : k ≤ zs.length) : (planTo zs m k).out.length = k := by
  induction k with
  | zero => rfl
  | succ k ih => rw [planTo_succ _ _ _ (by omega)]; simp [pstep, ih (by omega)]
/-- What is free, and when all is done, stays small. -/
theorem planTo_bd (zs : List Int) (m k : Nat) (h : k ≤ zs.length) (hz : ∀ j, j < zs.length → 0 ≤ zs.getD j 0 ∧ zs.getD j 0 ≤ 1048576) :
    (∀ j, 0 ≤ (planTo zs m k).fr.getD j 0 ∧ (planTo zs m k).fr.getD j 0 ≤ k * 1048576) ∧ 0 ≤ (planTo zs m k).last ∧ (planTo zs m k).last ≤ k * 1048576 := by
  induction k with
  | zero => refine ⟨fun j => ?_, by simp [planTo], by simp [planTo]⟩; simp only [planTo, List.take_zero, List.foldl_nil]; rw [List.getD_eq_getElem?_getD, List.getElem?_replicate]; split <;> simp
  | succ k ih =>
    obtain ⟨i1, i2, i3⟩ := ih (by omega)
    have hk := hz k (by omega)
    rw [planTo_succ _ _ _ (by omega)]
    generalize planTo zs m k = s at *
    have hb := i1 (bestTo s.fr s.fr.length)
    refine ⟨fun j => ?_, ?_, ?_⟩
    · show 0 ≤ (s.fr.set _ _).getD j 0 ∧ (s.fr.set _ _).getD j 0 ≤ _
      rw [List.getD_eq_getElem?_getD, List.getElem?_set]
      have := i1 j
      rw [List.getD_eq_getElem?_getD] at this
      split
      · split
        · simp only [Option.getD_some]; omega
        · simp only [Option.getD_none]; omega
      · omega
    · simp only [pstep]; split <;> omega
    · simp only [pstep]; split <;> omega
end Go.Proofs.Ytnjheiiohfhckaa.Mg
