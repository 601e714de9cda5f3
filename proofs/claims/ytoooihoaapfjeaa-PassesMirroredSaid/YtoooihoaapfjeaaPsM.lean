/- Chapter 13: loops that are moved, with the fewest passes: no program in sight. -/
import Derived.Test.YtoooihoaapfjeaaExt
namespace Go.Proofs.Ytoooihoaapfjeaa
open Go.RowKit
set_option linter.unusedVariables false
set_option linter.unusedSimpArgs false
namespace Ps
/-- Is loop i moved by a pass? -/
def bit (w i : Nat) : Bool := (w / 2 ^ i) % 2 == 1
/-- Loops behind a pass. -/
def mv (at_ : List Int) (b : Int) (w : Nat) : List Int := at_.mapIdx fun i x => if bit w i then x + b else x
/-- May loop i stand so? -/
def okAt (to : List Int) (sl : Int) (at_ : List Int) (i : Nat) : Prop :=
  0 ≤ at_.getD i 0 ∧ at_.getD i 0 < 12 ∧ (0 < i → at_.getD (i - 1) 0 ≤ at_.getD i 0 ∧ at_.getD i 0 - at_.getD (i - 1) 0 ≤ sl ∧ (at_.getD i 0 = at_.getD (i - 1) 0 → to.getD i 0 = to.getD (i - 1) 0))
instance (to : List Int) (sl : Int) (at_ : List Int) (i : Nat) : Decidable (okAt to sl at_ i) := by unfold okAt; infer_instance
/-- May loops stand so? -/
def okS (to : List Int) (sl : Int) (at_ : List Int) : Prop := ∀ i, i < at_.length → okAt to sl at_ i
instance (to : List Int) (sl : Int) (at_ : List Int) : Decidable (okS to sl at_) := by unfold okS; infer_instance
def valid (n : Nat) (p : Int × Nat) : Prop := (p.1 = -2 ∨ p.1 = -1 ∨ p.1 = 1 ∨ p.1 = 2) ∧ 1 ≤ p.2 ∧ p.2 < 2 ^ n
/-- All passes, in their order. -/
def PL (n : Nat) : List (Int × Nat) := [(-2 : Int), -1, 1, 2].flatMap fun b => (List.range (2 ^ n - 1)).map fun w => (b, w + 1)
theorem mem_PL {n : Nat} {p : Int × Nat} : p ∈ PL n ↔ valid n p := by
  unfold PL valid
  simp only [List.mem_flatMap, List.mem_map, List.mem_range, List.mem_cons, List.not_mem_nil, or_false]
  have h2 : 1 ≤ 2 ^ n := Nat.one_le_two_pow
  constructor
  · rintro ⟨b, hb, w, hw, rfl⟩
    exact ⟨hb, by simp only; omega, by simp only; omega⟩
  · rintro ⟨hb, h1, h3⟩
    exact ⟨p.1, hb, p.2 - 1, by omega, by obtain ⟨b, w⟩ := p; simp only at *; congr 1; omega⟩
theorem mv_len (at_ : List Int) (b : Int) (w : Nat) : (mv at_ b w).length = at_.length := by unfold mv; simp
theorem mv_get (at_ : List Int) (b : Int) (w i : Nat) (h : i < at_.length) : (mv at_ b w).getD i 0 = if bit w i then at_.getD i 0 + b else at_.getD i 0 := by
  unfold mv
  rw [List.getD_eq_getElem?_getD, List.getElem?_mapIdx, List.getD_eq_getElem?_getD, List.getElem?_eq_getElem h]
  rfl
theorem ext_getD {a b : List Int} (h : a.length = b.length) (h2 : ∀ i, i < a.length → a.getD i 0 = b.getD i 0) : a = b := by
  apply List.ext_getElem h
  intro i h3 h4
  have := h2 i h3
  rw [List.getD_eq_getElem?_getD, List.getD_eq_getElem?_getD, List.getElem?_eq_getElem h3, List.getElem?_eq_getElem h4] at this
  exact this
/-- Passes go back as they go there. -/
theorem mv_back (at_ : List Int) (b : Int) (w : Nat) : mv (mv at_ b w) (-b) w = at_ := by
  refine ext_getD (by rw [mv_len, mv_len]) fun i hi => ?_
  rw [mv_len, mv_len] at hi
  rw [mv_get _ _ _ _ (by rw [mv_len]; exact hi), mv_get _ _ _ _ hi]
  split <;> omega
theorem mv_back' (at_ : List Int) (b : Int) (w : Nat) : mv (mv at_ (-b) w) b w = at_ := by
  have := mv_back at_ (-b) w
  rwa [Int.neg_neg] at this
/-- Do these passes do it? -/
def doesIt (to : List Int) (sl : Int) : List Int → List (Int × Nat) → Prop
  | at_, [] => at_ = to
  | at_, p :: l => okS to sl (mv at_ p.1 p.2) ∧ doesIt to sl (mv at_ p.1 p.2) l
/-- k passes do it. -/
def dist (to : List Int) (sl : Int) (k : Nat) (at_ : List Int) : Prop := ∃ l, l.length = k ∧ (∀ p ∈ l, valid to.length p) ∧ doesIt to sl at_ l
/-- Ways to stand that are known, each with how far it is; one of them is looked round from. -/
def step1 (to : List Int) (sl : Int) (s : List Int) (d : Nat) (E : List (List Int × Nat)) (p : Int × Nat) : List (List Int × Nat) :=
  if okS to sl (mv s (-p.1) p.2) ∧ mv s (-p.1) p.2 ∉ E.map (·.1) then E ++ [(mv s (-p.1) p.2, d + 1)] else E
def rnd (to : List Int) (sl : Int) (s : List Int) (d : Nat) (E : List (List Int × Nat)) (l : List (Int × Nat)) : List (List Int × Nat) := l.foldl (step1 to sl s d) E
def z : List Int × Nat := ([], 0)
def bfs (to : List Int) (sl : Int) : Nat → List (List Int × Nat)
  | 0 => [(to, 0)]
  | i + 1 => if i < (bfs to sl i).length then rnd to sl ((bfs to sl i).getD i z).1 ((bfs to sl i).getD i z).2 (bfs to sl i) (PL to.length) else bfs to sl i
/-- What holds while one is looked round from. -/
structure In (to : List Int) (sl : Int) (i : Nat) (E : List (List Int × Nat)) : Prop where
  nd : (E.map (·.1)).Nodup
  ok : ∀ e ∈ E, okS to sl e.1 ∧ e.1.length = to.length
  ds : ∀ e ∈ E, dist to sl e.2 e.1
  so : ∀ j k, j ≤ k → k < E.length → (E.getD j z).2 ≤ (E.getD k z).2
  up : ∀ j, i < E.length → j < E.length → (E.getD j z).2 ≤ (E.getD i z).2 + 1
  cl : ∀ j, j < i → ∀ s p, okS to sl s → s.length = to.length → valid to.length p → mv s p.1 p.2 = (E.getD j z).1 → ∃ k, k < E.length ∧ (E.getD k z).1 = s ∧ (E.getD k z).2 ≤ (E.getD j z).2 + 1
theorem getD_left {E : List (List Int × Nat)} {x : List Int × Nat} {j : Nat} (h : j < E.length) : (E ++ [x]).getD j z = E.getD j z := by
  rw [List.getD_eq_getElem?_getD, List.getElem?_append_left h, List.getD_eq_getElem?_getD]
theorem getD_last {E : List (List Int × Nat)} {x : List Int × Nat} : (E ++ [x]).getD E.length z = x := by
  rw [List.getD_eq_getElem?_getD, List.getElem?_append_right (Nat.le_refl _)]; simp
theorem getD_mem' {E : List (List Int × Nat)} {j : Nat} (h : j < E.length) : E.getD j z ∈ E := by
  rw [List.getD_eq_getElem?_getD, List.getElem?_eq_getElem h]; exact List.getElem_mem h
theorem mem_fst {E : List (List Int × Nat)} {s : List Int} (h : s ∈ E.map (·.1)) : ∃ k, k < E.length ∧ (E.getD k z).1 = s := by
  obtain ⟨e, he, rfl⟩ := List.mem_map.1 h
  obtain ⟨k, hk, e2⟩ := List.getElem_of_mem he
  exact ⟨k, hk, by rw [List.getD_eq_getElem?_getD, List.getElem?_eq_getElem hk, Option.getD_some, e2]⟩
/-- One pass is looked at; passes are those that were looked at. -/
theorem In.step {to : List Int} {sl : Int} {i : Nat} {E : List (List Int × Nat)} (h : In to sl i E) (hi : i < E.length) {p : Int × Nat} (hp : valid to.length p) :
    In to sl i (step1 to sl (E.getD i z).1 (E.getD i z).2 E p) ∧ E.length ≤ (step1 to sl (E.getD i z).1 (E.getD i z).2 E p).length ∧ (∀ j, j < E.length → (step1 to sl (E.getD i z).1 (E.getD i z).2 E p).getD j z = E.getD j z) ∧
    (∀ s, okS to sl s → mv s p.1 p.2 = (E.getD i z).1 → ∃ k, k < (step1 to sl (E.getD i z).1 (E.getD i z).2 E p).length ∧ ((step1 to sl (E.getD i z).1 (E.getD i z).2 E p).getD k z).1 = s) := by
  unfold step1
  have hme := getD_mem' hi
  by_cases hc : okS to sl (mv (E.getD i z).1 (-p.1) p.2) ∧ mv (E.getD i z).1 (-p.1) p.2 ∉ E.map (·.1)
  · rw [if_pos hc]
    obtain ⟨hok, hnew⟩ := hc
    have hlen : (mv (E.getD i z).1 (-p.1) p.2).length = to.length := by rw [mv_len]; exact (h.ok _ hme).2
    have hds : dist to sl ((E.getD i z).2 + 1) (mv (E.getD i z).1 (-p.1) p.2) := by
      obtain ⟨l, h1, h2, h3⟩ := h.ds _ hme
      refine ⟨p :: l, by simp [h1], ?_, ?_⟩
      · intro q hq
        rcases List.mem_cons.1 hq with rfl | hq
        · exact hp
        · exact h2 q hq
      · show okS to sl (mv (mv _ _ _) _ _) ∧ doesIt to sl (mv (mv _ _ _) _ _) l
        rw [mv_back']
        exact ⟨(h.ok _ hme).1, h3⟩
    refine ⟨⟨?_, ?_, ?_, ?_, ?_, ?_⟩, by simp, fun j hj => getD_left hj, ?_⟩
    · rw [List.map_append, List.nodup_append]
      refine ⟨h.nd, by simp, ?_⟩
      intro a ha b hb
      simp at hb
      subst hb
      intro e
      exact hnew (e ▸ ha)
    · intro e he
      rcases List.mem_append.1 he with he | he
      · exact h.ok e he
      · simp at he; subst he; exact ⟨hok, hlen⟩
    · intro e he
      rcases List.mem_append.1 he with he | he
      · exact h.ds e he
      · simp at he; subst he; exact hds
    · intro j k hjk hk
      rw [List.length_append, List.length_singleton] at hk
      by_cases hk2 : k < E.length
      · rw [getD_left hk2, getD_left (by omega)]; exact h.so j k hjk hk2
      · obtain rfl : k = E.length := by omega
        rw [getD_last]
        by_cases hj : j < E.length
        · rw [getD_left hj]; exact h.up j hi hj
        · obtain rfl : j = E.length := by omega
          rw [getD_last]; exact Nat.le_refl _
    · intro j _ hj
      rw [List.length_append, List.length_singleton] at hj
      rw [getD_left hi]
      by_cases hj2 : j < E.length
      · rw [getD_left hj2]; exact h.up j hi hj2
      · obtain rfl : j = E.length := by omega
        rw [getD_last]; exact Nat.le_refl _
    · intro j hj s q hs hsl hq he
      rw [getD_left (by omega)] at he ⊢
      obtain ⟨k, k1, k2, k3⟩ := h.cl j hj s q hs hsl hq he
      exact ⟨k, by rw [List.length_append]; omega, by rw [getD_left k1]; exact k2, by rw [getD_left k1]; exact k3⟩
    · intro s _ hs
      refine ⟨E.length, by simp, ?_⟩
      rw [getD_last, ← hs, mv_back]
  · rw [if_neg hc]
    refine ⟨h, Nat.le_refl _, fun j _ => rfl, fun s hok hs => ?_⟩
    have e : mv (E.getD i z).1 (-p.1) p.2 = s := by rw [← hs, mv_back]
    rw [e] at hc
    have hm : s ∈ E.map (·.1) := by
      by_cases hm : s ∈ E.map (·.1)
      · exact hm
      · exact absurd ⟨hok, hm⟩ hc
    exact mem_fst hm
theorem In.rnd {to : List Int} {sl : Int} {i : Nat} : ∀ (l : List (Int × Nat)) (E : List (List Int × Nat)), In to sl i E → i < E.length → (∀ p ∈ l, valid to.length p) →
    In to sl i (rnd to sl (E.getD i z).1 (E.getD i z).2 E l) ∧ E.length ≤ (rnd to sl (E.getD i z).1 (E.getD i z).2 E l).length ∧ (∀ j, j < E.length → (rnd to sl (E.getD i z).1 (E.getD i z).2 E l).getD j z = E.getD j z) ∧
    (∀ p ∈ l, ∀ s, okS to sl s → mv s p.1 p.2 = (E.getD i z).1 → ∃ k, k < (rnd to sl (E.getD i z).1 (E.getD i z).2 E l).length ∧ ((rnd to sl (E.getD i z).1 (E.getD i z).2 E l).getD k z).1 = s)
  | [], E, h, hi, _ => ⟨h, Nat.le_refl _, fun j _ => rfl, fun p hp => by simp at hp⟩
  | p :: l, E, h, hi, hv => by
    obtain ⟨a1, a2, a3, a4⟩ := h.step hi (hv p (by simp))
    have hi2 : i < (step1 to sl (E.getD i z).1 (E.getD i z).2 E p).length := by omega
    have r := In.rnd l _ a1 hi2 (fun q hq => hv q (by simp [hq]))
    rw [a3 i hi] at r
    obtain ⟨b1, b2, b3, b4⟩ := r
    refine ⟨b1, Nat.le_trans a2 b2, fun j hj => (b3 j (by omega)).trans (a3 j hj), ?_⟩
    intro q hq s hs he
    rcases List.mem_cons.1 hq with rfl | hq
    · obtain ⟨k, k1, k2⟩ := a4 s hs he
      have b3k := b3 k k1
      exact ⟨k, Nat.lt_of_lt_of_le k1 b2, by rw [show Ps.rnd to sl (E.getD i z).1 (E.getD i z).2 E (q :: l) = Ps.rnd to sl (E.getD i z).1 (E.getD i z).2 (step1 to sl (E.getD i z).1 (E.getD i z).2 E q) l from rfl, b3k]; exact k2⟩
    · exact b4 q hq s hs he
/-- All that is known behind i rounds. -/
theorem bfs_in {to : List Int} {sl : Int} (ht : okS to sl to) : ∀ i, i ≤ (bfs to sl i).length → In to sl i (bfs to sl i)
  | 0, _ => by
    refine ⟨by simp [bfs], ?_, ?_, ?_, ?_, by omega⟩
    · intro e he; simp [bfs] at he; subst he; exact ⟨ht, rfl⟩
    · intro e he; simp [bfs] at he; subst he; exact ⟨[], rfl, by simp, rfl⟩
    · intro j k hjk hk
      simp [bfs] at hk
      obtain rfl : k = 0 := by omega
      obtain rfl : j = 0 := by omega
      exact Nat.le_refl _
    · intro j _ hj
      simp [bfs] at hj
      subst hj
      omega
  | i + 1, hle => by
    have hi : i < (bfs to sl i).length := by
      by_cases h : i < (bfs to sl i).length
      · exact h
      · simp only [bfs] at hle
        rw [if_neg h] at hle
        omega
    have h := bfs_in ht i (by omega)
    simp only [bfs]
    rw [if_pos hi]
    obtain ⟨b1, b2, b3, b4⟩ := In.rnd (PL to.length) (bfs to sl i) h hi (fun p hp => mem_PL.1 hp)
    generalize Ps.rnd to sl ((bfs to sl i).getD i z).1 ((bfs to sl i).getD i z).2 (bfs to sl i) (PL to.length) = F at *
    refine ⟨b1.nd, b1.ok, b1.ds, b1.so, ?_, ?_⟩
    · intro j h1 hj
      have h2 := b1.so i (i + 1) (by omega) h1
      have h3 := b1.up j (by omega) hj
      omega
    · intro j hj s p hs hsl hp he
      by_cases hji : j < i
      · exact b1.cl j hji s p hs hsl hp he
      · obtain rfl : j = i := by omega
        rw [b3 j hi] at he
        obtain ⟨k, k1, k2⟩ := b4 p (mem_PL.2 hp) s hs he
        exact ⟨k, k1, k2, b1.up k (by omega) k1⟩
/-- Whoever is known is as far as is said; whoever can come is known. -/
theorem bfs_done {to : List Int} {sl : Int} (ht : okS to sl to) {i : Nat} (hi : i = (bfs to sl i).length) : (∀ e ∈ bfs to sl i, okS to sl e.1 ∧ e.1.length = to.length ∧ dist to sl e.2 e.1) ∧
    ∀ k s, okS to sl s → s.length = to.length → dist to sl k s → ∃ e ∈ bfs to sl i, e.1 = s ∧ e.2 ≤ k := by
  have h := bfs_in ht i (by omega)
  have h0 : ∀ i, 0 < (bfs to sl i).length ∧ (bfs to sl i).getD 0 z = (to, 0) := by
    intro i
    induction i with
    | zero => simp [bfs]
    | succ i ih =>
      simp only [bfs]
      split
      · rename_i hlt
        have r := In.rnd (PL to.length) (bfs to sl i) (bfs_in ht i (by omega)) hlt (fun p hp => mem_PL.1 hp)
        exact ⟨by omega, (r.2.2.1 0 ih.1).trans ih.2⟩
      · exact ih
  refine ⟨fun e he => ⟨(h.ok e he).1, (h.ok e he).2, h.ds e he⟩, ?_⟩
  intro k
  induction k with
  | zero =>
    rintro s hs hsl ⟨l, h1, h2, h3⟩
    obtain rfl : l = [] := List.length_eq_zero_iff.1 h1
    obtain ⟨g1, g2⟩ := h0 i
    have h3 : s = to := h3
    refine ⟨(bfs to sl i).getD 0 z, getD_mem' g1, ?_, ?_⟩
    · rw [g2, h3]
    · rw [g2]; exact Nat.le_refl _
  | succ k ih =>
    rintro s hs hsl ⟨l, h1, h2, h3⟩
    match l, h1, h2, h3 with
    | p :: l, h1, h2, h3 =>
      obtain ⟨h4, h5⟩ := h3
      obtain ⟨e, he, e1, e2⟩ := ih (mv s p.1 p.2) h4 (by rw [mv_len]; exact hsl) ⟨l, by simpa using h1, fun q hq => h2 q (by simp [hq]), h5⟩
      obtain ⟨j, hj, ej⟩ := List.getElem_of_mem he
      have ej2 : (bfs to sl i).getD j z = e := by rw [List.getD_eq_getElem?_getD, List.getElem?_eq_getElem hj, Option.getD_some, ej]
      obtain ⟨k2, c1, c2, c3⟩ := h.cl j (by omega) s p hs hsl (h2 p (by simp)) (by rw [ej2, e1])
      rw [ej2] at c3
      exact ⟨_, getD_mem' c1, c2, by omega⟩
end Ps
end Go.Proofs.Ytoooihoaapfjeaa
