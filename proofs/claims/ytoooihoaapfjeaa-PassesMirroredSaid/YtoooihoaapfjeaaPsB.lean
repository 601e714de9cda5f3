/- Chapter 13: the fewest passes; of as many those that come first: no program in sight. -/
import Derived.Test.YtoooihoaapfjeaaPsA
namespace Go.Proofs.Ytoooihoaapfjeaa
open Go.RowKit
set_option linter.unusedVariables false
set_option linter.unusedSimpArgs false
namespace Ps
/-- The fewest passes from s. -/
def Dmin (to : List Int) (sl : Int) (k : Nat) (s : List Int) : Prop := dist to sl k s ∧ ∀ k', dist to sl k' s → k ≤ k'
theorem Dmin.uniq {to : List Int} {sl : Int} {k k' : Nat} {s : List Int} (h : Dmin to sl k s) (h' : Dmin to sl k' s) : k = k' := Nat.le_antisymm (h.2 _ h'.1) (h'.2 _ h.1)
theorem Dmin.of_dist {to : List Int} {sl : Int} {s : List Int} : ∀ k, dist to sl k s → ∃ k', Dmin to sl k' s := by
  intro k
  induction k using Nat.strongRecOn with
  | ind k ih =>
    intro h
    by_cases h2 : ∃ k', k' < k ∧ dist to sl k' s
    · obtain ⟨k', h3, h4⟩ := h2
      exact ih k' h3 h4
    · refine ⟨k, h, fun k' h3 => ?_⟩
      by_cases h4 : k' < k
      · exact absurd ⟨k', h4, h3⟩ h2
      · omega
theorem nd_inj : ∀ {E : List (List Int × Nat)}, (E.map (·.1)).Nodup → ∀ e ∈ E, ∀ e' ∈ E, e.1 = e'.1 → e = e'
  | [], _, e, he, _, _, _ => by simp at he
  | x :: E, h, e, he, e', he', heq => by
    rw [List.map_cons, List.nodup_cons] at h
    rcases List.mem_cons.1 he with rfl | h1
    · rcases List.mem_cons.1 he' with rfl | h2
      · rfl
      · exact absurd (heq ▸ List.mem_map.2 ⟨e', h2, rfl⟩) h.1
    · rcases List.mem_cons.1 he' with rfl | h2
      · exact absurd (heq ▸ List.mem_map.2 ⟨e, h1, rfl⟩) h.1
      · exact nd_inj h.2 e h1 e' h2 heq
/-- What breadth first has found is the fewest passes. -/
theorem bfs_dmin {to : List Int} {sl : Int} (ht : okS to sl to) {i : Nat} (hi : i = (bfs to sl i).length) {e : List Int × Nat} (he : e ∈ bfs to sl i) : Dmin to sl e.2 e.1 := by
  obtain ⟨h1, h2⟩ := bfs_done ht hi
  obtain ⟨ho, hl, hd⟩ := h1 e he
  refine ⟨hd, fun k' h3 => ?_⟩
  obtain ⟨e', he', e1, e2⟩ := h2 k' e.1 ho hl h3
  have := nd_inj (bfs_in ht i (by omega)).nd e' he' e he e1
  rw [← this]
  exact e2
theorem bfs_none {to : List Int} {sl : Int} (ht : okS to sl to) {i : Nat} (hi : i = (bfs to sl i).length) {s : List Int} (ho : okS to sl s) (hl : s.length = to.length) (hn : s ∉ (bfs to sl i).map (·.1)) (k : Nat) : ¬ dist to sl k s := fun h => by
  obtain ⟨e, he, e1, _⟩ := (bfs_done ht hi).2 k s ho hl h
  exact hn (List.mem_map.2 ⟨e, he, e1⟩)
theorem dist_step {to : List Int} {sl : Int} {k : Nat} {s : List Int} {p : Int × Nat} (hp : valid to.length p) (ho : okS to sl (mv s p.1 p.2)) (h : dist to sl k (mv s p.1 p.2)) : dist to sl (k + 1) s := by
  obtain ⟨l, h1, h2, h3⟩ := h
  refine ⟨p :: l, by simp [h1], fun q hq => ?_, ho, h3⟩
  rcases List.mem_cons.1 hq with rfl | hq
  · exact hp
  · exact h2 q hq
/-- There is a pass that comes nearer. -/
theorem dmin_step {to : List Int} {sl : Int} {k : Nat} {s : List Int} (h : Dmin to sl (k + 1) s) : ∃ p, valid to.length p ∧ okS to sl (mv s p.1 p.2) ∧ Dmin to sl k (mv s p.1 p.2) := by
  obtain ⟨⟨l, h1, h2, h3⟩, hmin⟩ := h
  match l, h1, h2, h3 with
  | p :: l, h1, h2, h3 =>
    have hp := h2 p (by simp)
    refine ⟨p, hp, h3.1, ⟨l, by simpa using h1, fun q hq => h2 q (by simp [hq]), h3.2⟩, fun k' h4 => ?_⟩
    have := hmin _ (dist_step hp h3.1 h4)
    omega
theorem dmin_zero {to : List Int} {sl : Int} {s : List Int} (h : Dmin to sl 0 s) : s = to := by
  obtain ⟨⟨l, h1, h2, h3⟩, _⟩ := h
  obtain rfl : l = [] := List.length_eq_zero_iff.1 h1
  exact h3
/-- A pass that comes nearer. -/
def good (to : List Int) (sl : Int) (k : Nat) (s : List Int) (p : Int × Nat) : Prop := okS to sl (mv s p.1 p.2) ∧ Dmin to sl k (mv s p.1 p.2)
/-- The first of those that come nearer. -/
def firstP (to : List Int) (sl : Int) (k : Nat) (s : List Int) (p : Int × Nat) : Prop := ∃ j, j < 4 * (2 ^ to.length - 1) ∧ PLv to.length j = p ∧ good to sl k s p ∧ ∀ i, i < j → ¬ good to sl k s (PLv to.length i)
/-- Each pass the first of those that come nearer. -/
def firstL (to : List Int) (sl : Int) : Nat → List Int → List (Int × Nat) → Prop
  | 0, _, L => L = []
  | k + 1, s, L => ∃ p L', L = p :: L' ∧ firstP to sl k s p ∧ firstL to sl k (mv s p.1 p.2) L'
theorem firstP.uniq {to : List Int} {sl : Int} {k : Nat} {s : List Int} {p q : Int × Nat} (h : firstP to sl k s p) (h' : firstP to sl k s q) : p = q := by
  obtain ⟨j, _, rfl, h2, h3⟩ := h
  obtain ⟨j', _, rfl, h5, h6⟩ := h'
  rcases Nat.lt_trichotomy j j' with h | h | h
  · exact absurd h2 (h6 j h)
  · rw [h]
  · exact absurd h5 (h3 j' h)
theorem firstL.uniq {to : List Int} {sl : Int} : ∀ {k : Nat} {s : List Int} {L L' : List (Int × Nat)}, firstL to sl k s L → firstL to sl k s L' → L = L'
  | 0, _, _, _, h, h' => (show _ = [] from h).trans (show _ = [] from h').symm
  | k + 1, s, _, _, h, h' => by
    obtain ⟨p, L, rfl, h1, h2⟩ := h
    obtain ⟨p', L', rfl, h1', h2'⟩ := h'
    obtain rfl := h1.uniq h1'
    rw [h2.uniq h2']
theorem firstL.does {to : List Int} {sl : Int} : ∀ {k : Nat} {s : List Int} {L : List (Int × Nat)}, firstL to sl k s L → Dmin to sl k s → L.length = k ∧ (∀ p ∈ L, valid to.length p) ∧ doesIt to sl s L
  | 0, s, L, h, hd => by
    obtain rfl : L = [] := h
    exact ⟨rfl, by simp, dmin_zero hd⟩
  | k + 1, s, _, h, _ => by
    obtain ⟨p, L, rfl, ⟨j, hj, rfl, hg, _⟩, h2⟩ := h
    obtain ⟨h3, h4, h5⟩ := h2.does hg.2
    refine ⟨by simp [h3], fun q hq => ?_, hg.1, h5⟩
    rcases List.mem_cons.1 hq with rfl | hq
    · exact PLv_valid hj
    · exact h4 q hq
/-- Some pass among all comes nearer. -/
theorem some_good {to : List Int} {sl : Int} {k : Nat} {s : List Int} (h : Dmin to sl (k + 1) s) : ∃ j, j < 4 * (2 ^ to.length - 1) ∧ good to sl k s (PLv to.length j) := by
  obtain ⟨p, h1, h2⟩ := dmin_step h
  obtain ⟨j, hj, e⟩ := List.getElem_of_mem (mem_PL.2 h1)
  refine ⟨j, by rw [PL_len] at hj; exact hj, ?_⟩
  have : PLv to.length j = p := by
    unfold PLv
    rw [List.getD_eq_getElem?_getD, List.getElem?_eq_getElem hj, e]
    rfl
  rw [this]
  exact h2
end Ps
/-- Passes, one behind the other. -/
def psK (L : List (Int × Nat)) : List Value := L.flatMap fun p => [.int .i64 p.1, .int .i64 (p.2 : Nat)]
theorem psK_snoc (L : List (Int × Nat)) (p : Int × Nat) : psK (L ++ [p]) = psK L ++ [.int .i64 p.1, .int .i64 (p.2 : Nat)] := by
  unfold psK
  rw [List.flatMap_append]
  simp
theorem psK_len (L : List (Int × Nat)) : (psK L).length = L.length * 2 := by
  unfold psK
  induction L with
  | nil => rfl
  | cons p L ih => rw [List.flatMap_cons, List.length_append, ih]; simp; omega
theorem psK_get (L : List (Int × Nat)) (j : Nat) (h : j < L.length) : (psK L)[2 * j]? = some (.int .i64 (L.getD j (0, 0)).1) ∧ (psK L)[2 * j + 1]? = some (.int .i64 ((L.getD j (0, 0)).2 : Nat)) := by
  induction L generalizing j with
  | nil => simp at h
  | cons p L ih =>
    have e : psK (p :: L) = .int .i64 p.1 :: .int .i64 (p.2 : Nat) :: psK L := rfl
    rw [e]
    cases j with
    | zero => exact ⟨rfl, rfl⟩
    | succ j =>
      have := ih j (by simpa using h)
      simp only [List.getD_cons_succ]
      rw [show 2 * (j + 1) = 2 * j + 1 + 1 by omega]
      simp only [List.getElem?_cons_succ]
      exact this
/-- A list of passes in memory (of whatever numbers). -/
def IsPasses (w : World) (a : Option Addr) (n : Nat) (L : List (Int × Int)) : Prop :=
  L.length = n ∧ (0 < n → ∃ b o, a = some ⟨b, o, none⟩ ∧ b < w.heap.size ∧ ∀ j, j < n → w.cell? ⟨b, o + j * 2, none⟩ = some (.int .i64 (L.getD j (0, 0)).1) ∧ w.cell? ⟨b, o + j * 2 + 1, none⟩ = some (.int .i64 (L.getD j (0, 0)).2))
theorem IsPasses.below {w w' : World} {a : Option Addr} {n : Nat} {L : List (Int × Int)} (h : IsPasses w a n L) (hb : Below w.heap.size w w') : IsPasses w' a n L := by
  refine ⟨h.1, fun hn => ?_⟩
  obtain ⟨b, o, h1, h2, h3⟩ := h.2 hn
  exact ⟨b, o, h1, Nat.lt_of_lt_of_le h2 hb.size, fun j hj => ⟨bCs hb (h3 j hj).1, bCs hb (h3 j hj).2⟩⟩
def pI (L : List (Int × Nat)) : List (Int × Int) := L.map fun p => (p.1, (p.2 : Int))
theorem own_passes {w : World} {base : Nat} {A : Option Addr} {n C : Nat} {L : List (Int × Nat)} (hl : L.length = n) (h : w.ownsRow base 43 2 (.slice A n C) n (psK L)) : IsPasses w A n (pI L) := by
  refine ⟨by unfold pI; rw [List.length_map]; exact hl, fun hn => ?_⟩
  rcases h.2 with ⟨e, e0⟩ | ⟨g, cap, cur, e, hb, hg, h3, h4, h5, h6⟩
  · omega
  · injection e with e1
    refine ⟨g, 0, e1, (Array.getElem?_eq_some_iff.1 hg).1, fun j hj => ?_⟩
    have hc : ∀ r u, r < 2 → (psK L)[2 * j + r]? = some u → w.cell? ⟨g, 0 + j * 2 + r, none⟩ = some u := fun r u hr hu => by
      have h7 : cur[2 * j + r]? = some u := by
        rw [← Array.getElem?_toList, ← List.getElem?_take_of_lt (show 2 * j + r < n * 2 by omega), h6]
        exact hu
      rw [show 0 + j * 2 + r = 2 * j + r by omega]
      simp [World.cell?, hg, h7]
    have hg2 := psK_get L j (by omega)
    have e : (pI L).getD j (0, 0) = ((L.getD j (0, 0)).1, ((L.getD j (0, 0)).2 : Int)) := by
      unfold pI
      rw [List.getD_eq_getElem?_getD, List.getElem?_map, List.getD_eq_getElem?_getD, List.getElem?_eq_getElem (by omega)]
      rfl
    rw [e]
    exact ⟨hc 0 _ (by omega) hg2.1, hc 1 _ (by omega) hg2.2⟩
theorem okPass : ElemOk 24 43 2 16 (.agg #[.int .i64 0, .int .i64 0]) := ⟨Try.underlying24, by kernel_rfl, rfl, by omega⟩
end Go.Proofs.Ytoooihoaapfjeaa
