/- Lemmas and contracts of functions (what each call returns, and that it changes nothing that was there) that the proof of a law of this seat uses; each lemma states its own conditions. -/
import Derived.Test.YtdaacjaibfcacaaB05
namespace Go.Proofs.Ytdaacjaibfcacaa
open Go.RowKit
set_option linter.unusedVariables false
set_option linter.unusedSimpArgs false
namespace Z
def rkM (g : Nat) (m : Mv) : Nat := (if m.f then g else 0) + m.t
/-- Does a kind begin at i? -/
def newK (L : List Mv) (i : Nat) : Bool := i == 0 || (L.getD (i - 1) idm).f != (L.getD i idm).f || (L.getD (i - 1) idm).t != (L.getD i idm).t
def kdI (L : List Mv) : Nat → Nat
  | 0 => 0
  | i + 1 => kdI L i + if newK L i then 1 else 0
theorem countP_or_one {l : List Nat} (hl : l.Nodup) (p : Nat → Bool) {r : Nat} (hr : r ∈ l) (hp : p r = false) : l.countP (fun v => p v || r == v) = l.countP p + 1 := by
  rw [countP_sum, countP_sum]
  have h1 : sumL l (fun v => if r == v then 1 else 0) = 1 := by
    rw [sumL_one hl hr (fun x _ hx => by simp [Ne.symm hx])]
    simp
  refine Eq.trans ?_ (congrArg (fun z => sumL l (fun v => if p v then 1 else 0) + z) h1)
  rw [← sumL_add]
  refine sumL_congr fun v _ => ?_
  by_cases e : r = v
  · subst e; simp [hp]
  · simp [e]
theorem rkM_eq {g : Nat} {a b : Mv} (ha : a.t < g) (hb : b.t < g) : rkM g a = rkM g b ↔ a.t = b.t ∧ a.f = b.f := by
  unfold rkM
  cases a.f <;> cases b.f <;> simp <;> omega
theorem kd_count {g : Nat} {L : List Mv} (hs : ∀ i j, i < j → j < L.length → rkM g (L.getD i idm) ≤ rkM g (L.getD j idm)) (ht : ∀ i, i < L.length → (L.getD i idm).t < g) :
    ∀ i, i ≤ L.length → kdI L i = (List.range (2 * g)).countP fun v => (List.range i).any fun j => rkM g (L.getD j idm) == v
  | 0, _ => by simp [kdI]
  | i + 1, hi => by
    have ih := kd_count hs ht i (by omega)
    have hti := ht i (by omega)
    simp only [kdI]
    rw [ih]
    have hstep : ∀ v, ((List.range (i + 1)).any fun j => rkM g (L.getD j idm) == v) = (((List.range i).any fun j => rkM g (L.getD j idm) == v) || rkM g (L.getD i idm) == v) := fun v => by
      rw [List.range_succ, List.any_append]; simp
    simp only [hstep]
    cases hk : newK L i with
    | true =>
      rw [if_pos rfl, countP_or_one List.nodup_range]
      · rw [List.mem_range]; unfold rkM; split <;> omega
      · rw [List.any_eq_false]
        intro j hj e
        rw [List.mem_range] at hj
        have e2 := eq_of_beq e
        have h1 := hs j i hj (by omega)
        have h2 : i ≠ 0 := by omega
        have h3 : rkM g (L.getD (i - 1) idm) = rkM g (L.getD i idm) := by
          rcases Nat.lt_or_ge j (i - 1) with h | h
          · have h4 := hs j (i - 1) h (by omega)
            have h5 := hs (i - 1) i (by omega) (by omega)
            omega
          · obtain rfl : j = i - 1 := by omega
            exact e2
        obtain ⟨h6, h7⟩ := (rkM_eq (ht (i - 1) (by omega)) hti).1 h3
        unfold newK at hk
        rw [h6, h7] at hk
        simp at hk
        exact h2 hk
    | false =>
      rw [if_neg (by simp), Nat.add_zero]
      refine (List.countP_congr fun v _ => ?_).symm
      unfold newK at hk
      simp only [Bool.or_eq_false_iff, bne_eq_false_iff_eq, beq_eq_false_iff_ne] at hk
      obtain ⟨⟨h0, h1⟩, h2⟩ := hk
      have h3 : rkM g (L.getD (i - 1) idm) = rkM g (L.getD i idm) := (rkM_eq (ht (i - 1) (by omega)) hti).2 ⟨h2, h1⟩
      constructor
      · intro h
        rw [Bool.or_eq_true] at h
        rcases h with h | h
        · exact h
        · rw [List.any_eq_true]
          exact ⟨i - 1, List.mem_range.2 (by omega), by rw [h3]; exact h⟩
      · intro h
        rw [Bool.or_eq_true]
        exact .inl h
theorem length_by (g : Nat) (f : Mv → Nat) (m : Nat) : ∀ L : List Mv, (∀ x ∈ L, f x < m) → L.length = sumL (List.range m) fun v => L.countP fun x => f x == v
  | [], _ => by rw [sumL_zero]; rfl; intro x _; rfl
  | a :: L, h => by
    have ih := length_by g f m L (fun x hx => h x (List.mem_cons_of_mem _ hx))
    have h1 : ∀ v, (a :: L).countP (fun x => f x == v) = L.countP (fun x => f x == v) + (if f a == v then 1 else 0) := fun v => List.countP_cons
    simp only [h1]
    rw [sumL_add, ← ih, List.length_cons]
    congr 1
    rw [sumL_one List.nodup_range (List.mem_range.2 (h a (List.mem_cons_self ..))) (fun x _ hx => by simp [Ne.symm hx])]
    simp
theorem allM_sorted (g n : Nat) : (Z.allM (g : Int) n).Pairwise fun a b => rkM g a ≤ rkM g b := by
  unfold Z.allM
  rw [Int.toNat_natCast, List.pairwise_flatMap]
  refine ⟨fun f _ => ?_, ?_⟩
  · rw [List.pairwise_flatMap]
    refine ⟨fun t _ => ?_, ?_⟩
    · rw [List.pairwise_map]
      exact List.Pairwise.imp_of_mem (fun {a b} _ _ _ => by simp [rkM]) List.nodup_range
    · refine List.Pairwise.imp_of_mem ?_ List.pairwise_lt_range
      intro a b _ _ hlt x hx y hy
      simp only [List.mem_map] at hx hy
      obtain ⟨_, _, rfl⟩ := hx
      obtain ⟨_, _, rfl⟩ := hy
      simp only [rkM]
      omega
  · simp only [List.pairwise_cons, List.mem_cons, List.not_mem_nil, or_false, List.Pairwise.nil, and_true]
    refine ⟨?_, fun _ h => h.elim⟩
    intro b hb x hx y hy
    subst hb
    simp only [List.mem_flatMap, List.mem_map, List.mem_range] at hx hy
    obtain ⟨t, ht, _, _, rfl⟩ := hx
    obtain ⟨_, _, _, _, rfl⟩ := hy
    simp [rkM]
    omega
/-- As many moves as steps, times the turns and mirrors that there are. -/
theorem kinds_count {g W H n : Nat} {cs : List Int} (hg : G (g : Int)) (hn : 0 < n) (hW : W ∣ n) (hH : H ∣ n) {a b : Nat} {c : Int} (hf : Fine (Stp (colP W H cs)) a b c) :
    (movesL W H cs g n).length * a * b = kdI (movesL W H cs g n) (movesL W H cs g n).length * n * n := by
  have grp := movesL_grp (cs := cs) (g := (g : Int)) hn hW hH
  have per := colP_per cs hW hH
  have hsort : (movesL W H cs g n).Pairwise fun a b => rkM g a ≤ rkM g b := List.Pairwise.filter _ (allM_sorted g n)
  have hst := steps_count grp hg hn per hf
  generalize movesL W H cs g n = L at *
  have hget : ∀ i, i < L.length → L.getD i idm ∈ L := fun i hi => by
    rw [List.getD_eq_getElem?_getD, List.getElem?_eq_getElem hi]; exact List.getElem_mem hi
  have ht : ∀ m ∈ L, m.t < g := fun m hm => by have := grp.ok hm; unfold okT at this; omega
  have hs : ∀ i j, i < j → j < L.length → rkM g (L.getD i idm) ≤ rkM g (L.getD j idm) := fun i j hij hj => by
    rw [List.pairwise_iff_getElem] at hsort
    have := hsort i j (by omega) hj hij
    rw [List.getD_eq_getElem?_getD, List.getElem?_eq_getElem (by omega), List.getD_eq_getElem?_getD, List.getElem?_eq_getElem hj]
    exact this
  have h1 := kd_count hs (fun i hi => ht _ (hget i hi)) L.length (Nat.le_refl _)
  have h2 := length_by g (rkM g) (2 * g) L (fun x hx => by have := ht x hx; unfold rkM; split <;> omega)
  have h3 : L.length = kdI L L.length * (torusL n).countP (stepB L) := by
    rw [h1, ← sumL_countP]
    refine h2.trans (sumL_congr fun v _ => ?_)
    cases hp : (List.range L.length).any fun j => rkM g (L.getD j idm) == v with
    | false =>
      rw [if_neg (by simp), List.countP_eq_zero]
      intro x hx e
      rw [List.any_eq_false] at hp
      obtain ⟨i, hi, rfl⟩ := List.mem_iff_getElem.1 hx
      refine hp i (List.mem_range.2 hi) ?_
      rw [List.getD_eq_getElem?_getD, List.getElem?_eq_getElem hi]
      exact e
    | true =>
      rw [if_pos rfl]
      rw [List.any_eq_true] at hp
      obtain ⟨j, hj, e⟩ := hp
      have hm := hget j (List.mem_range.1 hj)
      have e2 := eq_of_beq e
      rw [← block_count grp hg hn per hm]
      refine List.countP_congr fun x hx => ?_
      rw [keyB_iff, beq_iff_eq, ← e2, rkM_eq (ht x hx) (ht _ hm)]
  rw [Nat.mul_assoc]
  conv => lhs; rw [h3]
  rw [Nat.mul_assoc, hst, Nat.mul_assoc]
end Z
end Go.Proofs.Ytdaacjaibfcacaa
