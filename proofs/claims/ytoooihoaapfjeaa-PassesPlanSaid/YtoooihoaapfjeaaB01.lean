/- Lemmas and contracts of functions (what each call returns, and that it changes nothing that was there) that the proof of a law of this seat uses; each lemma states its own conditions. -/
import Derived.Test.YtoooihoaapfjeaaRows
import Derived.WalkKit
import Derived.WalkSpells
import Derived.WalkLawsBesides
import Derived.Lib.Hide
import Derived.Deep.RegionHeld3
import Derived.Deep.QuietTactic
import Derived.BigQuiet
import Derived.Deep.OwnRows
namespace Go.Proofs.Ytoooihoaapfjeaa
open Go.RowKit
set_option linter.unusedVariables false
set_option linter.unusedSimpArgs false
def extW (W : World) (E : Array Obj) (d : Nat) : World := { W with heap := W.heap ++ E, drawn := d }
section
variable {W : World} {E : Array Obj} {d : Nat}
@[go_sem, simp] theorem size_extW : (extW W E d).heap.size = W.heap.size + E.size := by simp [extW]
@[go_sem, simp] theorem tape_extW : (extW W E d).tape = W.tape := rfl
@[go_sem, simp] theorem extW_drew : (extW W E d).drew = extW W E (d+1) := rfl
@[go_sem, simp] theorem drew_extW : extW W.drew E d = extW W E d := rfl
@[go_sem, simp] theorem drewN_extW (n : Nat) : extW (W.drewN n) E d = extW W E d := rfl
@[go_sem, simp] theorem extW_drewN (n : Nat) : (extW W E d).drewN n = extW W E (d+n) := rfl
theorem heap_extW (n : Nat) (hn : n < W.heap.size) : (extW W E d).heap[n]? = W.heap[n]? := by
  simp [extW, Array.getElem?_append, hn]
theorem bExt {W w1 : World} (h : Below W.heap.size W w1) : ∃ E d, w1 = extW W E d := by
  refine ⟨w1.heap.extract W.heap.size w1.heap.size, w1.drawn, ?_⟩
  have hh : w1.heap = W.heap ++ w1.heap.extract W.heap.size w1.heap.size := by
    apply Array.ext_getElem?
    intro k
    have := h.size
    rcases Nat.lt_or_ge k W.heap.size with hk | hk
    · rw [h.block k hk, Array.getElem?_append_left hk]
    · rw [Array.getElem?_append_right hk, Array.getElem?_extract]
      simp only [Nat.min_self]
      split
      · congr 1; omega
      · rw [Array.getElem?_eq_none (by omega)]
  obtain ⟨h1, t1, d1, o1, p1⟩ := w1
  have ho := h.os
  have ht := h.tape
  have hp := h.output
  simp only at ho ht hp hh
  subst ho ht hp
  unfold extW
  simp only
  rw [← hh]
theorem bExtW {B : Nat} {a : World} (h : Below B a W) (hB : B ≤ W.heap.size) : Below B a (extW W E d) :=
  h.trans ⟨rfl, rfl, rfl, by simp, fun k hk => heap_extW k (by omega)⟩
end
/-- Block n lies in W. -/
def LtW (n : Nat) (W : World) : Prop := n < W.heap.size
theorem LtW.lt {n : Nat} {W : World} (h : LtW n W) : n < W.heap.size := h
section
variable {W : World} {E : Array Obj} {d : Nat}
@[go_sem] theorem LtW_alloc (n : Nat) (o : Obj) : LtW n (W.alloc o) ↔ (n = W.heap.size ∨ LtW n W) := by
  unfold LtW; rw [World.size_alloc]; omega
@[go_sem] theorem LtW_drew (n : Nat) : LtW n W.drew ↔ LtW n W := Iff.rfl
@[go_sem] theorem LtW_drewN (n k : Nat) : LtW n (W.drewN k) ↔ LtW n W := Iff.rfl
@[go_sem] theorem LtW_setCell (n : Nat) (a : Addr) (v : Value) : LtW n (W.setCell a v) ↔ LtW n W := by
  unfold LtW; rw [World.size_setCell]
@[go_sem] theorem LtW_extW (n : Nat) : LtW n (extW W E d) ↔ (LtW n W ∨ (W.heap.size ≤ n ∧ n < W.heap.size + E.size)) := by
  unfold LtW; rw [size_extW]; omega
@[go_sem] theorem cell?_extW (n i : Nat) (hn : LtW n W) : (extW W E d).cell? ⟨n, i, none⟩ = W.cell? ⟨n, i, none⟩ :=
  World.cell?_of_block (w := W) (heap_extW n hn)
@[go_sem] theorem frozen?_extW (n i : Nat) (hn : LtW n W) : (extW W E d).frozen? ⟨n, i, none⟩ = W.frozen? ⟨n, i, none⟩ :=
  World.frozen?_of_block (w := W) (heap_extW n hn)
@[go_sem] theorem shape?_extW (n : Nat) (hn : LtW n W) : (extW W E d).shape? n = W.shape? n := by
  simp [World.shape?, heap_extW n hn]
@[go_sem] theorem setCell_extW (n i : Nat) (v : Value) (hn : LtW n W) : (extW W E d).setCell ⟨n, i, none⟩ v = extW (W.setCell ⟨n, i, none⟩ v) E d := by
  have hn := hn.lt
  unfold World.setCell extW
  congr 1
  apply Array.ext_getElem?
  intro k
  simp only [Array.getElem?_modify, Array.getElem?_append, Array.size_modify]
  by_cases hk : k = n
  · subst hk; simp [hn]
  · simp [Ne.symm hk]
@[go_sem] theorem setCell_alloc_LtW (o : Obj) (n i : Nat) (v : Value) (hn : LtW n W) : (W.alloc o).setCell ⟨n, i, none⟩ v = (W.setCell ⟨n, i, none⟩ v).alloc o := World.setCell_alloc_past o n i v hn
@[go_sem] theorem cell?_alloc_LtW (o : Obj) (n i : Nat) (hn : LtW n W) : (W.alloc o).cell? ⟨n, i, none⟩ = W.cell? ⟨n, i, none⟩ := World.cell?_alloc_past o n i hn
@[go_sem] theorem frozen?_alloc_LtW (o : Obj) (n i : Nat) (hn : LtW n W) : (W.alloc o).frozen? ⟨n, i, none⟩ = W.frozen? ⟨n, i, none⟩ := World.frozen?_alloc_past o n i hn
theorem bCs {W w' : World} (hb : Below W.heap.size W w') {p : Addr} {v : Value} (h : W.cell? p = some v) : w'.cell? p = some v :=
  (hb.cell (World.block_lt_of_cell? W _ h)).trans h
end
end Go.Proofs.Ytoooihoaapfjeaa

namespace Go.Proofs.Ytoooihoaapfjeaa
open Go.RowKit
set_option linter.unusedVariables false
set_option linter.unusedSimpArgs false
namespace Ps
/-- Is loop i moved by a pass? -/
def bit (w i : Nat) : Bool := (w / 2 ^ i) % 2 == 1
/-- Loops behind a pass. -/
def mv (at_ : List Int) (b : Int) (w : Nat) : List Int := at_.mapIdx fun i x => if bit w i then x + b else x
/-- May loop i stand so? -/
def okAt (to : List Int) (sl : Int) (at_ : List Int) (i : Nat) : Prop :=
  0 ≤ at_.getD i 0 ∧ at_.getD i 0 < 12 ∧ (0 < i → at_.getD (i - 1) 0 ≤ at_.getD i 0 ∧ at_.getD i 0 - at_.getD (i - 1) 0 ≤ sl ∧ (at_.getD i 0 = at_.getD (i - 1) 0 → to.getD i 0 = to.getD (i - 1) 0))
instance (to : List Int) (sl : Int) (at_ : List Int) (i : Nat) : Decidable (okAt to sl at_ i) := by unfold okAt; infer_instance
/-- May loops stand so? -/
def okS (to : List Int) (sl : Int) (at_ : List Int) : Prop := ∀ i, i < at_.length → okAt to sl at_ i
instance (to : List Int) (sl : Int) (at_ : List Int) : Decidable (okS to sl at_) := by unfold okS; infer_instance
def valid (n : Nat) (p : Int × Nat) : Prop := (p.1 = -2 ∨ p.1 = -1 ∨ p.1 = 1 ∨ p.1 = 2) ∧ 1 ≤ p.2 ∧ p.2 < 2 ^ n
/-- All passes, in their order. -/
def PL (n : Nat) : List (Int × Nat) := [(-2 : Int), -1, 1, 2].flatMap fun b => (List.range (2 ^ n - 1)).map fun w => (b, w + 1)
theorem mem_PL {n : Nat} {p : Int × Nat} : p ∈ PL n ↔ valid n p := by
  unfold PL valid
  simp only [List.mem_flatMap, List.mem_map, List.mem_range, List.mem_cons, List.not_mem_nil, or_false]
  have h2 : 1 ≤ 2 ^ n := Nat.one_le_two_pow
  constructor
  · rintro ⟨b, hb, w, hw, rfl⟩
    exact ⟨hb, by simp only; omega, by simp only; omega⟩
  · rintro ⟨hb, h1, h3⟩
    exact ⟨p.1, hb, p.2 - 1, by omega, by obtain ⟨b, w⟩ := p; simp only at *; congr 1; omega⟩
theorem mv_len (at_ : List Int) (b : Int) (w : Nat) : (mv at_ b w).length = at_.length := by unfold mv; simp
theorem mv_get (at_ : List Int) (b : Int) (w i : Nat) (h : i < at_.length) : (mv at_ b w).getD i 0 = if bit w i then at_.getD i 0 + b else at_.getD i 0 := by
  unfold mv
  rw [List.getD_eq_getElem?_getD, List.getElem?_mapIdx, List.getD_eq_getElem?_getD, List.getElem?_eq_getElem h]
  rfl
theorem ext_getD {a b : List Int} (h : a.length = b.length) (h2 : ∀ i, i < a.length → a.getD i 0 = b.getD i 0) : a = b := by
  apply List.ext_getElem h
  intro i h3 h4
  have := h2 i h3
  rw [List.getD_eq_getElem?_getD, List.getD_eq_getElem?_getD, List.getElem?_eq_getElem h3, List.getElem?_eq_getElem h4] at this
  exact this
/-- Passes go back as they go there. -/
theorem mv_back (at_ : List Int) (b : Int) (w : Nat) : mv (mv at_ b w) (-b) w = at_ := by
  refine ext_getD (by rw [mv_len, mv_len]) fun i hi => ?_
  rw [mv_len, mv_len] at hi
  rw [mv_get _ _ _ _ (by rw [mv_len]; exact hi), mv_get _ _ _ _ hi]
  split <;> omega
theorem mv_back' (at_ : List Int) (b : Int) (w : Nat) : mv (mv at_ (-b) w) b w = at_ := by
  have := mv_back at_ (-b) w
  rwa [Int.neg_neg] at this
/-- Do these passes do it? -/
def doesIt (to : List Int) (sl : Int) : List Int → List (Int × Nat) → Prop
  | at_, [] => at_ = to
  | at_, p :: l => okS to sl (mv at_ p.1 p.2) ∧ doesIt to sl (mv at_ p.1 p.2) l
/-- k passes do it. -/
def dist (to : List Int) (sl : Int) (k : Nat) (at_ : List Int) : Prop := ∃ l, l.length = k ∧ (∀ p ∈ l, valid to.length p) ∧ doesIt to sl at_ l
/-- Ways to stand that are known, each with how far it is; one of them is looked round from. -/
def step1 (to : List Int) (sl : Int) (s : List Int) (d : Nat) (E : List (List Int × Nat)) (p : Int × Nat) : List (List Int × Nat) :=
  if okS to sl (mv s (-p.1) p.2) ∧ mv s (-p.1) p.2 ∉ E.map (·.1) then E ++ [(mv s (-p.1) p.2, d + 1)] else E
def rnd (to : List Int) (sl : Int) (s : List Int) (d : Nat) (E : List (List Int × Nat)) (l : List (Int × Nat)) : List (List Int × Nat) := l.foldl (step1 to sl s d) E
def z : List Int × Nat := ([], 0)
def bfs (to : List Int) (sl : Int) : Nat → List (List Int × Nat)
  | 0 => [(to, 0)]
  | i + 1 => if i < (bfs to sl i).length then rnd to sl ((bfs to sl i).getD i z).1 ((bfs to sl i).getD i z).2 (bfs to sl i) (PL to.length) else bfs to sl i
/-- What holds while one is looked round from. -/
structure In (to : List Int) (sl : Int) (i : Nat) (E : List (List Int × Nat)) : Prop where
  nd : (E.map (·.1)).Nodup
  ok : ∀ e ∈ E, okS to sl e.1 ∧ e.1.length = to.length
  ds : ∀ e ∈ E, dist to sl e.2 e.1
  so : ∀ j k, j ≤ k → k < E.length → (E.getD j z).2 ≤ (E.getD k z).2
  up : ∀ j, i < E.length → j < E.length → (E.getD j z).2 ≤ (E.getD i z).2 + 1
  cl : ∀ j, j < i → ∀ s p, okS to sl s → s.length = to.length → valid to.length p → mv s p.1 p.2 = (E.getD j z).1 → ∃ k, k < E.length ∧ (E.getD k z).1 = s ∧ (E.getD k z).2 ≤ (E.getD j z).2 + 1
theorem getD_left {E : List (List Int × Nat)} {x : List Int × Nat} {j : Nat} (h : j < E.length) : (E ++ [x]).getD j z = E.getD j z := by
  rw [List.getD_eq_getElem?_getD, List.getElem?_append_left h, List.getD_eq_getElem?_getD]
theorem getD_last {E : List (List Int × Nat)} {x : List Int × Nat} : (E ++ [x]).getD E.length z = x := by
  rw [List.getD_eq_getElem?_getD, List.getElem?_append_right (Nat.le_refl _)]; simp
theorem getD_mem' {E : List (List Int × Nat)} {j : Nat} (h : j < E.length) : E.getD j z ∈ E := by
  rw [List.getD_eq_getElem?_getD, List.getElem?_eq_getElem h]; exact List.getElem_mem h
theorem mem_fst {E : List (List Int × Nat)} {s : List Int} (h : s ∈ E.map (·.1)) : ∃ k, k < E.length ∧ (E.getD k z).1 = s := by
  obtain ⟨e, he, rfl⟩ := List.mem_map.1 h
  obtain ⟨k, hk, e2⟩ := List.getElem_of_mem he
  exact ⟨k, hk, by rw [List.getD_eq_getElem?_getD, List.getElem?_eq_getElem hk, Option.getD_some, e2]⟩
/-- One pass is looked at; passes are those that were looked at. -/
theorem In.step {to : List Int} {sl : Int} {i : Nat} {E : List (List Int × Nat)} (h : In to sl i E) (hi : i < E.length) {p : Int × Nat} (hp : valid to.length p) :
    In to sl i (step1 to sl (E.getD i z).1 (E.getD i z).2 E p) ∧ E.length ≤ (step1 to sl (E.getD i z).1 (E.getD i z).2 E p).length ∧ (∀ j, j < E.length → (step1 to sl (E.getD i z).1 (E.getD i z).2 E p).getD j z = E.getD j z) ∧
    (∀ s, okS to sl s → mv s p.1 p.2 = (E.getD i z).1 → ∃ k, k < (step1 to sl (E.getD i z).1 (E.getD i z).2 E p).length ∧ ((step1 to sl (E.getD i z).1 (E.getD i z).2 E p).getD k z).1 = s) := by
  unfold step1
  have hme := getD_mem' hi
  by_cases hc : okS to sl (mv (E.getD i z).1 (-p.1) p.2) ∧ mv (E.getD i z).1 (-p.1) p.2 ∉ E.map (·.1)
  · rw [if_pos hc]
    obtain ⟨hok, hnew⟩ := hc
    have hlen : (mv (E.getD i z).1 (-p.1) p.2).length = to.length := by rw [mv_len]; exact (h.ok _ hme).2
    have hds : dist to sl ((E.getD i z).2 + 1) (mv (E.getD i z).1 (-p.1) p.2) := by
      obtain ⟨l, h1, h2, h3⟩ := h.ds _ hme
      refine ⟨p :: l, by simp [h1], ?_, ?_⟩
      · intro q hq
        rcases List.mem_cons.1 hq with rfl | hq
        · exact hp
        · exact h2 q hq
      · show okS to sl (mv (mv _ _ _) _ _) ∧ doesIt to sl (mv (mv _ _ _) _ _) l
        rw [mv_back']
        exact ⟨(h.ok _ hme).1, h3⟩
    refine ⟨⟨?_, ?_, ?_, ?_, ?_, ?_⟩, by simp, fun j hj => getD_left hj, ?_⟩
    · rw [List.map_append, List.nodup_append]
      refine ⟨h.nd, by simp, ?_⟩
      intro a ha b hb
      simp at hb
      subst hb
      intro e
      exact hnew (e ▸ ha)
    · intro e he
      rcases List.mem_append.1 he with he | he
      · exact h.ok e he
      · simp at he; subst he; exact ⟨hok, hlen⟩
    · intro e he
      rcases List.mem_append.1 he with he | he
      · exact h.ds e he
      · simp at he; subst he; exact hds
    · intro j k hjk hk
      rw [List.length_append, List.length_singleton] at hk
      by_cases hk2 : k < E.length
      · rw [getD_left hk2, getD_left (by omega)]; exact h.so j k hjk hk2
      · obtain rfl : k = E.length := by omega
        rw [getD_last]
        by_cases hj : j < E.length
        · rw [getD_left hj]; exact h.up j hi hj
        · obtain rfl : j = E.length := by omega
          rw [getD_last]; exact Nat.le_refl _
    · intro j _ hj
      rw [List.length_append, List.length_singleton] at hj
      rw [getD_left hi]
      by_cases hj2 : j < E.length
      · rw [getD_left hj2]; exact h.up j hi hj2
      · obtain rfl : j = E.length := by omega
        rw [getD_last]; exact Nat.le_refl _
    · intro j hj s q hs hsl hq he
      rw [getD_left (by omega)] at he ⊢
      obtain ⟨k, k1, k2, k3⟩ := h.cl j hj s q hs hsl hq he
      exact ⟨k, by rw [List.length_append]; omega, by rw [getD_left k1]; exact k2, by rw [getD_left k1]; exact k3⟩
    · intro s _ hs
      refine ⟨E.length, by simp, ?_⟩
      rw [getD_last, ← hs, mv_back]
  · rw [if_neg hc]
    refine ⟨h, Nat.le_refl _, fun j _ => rfl, fun s hok hs => ?_⟩
    have e : mv (E.getD i z).1 (-p.1) p.2 = s := by rw [← hs, mv_back]
    rw [e] at hc
    have hm : s ∈ E.map (·.1) := by
      by_cases hm : s ∈ E.map (·.1)
      · exact hm
      · exact absurd ⟨hok, hm⟩ hc
    exact mem_fst hm
theorem In.rnd {to : List Int} {sl : Int} {i : Nat} : ∀ (l : List (Int × Nat)) (E : List (List Int × Nat)), In to sl i E → i < E.length → (∀ p ∈ l, valid to.length p) →
    In to sl i (rnd to sl (E.getD i z).1 (E.getD i z).2 E l) ∧ E.length ≤ (rnd to sl (E.getD i z).1 (E.getD i z).2 E l).length ∧ (∀ j, j < E.length → (rnd to sl (E.getD i z).1 (E.getD i z).2 E l).getD j z = E.getD j z) ∧
    (∀ p ∈ l, ∀ s, okS to sl s → mv s p.1 p.2 = (E.getD i z).1 → ∃ k, k < (rnd to sl (E.getD i z).1 (E.getD i z).2 E l).length ∧ ((rnd to sl (E.getD i z).1 (E.getD i z).2 E l).getD k z).1 = s)
  | [], E, h, hi, _ => ⟨h, Nat.le_refl _, fun j _ => rfl, fun p hp => by simp at hp⟩
  | p :: l, E, h, hi, hv => by
    obtain ⟨a1, a2, a3, a4⟩ := h.step hi (hv p (by simp))
    have hi2 : i < (step1 to sl (E.getD i z).1 (E.getD i z).2 E p).length := by omega
    have r := In.rnd l _ a1 hi2 (fun q hq => hv q (by simp [hq]))
    rw [a3 i hi] at r
    obtain ⟨b1, b2, b3, b4⟩ := r
    refine ⟨b1, Nat.le_trans a2 b2, fun j hj => (b3 j (by omega)).trans (a3 j hj), ?_⟩
    intro q hq s hs he
    rcases List.mem_cons.1 hq with rfl | hq
    · obtain ⟨k, k1, k2⟩ := a4 s hs he
      have b3k := b3 k k1
      exact ⟨k, Nat.lt_of_lt_of_le k1 b2, by rw [show Ps.rnd to sl (E.getD i z).1 (E.getD i z).2 E (q :: l) = Ps.rnd to sl (E.getD i z).1 (E.getD i z).2 (step1 to sl (E.getD i z).1 (E.getD i z).2 E q) l from rfl, b3k]; exact k2⟩
    · exact b4 q hq s hs he
/-- All that is known behind i rounds. -/
theorem bfs_in {to : List Int} {sl : Int} (ht : okS to sl to) : ∀ i, i ≤ (bfs to sl i).length → In to sl i (bfs to sl i)
  | 0, _ => by
    refine ⟨by simp [bfs], ?_, ?_, ?_, ?_, by omega⟩
    · intro e he; simp [bfs] at he; subst he; exact ⟨ht, rfl⟩
    · intro e he; simp [bfs] at he; subst he; exact ⟨[], rfl, by simp, rfl⟩
    · intro j k hjk hk
      simp [bfs] at hk
      obtain rfl : k = 0 := by omega
      obtain rfl : j = 0 := by omega
      exact Nat.le_refl _
    · intro j _ hj
      simp [bfs] at hj
      subst hj
      omega
  | i + 1, hle => by
    have hi : i < (bfs to sl i).length := by
      by_cases h : i < (bfs to sl i).length
      · exact h
      · simp only [bfs] at hle
        rw [if_neg h] at hle
        omega
    have h := bfs_in ht i (by omega)
    simp only [bfs]
    rw [if_pos hi]
    obtain ⟨b1, b2, b3, b4⟩ := In.rnd (PL to.length) (bfs to sl i) h hi (fun p hp => mem_PL.1 hp)
    generalize Ps.rnd to sl ((bfs to sl i).getD i z).1 ((bfs to sl i).getD i z).2 (bfs to sl i) (PL to.length) = F at *
    refine ⟨b1.nd, b1.ok, b1.ds, b1.so, ?_, ?_⟩
    · intro j h1 hj
      have h2 := b1.so i (i + 1) (by omega) h1
      have h3 := b1.up j (by omega) hj
      omega
    · intro j hj s p hs hsl hp he
      by_cases hji : j < i
      · exact b1.cl j hji s p hs hsl hp he
      · obtain rfl : j = i := by omega
        rw [b3 j hi] at he
        obtain ⟨k, k1, k2⟩ := b4 p (mem_PL.2 hp) s hs he
        exact ⟨k, k1, k2, b1.up k (by omega) k1⟩
/-- Whoever is known is as far as is said; whoever can come is known. -/
theorem bfs_done {to : List Int} {sl : Int} (ht : okS to sl to) {i : Nat} (hi : i = (bfs to sl i).length) : (∀ e ∈ bfs to sl i, okS to sl e.1 ∧ e.1.length = to.length ∧ dist to sl e.2 e.1) ∧
    ∀ k s, okS to sl s → s.length = to.length → dist to sl k s → ∃ e ∈ bfs to sl i, e.1 = s ∧ e.2 ≤ k := by
  have h := bfs_in ht i (by omega)
  have h0 : ∀ i, 0 < (bfs to sl i).length ∧ (bfs to sl i).getD 0 z = (to, 0) := by
    intro i
    induction i with
    | zero => simp [bfs]
    | succ i ih =>
      simp only [bfs]
      split
      · rename_i hlt
        have r := In.rnd (PL to.length) (bfs to sl i) (bfs_in ht i (by omega)) hlt (fun p hp => mem_PL.1 hp)
        exact ⟨by omega, (r.2.2.1 0 ih.1).trans ih.2⟩
      · exact ih
  refine ⟨fun e he => ⟨(h.ok e he).1, (h.ok e he).2, h.ds e he⟩, ?_⟩
  intro k
  induction k with
  | zero =>
    rintro s hs hsl ⟨l, h1, h2, h3⟩
    obtain rfl : l = [] := List.length_eq_zero_iff.1 h1
    obtain ⟨g1, g2⟩ := h0 i
    have h3 : s = to := h3
    refine ⟨(bfs to sl i).getD 0 z, getD_mem' g1, ?_, ?_⟩
    · rw [g2, h3]
    · rw [g2]; exact Nat.le_refl _
  | succ k ih =>
    rintro s hs hsl ⟨l, h1, h2, h3⟩
    match l, h1, h2, h3 with
    | p :: l, h1, h2, h3 =>
      obtain ⟨h4, h5⟩ := h3
      obtain ⟨e, he, e1, e2⟩ := ih (mv s p.1 p.2) h4 (by rw [mv_len]; exact hsl) ⟨l, by simpa using h1, fun q hq => h2 q (by simp [hq]), h5⟩
      obtain ⟨j, hj, ej⟩ := List.getElem_of_mem he
      have ej2 : (bfs to sl i).getD j z = e := by rw [List.getD_eq_getElem?_getD, List.getElem?_eq_getElem hj, Option.getD_some, ej]
      obtain ⟨k2, c1, c2, c3⟩ := h.cl j (by omega) s p hs hsl (h2 p (by simp)) (by rw [ej2, e1])
      rw [ej2] at c3
      exact ⟨_, getD_mem' c1, c2, by omega⟩
end Ps
end Go.Proofs.Ytoooihoaapfjeaa

namespace Go.Proofs.Ytoooihoaapfjeaa
open Go.RowKit
set_option linter.unusedVariables false
set_option linter.unusedSimpArgs false
/-- t is the type of slices of e, an element of 'size' cells and 'bytes' bytes, zero z. -/
def ElemOk (t e size bytes : Nat) (z : Value) : Prop :=
  Try.prog.underlying t = some (.slice e) ∧ (Try.prog.info? e).map (fun i => (i.zero, i.size, i.bytes)) = some (some z, size, bytes) ∧ z.cells.size = size ∧ 0 < size
theorem belowGrown {B : Nat} {W w' : World} {v : Value} (hg : W.grownBy w' v.ownBlock) (hB : B ≤ W.heap.size) (hr : ∀ k, v.ownBlock = some k → B ≤ k) : Below B W w' :=
  (Below.refl B W).grown hg hB hr
/-- 'append(s, x)' of one element x, whose cells are cs. -/
theorem wpApp {W : World} {ops : Array Oper} {rest : List Oper} {o : Oper} {a : Act} {Q : Exit → Act → World → Prop} {t e size bytes : Nat} {z : Value} (hE : ElemOk t e size bytes z)
    (hgd : o.guard = none) (s x : Operand) (ho : o.op = .call { callee := .builtin .append, args := #[s, x], argTypes := #[t, t] })
    (base : Nat) (v : Value) (n : Nat) (xs : List Value) (cs : Array Value) (hs : a.eval s = v) (hown : W.ownsRow base e size v n xs)
    (hx : a.eval x = .slice (some ⟨W.heap.size, 0, none⟩) 1 1) (hl : cs.size = size) (h1 : ∀ u ∈ cs.toList, u.oneCell' = true)
    (hb : bytes ≤ 4096) (hn : n ≤ 1000000000) (hbase : base ≤ W.heap.size)
    (h : ∀ v' w', w'.ownsRow base e size v' (n + 1) (xs ++ cs.toList) → Below base W w' → wpList Try.prog ops Q rest (a.put o.dst v') w') : wpList Try.prog ops Q (o :: rest) a (W.alloc (.cells cs e)) := by
  obtain ⟨h2, h3, h4, h5⟩ := hE
  obtain ⟨i0, hi, hz0, hz1, hz2⟩ := info_parts h3
  refine wpList_append_own _ hgd s x t ho base e i0 z size bytes h2 hi hz0 hz1 hz2 h4 h5 v n xs hs (hown.alloc _) ⟨W.heap.size, 0, none⟩ 1 1 cs.toList hx (by simpa using hl) ?_ h1 (by unfold maxLen; omega) ?_ (by simp; omega) ?_
  · intro j u hj
    have : (⟨W.heap.size, 0, none⟩ : Addr).add j = ⟨W.heap.size, j, none⟩ := by rw [Addr.add_lit]; simp
    rw [this, World.cell?_alloc_new]
    simpa using hj
  · calc (n + 1) * bytes ≤ 1000000001 * 4096 := Nat.mul_le_mul (by omega) hb
      _ ≤ 140737488355328 := by omega
  · intro v' w' hown' hg _
    refine h v' w' hown' ?_
    have hk := hown.lt
    exact ((Below.refl base W).alloc hbase _).trans (belowGrown hg (by simp; omega) fun k hk' => (hk k hk').1)
/-- A list of integers that came in: at address a (of no account where the list is empty). -/
def IsInts (w : World) (a : Option Addr) (n : Nat) (zs : List Int) : Prop :=
  zs.length = n ∧ (0 < n → ∃ b o, a = some ⟨b, o, none⟩ ∧ b < w.heap.size ∧ ∀ j, j < n → w.cell? ⟨b, o + j, none⟩ = some (.int .i64 (zs.getD j 0)))
theorem IsInts.below {w w' : World} {a : Option Addr} {n : Nat} {zs : List Int} (h : IsInts w a n zs) (hb : Below w.heap.size w w') : IsInts w' a n zs := by
  refine ⟨h.1, fun hn => ?_⟩
  obtain ⟨b, o, h1, h2, h3⟩ := h.2 hn
  exact ⟨b, o, h1, Nat.lt_of_lt_of_le h2 hb.size, fun j hj => bCs hb (h3 j hj)⟩
/-- 'make([]T, n)', T of one cell. -/
theorem makeRow {t e bytes : Nat} {z : Value} (hE : ElemOk t e 1 bytes z) (hz : z.cells = #[z]) (n : Nat) (hb : bytes ≤ 4096) (hn : n ≤ 1000000000) : ∀ w : World,
    (Instr.makeSlice t (.int .i64 (n : Int)) (.int .i64 (n : Int))).run Try.prog w = .ok (.slice (some ⟨w.heap.size, 0, none⟩) n n) (w.alloc (.cells (madeCells #[z] n) e)) :=
  run_make_row' t e z bytes hE.1 hE.2.1 hz .i64 .i64 n (Nat.le_trans (Nat.mul_le_mul hb hn) (by omega)) (by omega)
theorem rowBelow {w w' : World} {b t n B : Nat} {f : Nat → Value} (h : w.rowIs b t n f) (hb : Below B w w') (hB : b < B) : w'.rowIs b t n f := h.of_block (hb.block b hB)
theorem getD_set (l : List Int) (i j : Nat) (v : Int) (hi : i < l.length) : (l.set i v).getD j 0 = if j = i then v else l.getD j 0 := by
  rw [List.getD_eq_getElem?_getD, List.getElem?_set, List.getD_eq_getElem?_getD]
  by_cases h : i = j
  · subst h; simp [hi]
  · rw [if_neg h, if_neg (fun e => h e.symm)]
end Go.Proofs.Ytoooihoaapfjeaa
