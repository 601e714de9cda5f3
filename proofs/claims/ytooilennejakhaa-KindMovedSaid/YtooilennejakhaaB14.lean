/- Lemmas and contracts of functions (what each call returns, and that it changes nothing that was there) that the proof of a law of this seat uses; each lemma states its own conditions. -/
import Derived.Test.YtooilennejakhaaB12
import Derived.Test.YtooilennejakhaaB13
import Derived.Test.YtooilennejakhaaRows
import Derived.Test.YtooilennejakhaaB11
import Derived.Test.YtooilennejakhaaB08
import Derived.IntWalk
namespace Go.Proofs.Ytooilennejakhaa
open Go.RowKit
set_option linter.unusedVariables false
set_option linter.unusedSimpArgs false
theorem own_parts {w : World} {base e n c g : Nat} {xs : List Value} (h : w.ownsRow base e 1 (.slice (some ⟨g, 0, none⟩) n c) n xs) : xs.length = n ∧ base ≤ g ∧ n ≤ c ∧ c ≤ maxLen ∧ ∃ cur : Array Value, w.heap[g]? = some (.cells cur e (0, 0)) ∧ cur.size = c ∧ cur.toList.take n = xs := by
  have h0 := h.1
  rcases h.2 with ⟨e1, _⟩ | ⟨g', cap, cur, e1, hb, hg, h1, h2, h3, h4⟩
  · cases e1
  · injection e1 with e1 _ e3
    injection e1 with e1
    injection e1 with e1
    subst e1 e3
    rw [Nat.mul_one] at h0 h3 h4
    exact ⟨h0, hb, h1, h2, cur, hg, h3, h4⟩
theorem own_mk {w : World} {base e n c g : Nat} {xs : List Value} {cur : Array Value} (h0 : xs.length = n) (hb : base ≤ g) (h1 : n ≤ c) (h2 : c ≤ maxLen) (hg : w.heap[g]? = some (.cells cur e (0, 0))) (h3 : cur.size = c) (h4 : cur.toList.take n = xs) : w.ownsRow base e 1 (.slice (some ⟨g, 0, none⟩) n c) n xs :=
  ⟨by omega, .inr ⟨g, c, cur, rfl, hb, hg, h1, h2, by omega, by rw [Nat.mul_one]; exact h4⟩⟩
theorem own_keep {w w' : World} {base e n c g : Nat} {xs : List Value} (h : w.ownsRow base e 1 (.slice (some ⟨g, 0, none⟩) n c) n xs) (he : w'.heap[g]? = w.heap[g]?) : w'.ownsRow base e 1 (.slice (some ⟨g, 0, none⟩) n c) n xs := by
  obtain ⟨a, b, d, f, cur, g1, g2, g3⟩ := own_parts h
  exact own_mk a b d f (he.trans g1) g2 g3
theorem own_base {w : World} {base base' e n c g : Nat} {xs : List Value} (h : w.ownsRow base e 1 (.slice (some ⟨g, 0, none⟩) n c) n xs) (hb : base' ≤ g) : w.ownsRow base' e 1 (.slice (some ⟨g, 0, none⟩) n c) n xs := by
  obtain ⟨a, b, d, f, cur, g1, g2, g3⟩ := own_parts h
  exact own_mk a hb d f g1 g2 g3
theorem own_lt {w : World} {base e n c g : Nat} {xs : List Value} (h : w.ownsRow base e 1 (.slice (some ⟨g, 0, none⟩) n c) n xs) : g < w.heap.size := by
  obtain ⟨a, b, d, f, cur, g1, g2, g3⟩ := own_parts h
  exact (Array.getElem?_eq_some_iff.1 g1).1
theorem own_cell {w : World} {base e n c g i : Nat} {xs : List Value} (h : w.ownsRow base e 1 (.slice (some ⟨g, 0, none⟩) n c) n xs) (hi : i < n) : w.cell? ⟨g, i, none⟩ = xs[i]? ∧ w.frozen? ⟨g, i, none⟩ = false := by
  obtain ⟨a, b, d, f, cur, g1, g2, g3⟩ := own_parts h
  refine ⟨?_, by simp [World.frozen?, g1]⟩
  have h5 : cur[i]? = xs[i]? := by
    rw [← Array.getElem?_toList, ← List.getElem?_take_of_lt hi, g3]
  simp [World.cell?, g1, h5]
theorem own_set {w : World} {base e n c g i : Nat} {xs : List Value} {u : Value} (h : w.ownsRow base e 1 (.slice (some ⟨g, 0, none⟩) n c) n xs) (hi : i < n) : (w.setCell ⟨g, i, none⟩ u).ownsRow base e 1 (.slice (some ⟨g, 0, none⟩) n c) n (xs.set i u) := by
  obtain ⟨a, b, d, f, cur, g1, g2, g3⟩ := own_parts h
  refine own_mk (cur := cur.setIfInBounds i u) (by simpa using a) b d f ?_ (by simpa using g2) ?_
  · simp [World.setCell, Array.getElem?_modify, g1]
  · rw [Array.toList_setIfInBounds, ← g3, List.take_set]
/-- What lies in another block. -/
theorem own_other {w : World} {base e n c g : Nat} {a : Addr} {xs : List Value} {u : Value} (h : w.ownsRow base e 1 (.slice (some ⟨g, 0, none⟩) n c) n xs) (ha : g ≠ a.block) : (w.setCell a u).ownsRow base e 1 (.slice (some ⟨g, 0, none⟩) n c) n xs :=
  own_keep h (Below.heap_setCell _ _ _ g (fun e => ha e))
theorem own_pop {w : World} {base e n c g : Nat} {xs : List Value} {x : Value} (h : w.ownsRow base e 1 (.slice (some ⟨g, 0, none⟩) (n + 1) c) (n + 1) (xs ++ [x])) : w.ownsRow base e 1 (.slice (some ⟨g, 0, none⟩) n c) n xs ∧ w.cell? ⟨g, n, none⟩ = some x := by
  have hc := own_cell h (i := n) (by omega)
  obtain ⟨a, b, d, f, cur, g1, g2, g3⟩ := own_parts h
  have hl : xs.length = n := by simpa using a
  refine ⟨own_mk hl b (by omega) f g1 g2 ?_, ?_⟩
  · have := congrArg (List.take n) g3
    have e2 : (xs ++ [x]).take n = xs := by rw [List.take_append_of_le_length (by omega), List.take_of_length_le (by omega)]
    rw [List.take_take, Nat.min_eq_left (by omega), e2] at this
    exact this
  · rw [hc.1, List.getElem?_append_right (by omega), hl, Nat.sub_self]; rfl
theorem own_some {w : World} {base e n : Nat} {v : Value} {xs : List Value} (h : w.ownsRow base e 1 v n xs) (hn : 0 < n) : ∃ g c, v = .slice (some ⟨g, 0, none⟩) n c := by
  rcases h.2 with ⟨_, e0⟩ | ⟨g', cap, cur, e1, _⟩
  · omega
  · exact ⟨_, _, e1⟩
/-- 'append(s, x)' of one element, which lies in block B; where the new list lies. -/
theorem wpAppK {W : World} {ops : Array Oper} {rest : List Oper} {o : Oper} {a : Act} {Q : Exit → Act → World → Prop} {t e bytes : Nat} {z : Value} (hE : ElemOk t e 1 bytes z)
    (hgd : o.guard = none) (s x : Operand) (ho : o.op = .call { callee := .builtin .append, args := #[s, x], argTypes := #[t, t] })
    (base : Nat) (v : Value) (n : Nat) (xs : List Value) (u : Value) (B : Nat) (hs : a.eval s = v) (hown : W.ownsRow base e 1 v n xs)
    (hx : a.eval x = .slice (some ⟨B, 0, none⟩) 1 1) (hcs : W.cell? ⟨B, 0, none⟩ = some u) (h1 : u.oneCell' = true)
    (hb : bytes ≤ 4096) (hn : n ≤ 100000000) (hbase : base ≤ W.heap.size)
    (h : ∀ v' w', w'.ownsRow base e 1 v' (n + 1) (xs ++ [u]) → W.grownBy w' v.ownBlock → (v'.ownBlock = v.ownBlock ∨ v'.ownBlock = some W.heap.size) → wpList Try.prog ops Q rest (a.put o.dst v') w') : wpList Try.prog ops Q (o :: rest) a W :=
  wpAppV hE hgd s x ho base v n xs (some ⟨B, 0, none⟩) 1 1 [u] hs hown hx (fun e => by cases e) rfl (fun _ => ⟨B, 0, rfl, fun j y hj => by
    have hj0 : j = 0 := by
      have := (List.getElem?_eq_some_iff.1 hj).1
      simpa using this
    subst hj0
    simp at hj
    subst hj
    exact hcs⟩) (fun y hy => by simp at hy; subst hy; exact h1) hb (by omega) hbase h
theorem owns_new {w : World} {base e : Nat} {u : Value} (hb : base ≤ w.heap.size) : (w.alloc (.cells #[u] e)).ownsRow base e 1 (.slice (some ⟨w.heap.size, 0, none⟩) 1 1) 1 [u] :=
  own_mk rfl hb (Nat.le_refl _) (by unfold maxLen; omega) (heap_alloc_new w _) rfl rfl
end Go.Proofs.Ytooilennejakhaa

namespace Go.Proofs.Ytooilennejakhaa.Lo
set_option linter.unusedVariables false
set_option linter.unusedSimpArgs false
/-- How far it goes on from x, at most so far. -/
def crun (f : Nat → Bool) : Nat → Nat → Nat
  | _, 0 => 0
  | x, k + 1 => if f x then crun f (x+1) k + 1 else 0
/-- The greatest of the first k. -/
def mxTo (g : Nat → Nat) : Nat → Nat
  | 0 => 0
  | k + 1 => max (mxTo g k) (g k)
/-- The scan from s on: the run that ends here, and the longest one. -/
def scanTo (f : Nat → Bool) (s most : Nat) : Nat → Nat × Nat
  | 0 => (0, most)
  | i + 1 => if f (s + i) then ((scanTo f s most i).1 + 1, max (scanTo f s most i).2 ((scanTo f s most i).1 + 1)) else (0, (scanTo f s most i).2)
theorem crun_le (f : Nat → Bool) (k : Nat) : ∀ x, crun f x k ≤ k := by
  induction k with
  | zero => intro x; simp [crun]
  | succ k ih => intro x; unfold crun; split; · have := ih (x+1); omega
                 · omega
theorem crun_ge {f : Nat → Bool} {m : Nat} : ∀ {k x : Nat}, m ≤ k → (∀ j, j < m → f (x + j) = true) → m ≤ crun f x k := by
  induction m with
  | zero => intros; omega
  | succ m ih =>
    intro k x hk h
    cases k with
    | zero => omega
    | succ k =>
      have h0 := h 0 (by omega)
      simp only [Nat.add_zero] at h0
      unfold crun
      rw [h0]
      have := ih (k := k) (x := x + 1) (by omega) (fun j hj => by have := h (j+1) (by omega); rwa [show x + (j + 1) = x + 1 + j by omega] at this)
      simp; omega
theorem crun_all {f : Nat → Bool} {k : Nat} : ∀ {x j : Nat}, j < crun f x k → f (x + j) = true := by
  induction k with
  | zero => intro x j h; simp [crun] at h
  | succ k ih =>
    intro x j h
    unfold crun at h
    split at h
    · rename_i h0
      cases j with
      | zero => exact h0
      | succ j =>
        have := ih (x := x + 1) (j := j) (by omega)
        rwa [show x + 1 + j = x + (j + 1) by omega] at this
    · omega
theorem le_mxTo {g : Nat → Nat} {k i : Nat} (h : i < k) : g i ≤ mxTo g k := by
  induction k with
  | zero => omega
  | succ k ih =>
    unfold mxTo
    by_cases e : i = k
    · subst e; omega
    · have := ih (by omega); omega
theorem mxTo_le {g : Nat → Nat} {k m : Nat} (h : ∀ i, i < k → g i ≤ m) : mxTo g k ≤ m := by
  induction k with
  | zero => simp [mxTo]
  | succ k ih =>
    unfold mxTo
    have := ih (fun i hi => h i (by omega))
    have := h k (by omega)
    omega
theorem mxTo_congr {g g' : Nat → Nat} {k : Nat} (h : ∀ i, i < k → g i = g' i) : mxTo g k = mxTo g' k := by
  apply Nat.le_antisymm
  · exact mxTo_le fun i hi => by rw [h i hi]; exact le_mxTo hi
  · exact mxTo_le fun i hi => by rw [← h i hi]; exact le_mxTo hi
theorem scan_len (f : Nat → Bool) (s most i : Nat) : (scanTo f s most i).1 ≤ i ∧ most ≤ (scanTo f s most i).2 ∧ (∀ j, j < (scanTo f s most i).1 → f (s + i - 1 - j) = true) := by
  induction i with
  | zero => simp [scanTo]
  | succ i ih =>
    obtain ⟨h1, h2, h3⟩ := ih
    unfold scanTo
    split
    · rename_i h
      refine ⟨by simp only; omega, by simp only; omega, fun j hj => ?_⟩
      simp only at hj
      cases j with
      | zero => rw [show s + (i+1) - 1 - 0 = s + i by omega]; exact h
      | succ j =>
        have := h3 j (by omega)
        rwa [show s + (i + 1) - 1 - (j + 1) = s + i - 1 - j by omega]
    · exact ⟨by simp only; omega, h2, fun j hj => by simp at hj⟩
theorem scan_mono (f : Nat → Bool) (s most i : Nat) : (scanTo f s most i).2 ≤ (scanTo f s most (i+1)).2 := by
  show _ ≤ (scanTo f s most (i+1)).2
  rw [scanTo]
  split <;> simp only <;> omega
theorem scan_mono' (f : Nat → Bool) (s most i j : Nat) (h : i ≤ j) : (scanTo f s most i).2 ≤ (scanTo f s most j).2 := by
  induction j with
  | zero => obtain rfl : i = 0 := by omega
            exact Nat.le_refl _
  | succ j ih =>
    by_cases e : i = j + 1
    · subst e; exact Nat.le_refl _
    · exact Nat.le_trans (ih (by omega)) (scan_mono f s most j)
theorem scan_run {f : Nat → Bool} {s most m : Nat} : ∀ {i : Nat}, m ≤ i → (∀ j, j < m → f (s + i - 1 - j) = true) → m ≤ (scanTo f s most i).1 := by
  induction m with
  | zero => intros; omega
  | succ m ih =>
    intro i hi h
    cases i with
    | zero => omega
    | succ i =>
      have h0 := h 0 (by omega)
      rw [show s + (i+1) - 1 - 0 = s + i by omega] at h0
      rw [scanTo, if_pos h0]
      have := ih (i := i) (by omega) (fun j hj => by have := h (j+1) (by omega); rwa [show s + (i + 1) - 1 - (j + 1) = s + i - 1 - j by omega] at this)
      simp only; omega
theorem scan_ge {f : Nat → Bool} {s most i : Nat} (h : 0 < (scanTo f s most i).1) : (scanTo f s most i).1 ≤ (scanTo f s most i).2 := by
  cases i with
  | zero => simp [scanTo] at h
  | succ i =>
    rw [scanTo] at h ⊢
    split
    · simp only; omega
    · rename_i h0; rw [if_neg h0] at h; simp at h
theorem scan_le {f : Nat → Bool} {s most B : Nat} (hm : most ≤ B) : ∀ (i : Nat), (∀ j, j ≤ i → (scanTo f s most j).1 ≤ B) → (scanTo f s most i).2 ≤ B := by
  intro i
  induction i with
  | zero => intro _; simpa [scanTo] using hm
  | succ i ih =>
    intro h
    have h1 := ih (fun j hj => h j (by omega))
    have h2 := h (i+1) (by omega)
    rw [scanTo] at h2 ⊢
    split
    · rename_i h0; rw [if_pos h0] at h2; simp only at h2 ⊢; omega
    · exact h1
/-- The scan of one round finds the longest of all runs, going round. -/
theorem scan_max {f : Nat → Bool} {W s most : Nat} (hp : ∀ i, f (i + W) = f i) (hs : s < W) (hf : f s = false) (hW : W ≤ 64) : (scanTo f s most W).2 = max most (mxTo (fun x => crun f x 65) W) := by
  have hper : ∀ i k, f (i + k * W) = f i := by
    intro i k
    induction k with
    | zero => simp
    | succ k ih => rw [Nat.add_mul, Nat.one_mul, ← Nat.add_assoc, hp, ih]
  have hmod : ∀ i, f (i % W) = f i := by
    intro i
    have := hper (i % W) (i / W)
    rw [Nat.mul_comm, Nat.mod_add_div] at this
    exact this.symm
  apply Nat.le_antisymm
  · refine scan_le (by omega) W fun i hi => ?_
    obtain ⟨h1, _, h3⟩ := scan_len f s most i
    generalize (scanTo f s most i).1 = m at *
    by_cases hm : m = 0
    · omega
    have h4 : m ≤ crun f ((s + i - m) % W) 65 := crun_ge (by omega) fun j hj => by
      have e : f ((s + i - m) % W + j) = f (s + i - m + j) := by
        rw [← hmod ((s + i - m) % W + j), Nat.mod_add_mod, hmod]
      rw [e, show s + i - m + j = s + i - 1 - (m - 1 - j) by omega]
      exact h3 _ (by omega)
    have h5 := le_mxTo (g := fun x => crun f x 65) (k := W) (i := (s + i - m) % W) (Nat.mod_lt _ (by omega))
    omega
  · have h0 := (scan_len f s most W).2.1
    have h1 : mxTo (fun x => crun f x 65) W ≤ (scanTo f s most W).2 := by
      refine mxTo_le fun x hx => ?_
      generalize hm : crun f x 65 = m
      by_cases hm0 : m = 0
      · omega
      have hall : ∀ j, j < m → f (x + j) = true := fun j hj => crun_all (by rw [hm]; exact hj)
      -- where the run lies behind s
      obtain ⟨x', hx1, hx2, hx3⟩ : ∃ x', s < x' ∧ x' < s + W ∧ (x' = x ∨ x' = x + W) := by
        by_cases h : s < x
        · exact ⟨x, h, by omega, .inl rfl⟩
        · by_cases h2 : x = s
          · have := hall 0 (by omega); rw [Nat.add_zero, h2, hf] at this; cases this
          · exact ⟨x + W, by omega, by omega, .inr rfl⟩
      have hall' : ∀ j, j < m → f (x' + j) = true := by
        intro j hj
        rcases hx3 with rfl | rfl
        · exact hall j hj
        · rw [show x + W + j = x + j + W by omega, hp]; exact hall j hj
      have hend : x' + m ≤ s + W := by
        rcases Nat.lt_or_ge (s + W) (x' + m) with h | h
        · have := hall' (s + W - x') (by omega)
          rw [show x' + (s + W - x') = s + W by omega, hp, hf] at this
          cases this
        · exact h
      have h2 := scan_run (f := f) (s := s) (most := most) (m := m) (i := x' + m - s) (by omega) (fun j hj => by
        rw [show s + (x' + m - s) - 1 - j = x' + (m - 1 - j) by omega]
        exact hall' _ (by omega))
      have h3 := scan_ge (f := f) (s := s) (most := most) (i := x' + m - s) (by omega)
      have h4 := scan_mono' f s most (x' + m - s) W (by omega)
      omega
    omega
/-- One that never ends. -/
theorem run_full {f : Nat → Bool} {W : Nat} (hW : 0 < W) (h : ∀ i, f i = true) : mxTo (fun x => crun f x 65) W = 65 := by
  apply Nat.le_antisymm
  · exact mxTo_le fun x hx => crun_le f 65 x
  · have h1 := le_mxTo (g := fun x => crun f x 65) hW
    have h2 : 65 ≤ crun f 0 65 := crun_ge (Nat.le_refl _) fun j hj => h _
    omega
/-- Does the row's place i hold so? -/
def rf (of : Bool) (W : Nat) (bs : List Bool) (y i : Nat) : Bool := decide (bs.getD (y * W + i % W) false = of)
def rowG (of : Bool) (W : Nat) (bs : List Bool) (y : Nat) : Nat := mxTo (fun x => crun (rf of W bs y) x 65) W
/-- The longest run along the rows. -/
def longV (of : Bool) (W H : Nat) (bs : List Bool) : Nat := mxTo (rowG of W bs) H
theorem rowG_le (of : Bool) (W : Nat) (bs : List Bool) (y : Nat) : rowG of W bs y ≤ 65 := mxTo_le fun x hx => crun_le _ 65 x
theorem longV_le (of : Bool) (W H : Nat) (bs : List Bool) : longV of W H bs ≤ 65 := mxTo_le fun y hy => rowG_le of W bs y
theorem rf_per (of : Bool) (W : Nat) (bs : List Bool) (y i : Nat) : rf of W bs y (i + W) = rf of W bs y i := by unfold rf; rw [Nat.add_mod_right]
def foldG (g : Nat → Nat) {H : Nat} (pre : List (Fin H)) : Nat := pre.foldl (fun m y => max m (g y.val)) 0
theorem foldG_snoc (g : Nat → Nat) {H : Nat} (pre : List (Fin H)) (y : Fin H) : foldG g (pre ++ [y]) = max (foldG g pre) (g y.val) := by simp [foldG]
theorem foldG_spec' (g : Nat → Nat) {H : Nat} (l : List (Fin H)) : ∀ m, m ≤ l.foldl (fun m y => max m (g y.val)) m ∧ (∀ y ∈ l, g y.val ≤ l.foldl (fun m y => max m (g y.val)) m) ∧ (∀ B, m ≤ B → (∀ y ∈ l, g y.val ≤ B) → l.foldl (fun m y => max m (g y.val)) m ≤ B) := by
  induction l with
  | nil => intro m; simp
  | cons a l ih =>
    intro m
    obtain ⟨h1, h2, h3⟩ := ih (max m (g a.val))
    simp only [List.foldl_cons, List.mem_cons]
    refine ⟨by omega, ?_, fun B hB h => h3 B ?_ fun y hy => h y (.inr hy)⟩
    · rintro y (rfl | hy)
      · omega
      · exact h2 y hy
    · have := h a (.inl rfl); omega
theorem foldG_all (g : Nat → Nat) (H : Nat) : foldG g (List.finRange H) = mxTo g H := by
  obtain ⟨_, h2, h3⟩ := foldG_spec' g (List.finRange H) 0
  apply Nat.le_antisymm
  · exact h3 _ (by omega) fun y _ => le_mxTo y.isLt
  · exact mxTo_le fun i hi => h2 ⟨i, hi⟩ (List.mem_finRange _)
theorem foldG_le (g : Nat → Nat) {H B : Nat} (h : ∀ y, g y ≤ B) (pre : List (Fin H)) : foldG g pre ≤ B := (foldG_spec' g pre 0).2.2 B (by omega) fun y _ => h _
end Go.Proofs.Ytooilennejakhaa.Lo

namespace Go.Proofs.Ytooilennejakhaa
open Lo
set_option linter.unusedVariables false
set_option linter.unusedSimpArgs false
/-- The first k values of f. -/
def bT (f : Nat → Bool) (k : Nat) : List Bool := (List.range k).map f
theorem bT_succ (f : Nat → Bool) (k : Nat) : bT f (k+1) = bT f k ++ [f k] := by simp [bT, List.range_succ]
theorem bT_len (f : Nat → Bool) (k : Nat) : (bT f k).length = k := by simp [bT]
theorem bT_get (f : Nat → Bool) {k p : Nat} (hp : p < k) : (bT f k).getD p false = f p := getD_map_range f hp
def otF (W H : Nat) (bs : List Bool) (p : Nat) : Bool := !bs.getD ((p % H) * W + p / H) false
def mvF (W s : Nat) (bs : List Bool) (p : Nat) : Bool := bs.getD ((p / W) * W + (p % W + s) % W) false
theorem dm1 {H x y : Nat} (hy : y < H) : (x * H + y) % H = y := by rw [Nat.mul_comm, Nat.mul_add_mod, Nat.mod_eq_of_lt hy]
theorem dm2 {H x y : Nat} (hy : y < H) : (x * H + y) / H = x := by rw [Nat.mul_comm, Nat.mul_add_div (by omega), Nat.div_eq_of_lt hy]; omega
theorem otF_at {W H x y : Nat} {bs : List Bool} (hy : y < H) : otF W H bs (x * H + y) = !bs.getD (y * W + x) false := by unfold otF; rw [dm1 hy, dm2 hy]
theorem mvF_at {W s x y : Nat} {bs : List Bool} (hx : x < W) : mvF W s bs (y * W + x) = bs.getD (y * W + (x + s) % W) false := by unfold mvF; rw [dm1 hx, dm2 hx]
theorem place_lt' {W H x y : Nat} (hx : x < W) (hy : y < H) : y * W + x < W * H := by
  have : (y + 1) * W ≤ H * W := Nat.mul_le_mul_right W hy
  rw [Nat.add_mul, Nat.one_mul, Nat.mul_comm H W] at this; omega
theorem crun_congr {f g : Nat → Bool} (h : ∀ i, f i = g i) (k : Nat) : ∀ x, crun f x k = crun g x k := by
  induction k with
  | zero => intro x; rfl
  | succ k ih => intro x; unfold crun; rw [h x, ih]
theorem crun_shift (f : Nat → Bool) (s k : Nat) : ∀ x, crun (fun i => f (i + s)) x k = crun f (x + s) k := by
  induction k with
  | zero => intro x; rfl
  | succ k ih => intro x; unfold crun; rw [ih, show x + 1 + s = x + s + 1 by omega]
theorem mx_shift {g : Nat → Nat} {W s : Nat} (hW : 0 < W) (hg : ∀ x, g (x + W) = g x) : mxTo (fun x => g (x + s)) W = mxTo g W := by
  have hper : ∀ i k, g (i + k * W) = g i := by
    intro i k
    induction k with
    | zero => simp
    | succ k ih => rw [Nat.add_mul, Nat.one_mul, ← Nat.add_assoc, hg, ih]
  have hmod : ∀ i, g (i % W) = g i := by
    intro i
    have := hper (i % W) (i / W)
    rw [Nat.mul_comm, Nat.mod_add_div] at this
    exact this.symm
  apply Nat.le_antisymm
  · refine mxTo_le fun x hx => ?_
    rw [← hmod (x + s)]
    exact le_mxTo (Nat.mod_lt _ hW)
  · refine mxTo_le fun x hx => ?_
    have e : g x = g ((x + (W - s % W)) % W + s) := by
      rw [← hmod ((x + (W - s % W)) % W + s), Nat.mod_add_mod]
      have h1 : s % W < W := Nat.mod_lt _ hW
      have h2 : s = s % W + W * (s / W) := (Nat.mod_add_div s W).symm
      have h3 : x + (W - s % W) + s = x + (1 + s / W) * W := by
        rw [Nat.add_mul, Nat.one_mul, Nat.mul_comm (s / W) W]; omega
      rw [h3, hmod, hper]
    rw [e]
    exact le_mxTo (g := fun x => g (x + s)) (Nat.mod_lt _ hW)
theorem rowG_congr {of of' : Bool} {W y y' : Nat} {bs bs' : List Bool} (h : ∀ i, rf of W bs y i = rf of' W bs' y' i) : rowG of W bs y = rowG of' W bs' y' := by
  unfold rowG
  exact mxTo_congr fun x hx => crun_congr h 65 x
theorem fl_1 {W H : Nat} {bs : List Bool} (hW : 0 < W) : longV true W H (turnL H W (bT (otF W H bs) (W * H))) = longV false W H bs := by
  unfold longV
  refine mxTo_congr fun y hy => rowG_congr fun i => ?_
  unfold rf
  have hi : i % W < W := Nat.mod_lt _ hW
  rw [turnL_get hy hi, bT_get _ (by rw [Nat.mul_comm W H]; exact place_lt' hy hi), otF_at hy]
  cases bs.getD (y * W + i % W) false <;> rfl
theorem fl_2 {W H : Nat} {bs : List Bool} (hH : 0 < H) : longV false H W (bT (otF W H bs) (W * H)) = longV true H W (turnL W H bs) := by
  unfold longV
  refine mxTo_congr fun y hy => rowG_congr fun i => ?_
  unfold rf
  have hi : i % H < H := Nat.mod_lt _ hH
  rw [turnL_get hy hi, bT_get _ (by rw [Nat.mul_comm W H]; exact place_lt' hi hy), otF_at hi]
  cases bs.getD (i % H * W + y) false <;> rfl
theorem fl_3 {W H s : Nat} {bs : List Bool} (hW : 0 < W) (hH : 0 < H) : longV true H W (turnL W H (bT (mvF W s bs) (W * H))) = longV true H W (turnL W H bs) := by
  have key : ∀ y, y < W → rowG true H (turnL W H (bT (mvF W s bs) (W * H))) y = rowG true H (turnL W H bs) ((y + s) % W) := by
    intro y hy
    refine rowG_congr fun i => ?_
    unfold rf
    have hi : i % H < H := Nat.mod_lt _ hH
    rw [turnL_get hy hi, bT_get _ (place_lt' hy hi), mvF_at hy, turnL_get (Nat.mod_lt _ hW) hi]
  unfold longV
  rw [mxTo_congr (g' := fun y => (fun z => rowG true H (turnL W H bs) (z % W)) (y + s)) key]
  rw [mx_shift (g := fun z => rowG true H (turnL W H bs) (z % W)) hW (fun x => by simp)]
  exact mxTo_congr fun y hy => by simp only [Nat.mod_eq_of_lt hy]
theorem fl_4 {W H s : Nat} {bs : List Bool} (hW : 0 < W) : longV false W H (bT (mvF W s bs) (W * H)) = longV false W H bs := by
  unfold longV
  refine mxTo_congr fun y hy => ?_
  have e : ∀ i, rf false W (bT (mvF W s bs) (W * H)) y i = (fun j => rf false W bs y (j + s)) i := by
    intro i
    unfold rf
    have hi : i % W < W := Nat.mod_lt _ hW
    rw [bT_get _ (place_lt' hi hy), mvF_at hi, Nat.mod_add_mod]
  unfold rowG
  rw [mxTo_congr (g' := fun x => crun (rf false W bs y) (x + s) 65) (fun x hx => by rw [crun_congr e, crun_shift])]
  refine mx_shift (g := fun x => crun (rf false W bs y) x 65) hW fun x => ?_
  rw [← crun_shift]
  exact crun_congr (fun i => rf_per false W bs y i) 65 x
/-- No run in a row is longer than the longest one. -/
theorem fl_5 {W H y x : Nat} {bs : List Bool} (hy : y < H) (hx : x ≤ W) (hW : W ≤ 64) (hW0 : 0 < W) : (scanTo (rf false W bs y) 0 0 x).1 ≤ longV false W H bs := by
  obtain ⟨h1, _, h3⟩ := scan_len (rf false W bs y) 0 0 x
  generalize (scanTo (rf false W bs y) 0 0 x).1 = m at *
  by_cases hm : m = 0
  · omega
  have h4 : m ≤ crun (rf false W bs y) (x - m) 65 := crun_ge (by omega) fun j hj => by
    have := h3 (m - 1 - j) (by omega)
    rwa [show 0 + x - 1 - (m - 1 - j) = x - m + j by omega] at this
  have h5 := le_mxTo (g := fun x => crun (rf false W bs y) x 65) (k := W) (i := x - m) (by omega)
  have h6 := le_mxTo (g := rowG false W bs) hy
  unfold longV
  unfold rowG at h6 ⊢
  exact Nat.le_trans h4 (Nat.le_trans h5 h6)
end Go.Proofs.Ytooilennejakhaa

namespace Go.Proofs.Ytooilennejakhaa
open Go.RowKit
set_option linter.unusedVariables false
set_option linter.unusedSimpArgs false
end Go.Proofs.Ytooilennejakhaa

namespace Go.Proofs.Ytooilennejakhaa
open Go.RowKit
set_option linter.unusedVariables false
set_option linter.unusedSimpArgs false
open Lo
theorem BelowX.set {base mb : Nat} {W w : World} (h : BelowX base mb W w) (i : Nat) (v : Value) : BelowX base mb W (w.setCell ⟨mb, i, none⟩ v) :=
  ⟨h.os, h.tape, h.output, by rw [World.size_setCell]; exact h.size, fun k hk hm => by rw [Below.heap_setCell _ _ _ k (fun e => hm (by rw [e]))]; exact h.block k hk hm⟩
theorem BelowX.okT {base mb : Nat} {W w : World} {a : Option Addr} {n c : Nat} {bs : List Bool} (h : BelowX base mb W w) (hT : OkT W a n c bs) (hbs : base = W.heap.size) (hm : ∀ b o, a = some ⟨b, o, none⟩ → b ≠ mb) : OkT w a n c bs := by
  refine ⟨⟨hT.bits.1, fun hn => ?_⟩, hT.cap, hT.lim⟩
  obtain ⟨b, o, h1, h2, h3⟩ := hT.bits.2 hn
  exact ⟨b, o, h1, Nat.lt_of_lt_of_le h2 (hbs ▸ h.size), fun j hj => (World.cell?_of_block (h.block b (by omega) (hm b o h1))).trans (h3 j hj)⟩
theorem wfN (W : Nat) (h : W ≤ 64) : (-9223372036854775808 ≤ (W : Int) ∧ (W : Int) ≤ 9223372036854775807) := by omega
def trF (W H : Nat) (bs : List Bool) (p : Nat) : Bool := bs.getD ((p % H) * W + p / H) false
theorem trF_at {W H x y : Nat} {bs : List Bool} (hy : y < H) : trF W H bs (x * H + y) = bs.getD (y * W + x) false := by unfold trF; rw [dm1 hy, dm2 hy]
end Go.Proofs.Ytooilennejakhaa
