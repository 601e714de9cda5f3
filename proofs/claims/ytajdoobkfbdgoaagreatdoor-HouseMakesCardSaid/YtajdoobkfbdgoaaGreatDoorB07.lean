/- Lemmas on which the law of this seat rests; each states its own conditions. -/
import Derived.Test.YtajdoobkfbdgoaaGreatDoorB06
import Derived.Test.YtajdoobkfbdgoaaGreatDoorRows
import Derived.Test.YtajdoobkfbdgoaaGreatDoorB05
import Derived.Test.YtajdoobkfbdgoaaGreatDoorB03
import Derived.IntWalk
import Derived.Lib.AppendZeros
import Derived.Deep.DeepCutAuto
import Derived.Test.YtajdoobkfbdgoaaGreatDoorB02
import Derived.Test.YtajdoobkfbdgoaaGreatDoorB01
import Derived.Deep.OwnRows
set_option linter.unusedVariables false
set_option linter.unusedSimpArgs false
namespace Go.Proofs.YtajdoobkfbdgoaaGreatDoor
section
open Go.RowKit
theorem own_parts {w : World} {base e n c g : Nat} {xs : List Value} (h : w.ownsRow base e 1 (.slice (some ⟨g, 0, none⟩) n c) n xs) : xs.length = n ∧ base ≤ g ∧ n ≤ c ∧ c ≤ maxLen ∧ ∃ cur : Array Value, w.heap[g]? = some (.cells cur e (0, 0)) ∧ cur.size = c ∧ cur.toList.take n = xs := by
 have h0 := h.1
 rcases h.2 with ⟨e1, _⟩ | ⟨g', cap, cur, e1, hb, hg, h1, h2, h3, h4⟩
 ·cases e1
 ·injection e1 with e1 _ e3
  injection e1 with e1
  injection e1 with e1
  subst e1 e3
  rw [Nat.mul_one] at h0 h3 h4
  exact ⟨h0, hb, h1, h2, cur, hg, h3, h4⟩
theorem own_mk {w : World} {base e n c g : Nat} {xs : List Value} {cur : Array Value} (h0 : xs.length = n) (hb : base ≤ g) (h1 : n ≤ c) (h2 : c ≤ maxLen) (hg : w.heap[g]? = some (.cells cur e (0, 0))) (h3 : cur.size = c) (h4 : cur.toList.take n = xs) : w.ownsRow base e 1 (.slice (some ⟨g, 0, none⟩) n c) n xs :=
 ⟨by omega, .inr ⟨g, c, cur, rfl, hb, hg, h1, h2, by omega, by rw [Nat.mul_one]; exact h4⟩⟩
theorem own_base {w : World} {base base' e n c g : Nat} {xs : List Value} (h : w.ownsRow base e 1 (.slice (some ⟨g, 0, none⟩) n c) n xs) (hb : base' ≤ g) : w.ownsRow base' e 1 (.slice (some ⟨g, 0, none⟩) n c) n xs := by
 obtain ⟨a, b, d, f, cur, g1, g2, g3⟩ := own_parts h
 exact own_mk a hb d f g1 g2 g3
theorem own_cell {w : World} {base e n c g i : Nat} {xs : List Value} (h : w.ownsRow base e 1 (.slice (some ⟨g, 0, none⟩) n c) n xs) (hi : i < n) : w.cell? ⟨g, i, none⟩ = xs[i]? ∧ w.frozen? ⟨g, i, none⟩ = false := by
 obtain ⟨a, b, d, f, cur, g1, g2, g3⟩ := own_parts h
 refine ⟨?_, by simp [World.frozen?, g1]⟩
 have h5 : cur[i]? = xs[i]? := by
  rw [← Array.getElem?_toList, ← List.getElem?_take_of_lt hi, g3]
 simp [World.cell?, g1, h5]
theorem own_some {w : World} {base e n : Nat} {v : Value} {xs : List Value} (h : w.ownsRow base e 1 v n xs) (hn : 0 < n) : ∃ g c, v = .slice (some ⟨g, 0, none⟩) n c := by
 rcases h.2 with ⟨_, e0⟩ | ⟨g', cap, cur, e1, _⟩
 ·omega
 ·exact ⟨_, _, e1⟩
theorem wpAppK {W : World} {ops : Array Oper} {rest : List Oper} {o : Oper} {a : Act} {Q : Exit → Act → World → Prop} {t e bytes : Nat} {z : Value} (hE : ElemOk t e 1 bytes z)
  (hgd : o.guard = none) (s x : Operand) (ho : o.op = .call { callee := .builtin .append, args := #[s, x], argTypes := #[t, t] })
  (base : Nat) (v : Value) (n : Nat) (xs : List Value) (u : Value) (B : Nat) (hs : a.eval s = v) (hown : W.ownsRow base e 1 v n xs)
  (hx : a.eval x = .slice (some ⟨B, 0, none⟩) 1 1) (hcs : W.cell? ⟨B, 0, none⟩ = some u) (h1 : u.oneCell' = true)
  (hb : bytes ≤ 4096) (hn : n ≤ 100000000) (hbase : base ≤ W.heap.size)
  (h : ∀ v' w', w'.ownsRow base e 1 v' (n + 1) (xs ++ [u]) → W.grownBy w' v.ownBlock → (v'.ownBlock = v.ownBlock ∨ v'.ownBlock = some W.heap.size) → wpList Tryz.prog ops Q rest (a.put o.dst v') w') : wpList Tryz.prog ops Q (o :: rest) a W :=
 wpAppV hE hgd s x ho base v n xs (some ⟨B, 0, none⟩) 1 1 [u] hs hown hx (fun e => by cases e) rfl (fun _ => ⟨B, 0, rfl, fun j y hj => by
  have hj0 : j = 0 := by
   have := (List.getElem?_eq_some_iff.1 hj).1
   simpa using this
  subst hj0
  simp at hj
  subst hj
  exact hcs⟩) (fun y hy => by simp at hy; subst hy; exact h1) hb (by omega) hbase h
end
namespace Lo
def crun (f : Nat → Bool) : Nat → Nat → Nat
 | _, 0 => 0
 | x, k + 1 => if f x then crun f (x+1) k + 1 else 0
def mxTo (g : Nat → Nat) : Nat → Nat
 | 0 => 0
 | k + 1 => max (mxTo g k) (g k)
def scanTo (f : Nat → Bool) (s most : Nat) : Nat → Nat × Nat
 | 0 => (0, most)
 | i + 1 => if f (s + i) then ((scanTo f s most i).1 + 1, max (scanTo f s most i).2 ((scanTo f s most i).1 + 1)) else (0, (scanTo f s most i).2)
theorem crun_le (f : Nat → Bool) (k : Nat) : ∀ x, crun f x k ≤ k := by
  induction k with
  | zero => intro x; simp [crun]
  | succ k ih => intro x; unfold crun; split; · have := ih (x+1); omega
                 · omega
theorem crun_ge {f : Nat → Bool} {m : Nat} : ∀ {k x : Nat}, m ≤ k → (∀ j, j < m → f (x + j) = true) → m ≤ crun f x k := by
 induction m with
 | zero => intros; omega
 | succ m ih =>
  intro k x hk h
  cases k with
  | zero => omega
  | succ k =>
   have h0 := h 0 (by omega)
   simp only [Nat.add_zero] at h0
   unfold crun
   rw [h0]
   have := ih (k := k) (x := x + 1) (by omega) (fun j hj => by have := h (j+1) (by omega); rwa [show x + (j + 1) = x + 1 + j by omega] at this)
   simp; omega
theorem crun_all {f : Nat → Bool} {k : Nat} : ∀ {x j : Nat}, j < crun f x k → f (x + j) = true := by
 induction k with
 | zero => intro x j h; simp [crun] at h
 | succ k ih =>
  intro x j h
  unfold crun at h
  split at h
  ·rename_i h0
   cases j with
   | zero => exact h0
   | succ j =>
    have := ih (x := x + 1) (j := j) (by omega)
    rwa [show x + 1 + j = x + (j + 1) by omega] at this
  ·omega
theorem le_mxTo {g : Nat → Nat} {k i : Nat} (h : i < k) : g i ≤ mxTo g k := by
 induction k with
 | zero => omega
 | succ k ih =>
  unfold mxTo
  by_cases e : i = k
  ·subst e; omega
  ·have := ih (by omega); omega
theorem mxTo_le {g : Nat → Nat} {k m : Nat} (h : ∀ i, i < k → g i ≤ m) : mxTo g k ≤ m := by
 induction k with
 | zero => simp [mxTo]
 | succ k ih =>
  unfold mxTo
  have := ih (fun i hi => h i (by omega))
  have := h k (by omega)
  omega
theorem scan_len (f : Nat → Bool) (s most i : Nat) : (scanTo f s most i).1 ≤ i ∧ most ≤ (scanTo f s most i).2 ∧ (∀ j, j < (scanTo f s most i).1 → f (s + i - 1 - j) = true) := by
 induction i with
 | zero => simp [scanTo]
 | succ i ih =>
  obtain ⟨h1, h2, h3⟩ := ih
  unfold scanTo
  split
  ·rename_i h
   refine ⟨by simp only; omega, by simp only; omega, fun j hj => ?_⟩
   simp only at hj
   cases j with
   | zero => rw [show s + (i+1) - 1 - 0 = s + i by omega]; exact h
   | succ j =>
    have := h3 j (by omega)
    rwa [show s + (i + 1) - 1 - (j + 1) = s + i - 1 - j by omega]
  ·exact ⟨by simp only; omega, h2, fun j hj => by simp at hj⟩
theorem scan_mono (f : Nat → Bool) (s most i : Nat) : (scanTo f s most i).2 ≤ (scanTo f s most (i+1)).2 := by
 show _ ≤ (scanTo f s most (i+1)).2
 rw [scanTo]
 split <;> simp only <;> omega
theorem scan_mono' (f : Nat → Bool) (s most i j : Nat) (h : i ≤ j) : (scanTo f s most i).2 ≤ (scanTo f s most j).2 := by
  induction j with
  | zero => obtain rfl : i = 0 := by omega
            exact Nat.le_refl _
  | succ j ih =>
    by_cases e : i = j + 1
    · subst e; exact Nat.le_refl _
    · exact Nat.le_trans (ih (by omega)) (scan_mono f s most j)
theorem scan_run {f : Nat → Bool} {s most m : Nat} : ∀ {i : Nat}, m ≤ i → (∀ j, j < m → f (s + i - 1 - j) = true) → m ≤ (scanTo f s most i).1 := by
 induction m with
 | zero => intros; omega
 | succ m ih =>
  intro i hi h
  cases i with
  | zero => omega
  | succ i =>
   have h0 := h 0 (by omega)
   rw [show s + (i+1) - 1 - 0 = s + i by omega] at h0
   rw [scanTo, if_pos h0]
   have := ih (i := i) (by omega) (fun j hj => by have := h (j+1) (by omega); rwa [show s + (i + 1) - 1 - (j + 1) = s + i - 1 - j by omega] at this)
   simp only; omega
theorem scan_ge {f : Nat → Bool} {s most i : Nat} (h : 0 < (scanTo f s most i).1) : (scanTo f s most i).1 ≤ (scanTo f s most i).2 := by
 cases i with
 | zero => simp [scanTo] at h
 | succ i =>
  rw [scanTo] at h ⊢
  split
  ·simp only; omega
  ·rename_i h0; rw [if_neg h0] at h; simp at h
theorem scan_le {f : Nat → Bool} {s most B : Nat} (hm : most ≤ B) : ∀ (i : Nat), (∀ j, j ≤ i → (scanTo f s most j).1 ≤ B) → (scanTo f s most i).2 ≤ B := by
 intro i
 induction i with
 | zero => intro _; simpa [scanTo] using hm
 | succ i ih =>
  intro h
  have h1 := ih (fun j hj => h j (by omega))
  have h2 := h (i+1) (by omega)
  rw [scanTo] at h2 ⊢
  split
  ·rename_i h0; rw [if_pos h0] at h2; simp only at h2 ⊢; omega
  ·exact h1
theorem scan_max {f : Nat → Bool} {W s most : Nat} (hp : ∀ i, f (i + W) = f i) (hs : s < W) (hf : f s = false) (hW : W ≤ 64) : (scanTo f s most W).2 = max most (mxTo (fun x => crun f x 65) W) := by
 have hper : ∀ i k, f (i + k * W) = f i := by
  intro i k
  induction k with
  | zero => simp
  | succ k ih => rw [Nat.add_mul, Nat.one_mul, ← Nat.add_assoc, hp, ih]
 have hmod : ∀ i, f (i % W) = f i := by
  intro i
  have := hper (i % W) (i / W)
  rw [Nat.mul_comm, Nat.mod_add_div] at this
  exact this.symm
 apply Nat.le_antisymm
 ·refine scan_le (by omega) W fun i hi => ?_
  obtain ⟨h1, _, h3⟩ := scan_len f s most i
  generalize (scanTo f s most i).1 = m at *
  by_cases hm : m = 0
  ·omega
  have h4 : m ≤ crun f ((s + i - m) % W) 65 := crun_ge (by omega) fun j hj => by
   have e : f ((s + i - m) % W + j) = f (s + i - m + j) := by
    rw [← hmod ((s + i - m) % W + j), Nat.mod_add_mod, hmod]
   rw [e, show s + i - m + j = s + i - 1 - (m - 1 - j) by omega]
   exact h3 _ (by omega)
  have h5 := le_mxTo (g := fun x => crun f x 65) (k := W) (i := (s + i - m) % W) (Nat.mod_lt _ (by omega))
  omega
 ·have h0 := (scan_len f s most W).2.1
  have h1 : mxTo (fun x => crun f x 65) W ≤ (scanTo f s most W).2 := by
   refine mxTo_le fun x hx => ?_
   generalize hm : crun f x 65 = m
   by_cases hm0 : m = 0
   ·omega
   have hall : ∀ j, j < m → f (x + j) = true := fun j hj => crun_all (by rw [hm]; exact hj)
   -- where the run lies behind s
   obtain ⟨x', hx1, hx2, hx3⟩ : ∃ x', s < x' ∧ x' < s + W ∧ (x' = x ∨ x' = x + W) := by
    by_cases h : s < x
    ·exact ⟨x, h, by omega, .inl rfl⟩
    ·by_cases h2 : x = s
     ·have := hall 0 (by omega); rw [Nat.add_zero, h2, hf] at this; cases this
     ·exact ⟨x + W, by omega, by omega, .inr rfl⟩
   have hall' : ∀ j, j < m → f (x' + j) = true := by
    intro j hj
    rcases hx3 with rfl | rfl
    ·exact hall j hj
    ·rw [show x + W + j = x + j + W by omega, hp]; exact hall j hj
   have hend : x' + m ≤ s + W := by
    rcases Nat.lt_or_ge (s + W) (x' + m) with h | h
    ·have := hall' (s + W - x') (by omega)
     rw [show x' + (s + W - x') = s + W by omega, hp, hf] at this
     cases this
    ·exact h
   have h2 := scan_run (f := f) (s := s) (most := most) (m := m) (i := x' + m - s) (by omega) (fun j hj => by
    rw [show s + (x' + m - s) - 1 - j = x' + (m - 1 - j) by omega]
    exact hall' _ (by omega))
   have h3 := scan_ge (f := f) (s := s) (most := most) (i := x' + m - s) (by omega)
   have h4 := scan_mono' f s most (x' + m - s) W (by omega)
   omega
  omega
theorem run_full {f : Nat → Bool} {W : Nat} (hW : 0 < W) (h : ∀ i, f i = true) : mxTo (fun x => crun f x 65) W = 65 := by
 apply Nat.le_antisymm
 ·exact mxTo_le fun x hx => crun_le f 65 x
 ·have h1 := le_mxTo (g := fun x => crun f x 65) hW
  have h2 : 65 ≤ crun f 0 65 := crun_ge (Nat.le_refl _) fun j hj => h _
  omega
def rf (of : Bool) (W : Nat) (bs : List Bool) (y i : Nat) : Bool := decide (bs.getD (y * W + i % W) false = of)
def rowG (of : Bool) (W : Nat) (bs : List Bool) (y : Nat) : Nat := mxTo (fun x => crun (rf of W bs y) x 65) W
def longV (of : Bool) (W H : Nat) (bs : List Bool) : Nat := mxTo (rowG of W bs) H
theorem rowG_le (of : Bool) (W : Nat) (bs : List Bool) (y : Nat) : rowG of W bs y ≤ 65 := mxTo_le fun x hx => crun_le _ 65 x
theorem longV_le (of : Bool) (W H : Nat) (bs : List Bool) : longV of W H bs ≤ 65 := mxTo_le fun y hy => rowG_le of W bs y
theorem rf_per (of : Bool) (W : Nat) (bs : List Bool) (y i : Nat) : rf of W bs y (i + W) = rf of W bs y i := by unfold rf; rw [Nat.add_mod_right]
def foldG (g : Nat → Nat) {H : Nat} (pre : List (Fin H)) : Nat := pre.foldl (fun m y => max m (g y.val)) 0
theorem foldG_snoc (g : Nat → Nat) {H : Nat} (pre : List (Fin H)) (y : Fin H) : foldG g (pre ++ [y]) = max (foldG g pre) (g y.val) := by simp [foldG]
theorem foldG_spec' (g : Nat → Nat) {H : Nat} (l : List (Fin H)) : ∀ m, m ≤ l.foldl (fun m y => max m (g y.val)) m ∧ (∀ y ∈ l, g y.val ≤ l.foldl (fun m y => max m (g y.val)) m) ∧ (∀ B, m ≤ B → (∀ y ∈ l, g y.val ≤ B) → l.foldl (fun m y => max m (g y.val)) m ≤ B) := by
 induction l with
 | nil => intro m; simp
 | cons a l ih =>
  intro m
  obtain ⟨h1, h2, h3⟩ := ih (max m (g a.val))
  simp only [List.foldl_cons, List.mem_cons]
  refine ⟨by omega, ?_, fun B hB h => h3 B ?_ fun y hy => h y (.inr hy)⟩
  ·rintro y (rfl | hy)
   ·omega
   ·exact h2 y hy
  ·have := h a (.inl rfl); omega
theorem foldG_all (g : Nat → Nat) (H : Nat) : foldG g (List.finRange H) = mxTo g H := by
 obtain ⟨_, h2, h3⟩ := foldG_spec' g (List.finRange H) 0
 apply Nat.le_antisymm
 ·exact h3 _ (by omega) fun y _ => le_mxTo y.isLt
 ·exact mxTo_le fun i hi => h2 ⟨i, hi⟩ (List.mem_finRange _)
theorem foldG_le (g : Nat → Nat) {H B : Nat} (h : ∀ y, g y ≤ B) (pre : List (Fin H)) : foldG g pre ≤ B := (foldG_spec' g pre 0).2.2 B (by omega) fun y _ => h _
end Lo
section
open Lo
def bT (f : Nat → Bool) (k : Nat) : List Bool := (List.range k).map f
theorem bT_succ (f : Nat → Bool) (k : Nat) : bT f (k+1) = bT f k ++ [f k] := by simp [bT, List.range_succ]
theorem bT_len (f : Nat → Bool) (k : Nat) : (bT f k).length = k := by simp [bT]
theorem bT_get (f : Nat → Bool) {k p : Nat} (hp : p < k) : (bT f k).getD p false = f p := getD_map_range f hp
theorem dm1 {H x y : Nat} (hy : y < H) : (x * H + y) % H = y := by rw [Nat.mul_comm, Nat.mul_add_mod, Nat.mod_eq_of_lt hy]
theorem dm2 {H x y : Nat} (hy : y < H) : (x * H + y) / H = x := by rw [Nat.mul_comm, Nat.mul_add_div (by omega), Nat.div_eq_of_lt hy]; omega
theorem place_lt' {W H x y : Nat} (hx : x < W) (hy : y < H) : y * W + x < W * H := by
 have : (y + 1) * W ≤ H * W := Nat.mul_le_mul_right W hy
 rw [Nat.add_mul, Nat.one_mul, Nat.mul_comm H W] at this; omega
end
section
open Go.RowKit
set_option maxRecDepth 100000 in
set_option maxHeartbeats 8000000 in
theorem rBit_ok (W H n : Nat) (a : Option Addr) (c : Nat) (bs : List Bool) (w : World) (hI : IsBools w a n bs) (y x p : Nat) (hp : y * W + x = p) (hlt : p < n) (hn : n ≤ 4096) (hx : x ≤ 4096) (hy : y ≤ 4096) (hW : W ≤ 4096) :
  Calls Tryz.prog 55 #[.agg #[.int .i64 (W), .int .i64 (H), .slice a n c], .int .i64 (y), .int .i64 (x)] w fun e w' => e = .returned (.bool (bs.getD p false)) ∧ Below w.heap.size w w' := by
 obtain ⟨b, o, rfl, hb, hc⟩ := hI.2 (by omega)
 have cb := hc p hlt
 obtain ⟨M, hM⟩ : ∃ M, y * W = M := ⟨_, rfl⟩
 have hmul : (y : Int) * (W : Int) = (M : Int) := by rw [← Int.natCast_mul, hM]
 have hadd : (M : Int) + (x : Int) = (p : Int) := by omega
 have v1 : IntKind.i64.wrap (M : Int) = (M : Int) := IntWalk.i64_in _ (by omega)
 have v2 : IntKind.i64.wrap (p : Int) = (p : Int) := IntWalk.i64_in _ (by omega)
 have g0 : (0 : Int) ≤ (p : Int) := by omega
 have g1 : (p : Int) < (n : Int) := by omega
 generalize bs.getD p false = bit at *
 have lb : LtW b w := hb
 clear hc hI hp hM hb
 go_enter Tryz.func55, Tryz.ntmps55
 go_wp2
 go_ret
 exact ⟨rfl, blw⟩
end
section
open Go.RowKit
open Lo
theorem BelowX.set {base mb : Nat} {W w : World} (h : BelowX base mb W w) (i : Nat) (v : Value) : BelowX base mb W (w.setCell ⟨mb, i, none⟩ v) :=
 ⟨h.os, h.tape, h.output, by rw [World.size_setCell]; exact h.size, fun k hk hm => by rw [Below.heap_setCell _ _ _ k (fun e => hm (by rw [e]))]; exact h.block k hk hm⟩
theorem BelowX.okT {base mb : Nat} {W w : World} {a : Option Addr} {n c : Nat} {bs : List Bool} (h : BelowX base mb W w) (hT : OkT W a n c bs) (hbs : base = W.heap.size) (hm : ∀ b o, a = some ⟨b, o, none⟩ → b ≠ mb) : OkT w a n c bs := by
 refine ⟨⟨hT.bits.1, fun hn => ?_⟩, hT.cap, hT.lim⟩
 obtain ⟨b, o, h1, h2, h3⟩ := hT.bits.2 hn
 exact ⟨b, o, h1, Nat.lt_of_lt_of_le h2 (hbs ▸ h.size), fun j hj => (World.cell?_of_block (h.block b (by omega) (hm b o h1))).trans (h3 j hj)⟩
theorem FB.start {base mb : Nat} {W H : Int} {w : World} (hr : w.rowIs mb 25 3 (tF W H (.slice none 0 0))) (hb : base = w.heap.size) : FB base mb W H [] w (.slice none 0 0) w :=
 ⟨hr, World.ownsRow_nil _ _ _ _, BelowX.refl (by omega)⟩
theorem wfN (W : Nat) (h : W ≤ 64) : (-9223372036854775808 ≤ (W : Int) ∧ (W : Int) ≤ 9223372036854775807) := by omega
def trF (W H : Nat) (bs : List Bool) (p : Nat) : Bool := bs.getD ((p % H) * W + p / H) false
theorem trF_at {W H x y : Nat} {bs : List Bool} (hy : y < H) : trF W H bs (x * H + y) = bs.getD (y * W + x) false := by unfold trF; rw [dm1 hy, dm2 hy]
set_option maxRecDepth 100000 in
set_option maxHeartbeats 8000000 in
theorem rTurned_ok (W H n : Nat) (hn : n = W * H) (a : Option Addr) (c : Nat) (bs : List Bool) (w : World) (hT : OkT w a n c bs) (hW : W ≤ 64) (hH : H ≤ 64) :
  Calls Tryz.prog 53 #[.agg #[.int .i64 (W), .int .i64 (H), .slice a n c]] w fun e w' => ∃ A C, e = .returned (.tuple #[.agg #[.int .i64 (H), .int .i64 (W), .slice A n C], .int .i64 (0)]) ∧ OkT w' A n C (turnL W H bs) ∧ Below w.heap.size w w' := by
 have hn4 : n ≤ 4096 := by rw [hn]; exact mul64n hW hH
 have hz : wrT W H n = 0 := by rw [hn]; exact wrT_ok hW hH
 have HWR := Lib.hid (fun w => r5Wrong_any W H a n c w (wfN W hW) (wfN H hH) (by omega))
 rw [hz] at HWR
 have HBIT := Lib.hid (fun w y x p h1 h2 h3 (h4 : x ≤ 64) (h5 : y ≤ 64) => rBit_ok W H n a c bs w h1 y x p h2 h3 hn4 (by omega) (by omega) (by omega))
 have HN := Lib.hid hn
 have HT := Lib.hid hT
 clear hT hn hz
 go_enter Tryz.func53, Tryz.ntmps53
 go_wp2_with fail
 refine (HWR.out _).mono ?_
 rintro r w1 ⟨rfl, hb⟩
 obtain ⟨E1, d1, rfl⟩ := bExt hb
 clear hb
 go_wp2_with fail
 have hA1 := (tF_alloc w W H (.slice a n c) rfl).alloc (.cells #[.int .i64 (0), .int .i64 (0), .slice none 0 0] 25)
 have hA2 := tF_alloc (w.alloc (.cells #[.int .i64 (W), .int .i64 (H), .slice a n c] 25)) 0 0 (.slice none 0 0) rfl
 rw [World.size_alloc] at hA2
 have hbC : Below (w.heap.size + 2) ((w.alloc (.cells #[.int .i64 (W), .int .i64 (H), .slice a n c] 25)).alloc (.cells #[.int .i64 (0), .int .i64 (0), .slice none 0 0] 25)) (extW ((w.alloc (.cells #[.int .i64 (W), .int .i64 (H), .slice a n c] 25)).alloc (.cells #[.int .i64 (0), .int .i64 (0), .slice none 0 0] 25)) E1 d1) := blw
 have hbw0 : Below w.heap.size w (extW ((w.alloc (.cells #[.int .i64 (W), .int .i64 (H), .slice a n c] 25)).alloc (.cells #[.int .i64 (0), .int .i64 (0), .slice none 0 0] 25)) E1 d1) := blw
 have hC1 := rowBelow hA1 hbC (by omega)
 have hC2 := rowBelow hA2 hbC (by omega)
 have hszE : (extW ((w.alloc (.cells #[.int .i64 (W), .int .i64 (H), .slice a n c] 25)).alloc (.cells #[.int .i64 (0), .int .i64 (0), .slice none 0 0] 25)) E1 d1).heap.size = w.heap.size + 1 + 1 + E1.size := by simp
 generalize extW ((w.alloc (.cells #[.int .i64 (W), .int .i64 (H), .slice a n c] 25)).alloc (.cells #[.int .i64 (0), .int .i64 (0), .slice none 0 0] 25)) E1 d1 = WC at *
 have hW3q := hC1.alloc (.cells #[.int .i64 (H), .int .i64 (W), .slice none 0 0] 25)
 have hW3r := hC2.alloc (.cells #[.int .i64 (H), .int .i64 (W), .slice none 0 0] 25)
 have hW3o := tF_alloc WC H W (.slice none 0 0) rfl
 have hW3b : Below w.heap.size w (WC.alloc (.cells #[.int .i64 (H), .int .i64 (W), .slice none 0 0] 25)) := hbw0.alloc hbw0.size _
 have hsz3 : (WC.alloc (.cells #[.int .i64 (H), .int .i64 (W), .slice none 0 0] 25)).heap.size = WC.heap.size + 1 := by simp
 generalize WC.alloc (.cells #[.int .i64 (H), .int .i64 (W), .slice none 0 0] 25) = W3 at *
 rw [hszE] at hW3o hsz3
 obtain ⟨ob, ho⟩ : ∃ ob, w.heap.size + 1 + 1 + E1.size = ob := ⟨_, rfl⟩
 obtain ⟨q, hq⟩ : ∃ q, q = w.heap.size := ⟨_, rfl⟩
 obtain ⟨rb, hrb⟩ : ∃ rb, q + 1 = rb := ⟨_, rfl⟩
 rw [ho] at hW3o hsz3 ⊢
 rw [← hq] at hW3q hW3b hW3r ⊢
 rw [hrb] at hW3r ⊢
 obtain ⟨base, hbase⟩ : ∃ b, b = W3.heap.size := ⟨_, rfl⟩
 have hmbb : ob < base := by omega
 have hqr : q < rb := by omega
 have hro : rb < ob := by omega
 have HQ := Lib.hid hW3q
 have HRR := Lib.hid hW3r
 have HO3 := Lib.hid hW3o
 have HBS := Lib.hid hbase
 have HQW := Lib.hid hq
 have hB0 : Hid (∀ {w' : World}, BelowX base ob W3 w' → Below w.heap.size w w') := Lib.hid fun h => by
  have h1 := hW3b
  rw [HQW.out] at h1
  exact h1.trans ((h.below HBS.out.symm (Nat.le_refl _) (by omega)).mono (by have := HQW.out; omega))
 clear hW3q hW3o hW3r hW3b hsz3 hbase hA1 hA2 hbC hbw0 hq ho hszE hrb hC1 hC2
 go_loopw [6] (fun i wr => ∃ (x : Nat) (v : Value), x ≤ W ∧ i = .int .i64 x ∧ FB base ob H W (bT (trF W H bs) (x * H)) W3 v wr) (fun i _ => W - (intOf i).toNat)
 case atStart => exact ⟨0, _, Nat.zero_le _, rfl, by rw [Nat.zero_mul]; exact FB.start HO3.out HBS.out⟩
 case round =>
  obtain ⟨x, v, hx, rfl, hfb⟩ := hrel
  have hbel := hfb.bel
  have rq := hbel.rowIs HQ.out (by omega) (by omega)
  have q0 : wr.cell? ⟨q, 0, none⟩ = some (.int .i64 (W)) := rq.cell (i := 0) (by omega)
  have HFB := Lib.hid hfb
  clear hfb hbel rq
  by_cases hxW : x < W
  ·go_wp2_with fail
   clear q0
   go_loopw [7] (fun i wr => ∃ (y : Nat) (v : Value), y ≤ H ∧ i = .int .i64 y ∧ FB base ob H W (bT (trF W H bs) (x * H + y)) W3 v wr) (fun i _ => H - (intOf i).toNat)
   case atStart => exact ⟨0, v, Nat.zero_le _, rfl, HFB.out⟩
   case round =>
    clear HFB
    obtain ⟨y, v, hy, rfl, hfb⟩ := hrel
    have hbel := hfb.bel
    have rq := hbel.rowIs HQ.out (by omega) (by omega)
    have q0 : wr.cell? ⟨q, 0, none⟩ = some (.int .i64 (W)) := rq.cell (i := 0) (by omega)
    have q1 : wr.cell? ⟨q, 1, none⟩ = some (.int .i64 (H)) := rq.cell (i := 1) (by omega)
    have q2 : wr.cell? ⟨q, 2, none⟩ = some (.slice a n c) := rq.cell (i := 2) (by omega)
    have hfb2 := Lib.hid hfb
    clear hfb hbel rq
    by_cases hyH : y < H
    ·have HI := Lib.hid (HT.out.bits.below (hB0.out hfb2.out.bel))
     obtain ⟨p, hp⟩ : ∃ p, y * W + x = p := ⟨_, rfl⟩
     have hlt : p < n := by rw [HN.out, ← hp]; exact place_lt' hxW hyH
     have HBC := Lib.hid (fun wq h => HBIT.out wq y x p h hp hlt (by omega) (by omega))
     obtain ⟨hr0, ho0, hx0⟩ := hfb2.out
     obtain ⟨P, hP⟩ : ∃ P, x * H + y = P := ⟨_, rfl⟩
     have hPn : P < n := by rw [← hP, HN.out, Nat.mul_comm W H]; exact place_lt' hyH hxW
     have HBT := Lib.hid (bT_succ (trF W H bs) P)
     rw [show trF W H bs P = bs.getD p false by rw [← hP, trF_at hyH, hp]] at HBT
     rw [bT_len, hP] at ho0
     have HP := Lib.hid hP
     have cM : wr.cell? ⟨ob, 2, none⟩ = some v := hr0.cell (i := 2) (by omega)
     have fM := hr0.frozen 2
     have lm : LtW ob wr := hr0.lt
     have lq : LtW q wr := by have := hr0.lt; unfold LtW; omega
     have HO := Lib.hid ho0
     have HX := Lib.hid hx0
     have HR := Lib.hid hr0
     have hxs := hx0.size
     clear hr0 ho0 hx0 hfb2 hP hp
     generalize bT (trF W H bs) P = L at *
     generalize bs.getD p false = bit at *
     go_wp2_with fail
     (refine wp_region_ext_build 6 _ mkOne (.cells #[.bool (bit)] 4) (by kernel_rfl) (by kernel_rfl) rfl rfl ?_; simp only [List.take_succ_cons, List.take_zero, List.drop_succ_cons, List.drop_zero]; (repeat (first | ((with_reducible refine wpV_step (fun K hK => ?_)); go_simp; first | (refine hK _ ?_; clear hK K) | (apply Exists.intro; refine ⟨fun _ _ => ?_, hK _ ?_⟩; (go_at_call 55; exact vOf (HBC.out _ (HI.out.below blw))); clear hK K)))); refine wpV_nil ?_; refine ⟨fun W => by go_simp; rfl, fun E d E' d' => ?_⟩)
     have hbE := built_below wr E d (.cells #[.bool (bit)] 4) E' d'
     have HCS := Lib.hid (built_cell wr E d #[.bool (bit)] 4 E' d')
     have cME := bCs hbE cM
     have fME := (hbE.frozen (p := ⟨ob, 2, none⟩) (show ob < wr.heap.size from lm)).trans fM
     have HOE := Lib.hid (ownBelow HO.out hbE)
     have hgE := Nat.le_trans HX.out.size hbE.size
     have HBE := Lib.hid hbE
     clear hbE cM fM
     generalize extW ((extW wr E d).alloc (.cells #[.bool (bit)] 4)) E' d' = WE at *
     generalize (extW wr E d).heap.size = BB at *
     go_wp2_with (at_builtin; refine wpAppB okBools rfl (.tmp 32) (.tmp 37) rfl base _ _ _ #[.bool (bit)] BB rfl HOE.out rfl HCS.out rfl ?_ (by omega) (by omega) (by omega) ?_)
     ·simp [Value.oneCell']
     intro v' w2 hown2 hb2
     obtain ⟨A', cp', rfl⟩ := own_form hown2
     have cM2 : w2.cell? ⟨ob, 2, none⟩ = some v := (hb2.cell (p := ⟨ob, 2, none⟩) (by simp; omega)).trans cME
     have fM2 : w2.frozen? ⟨ob, 2, none⟩ = false := (hb2.frozen (p := ⟨ob, 2, none⟩) (by simp; omega)).trans fME
     have HNW := Lib.hid (FB.app HR.out HX.out HBE.out (by omega) hown2 hb2)
     clear hown2 hb2 cME fME
     go_wp2
     go_roundw
     case rel => exact ⟨y + 1, _, by omega, by go_num, by rw [show x * H + (y + 1) = P + 1 by have := HP.out; omega, HBT.out]; exact HNW.out⟩
     case measure => simp [intOf]; omega
    ·obtain rfl : H = y := by omega
     go_wp2
     go_roundw
     case rel => exact ⟨x + 1, v, by omega, by go_num, by rw [Nat.add_mul, Nat.one_mul]; exact hfb2.out⟩
     case measure => simp [intOf]; omega
  ·obtain rfl : W = x := by omega
   obtain ⟨hr9, ho9, hx9⟩ := HFB.out
   rw [show bT (trF W H bs) (W * H) = turnL W H bs from rfl] at ho9
   have hlo : (turnL W H bs).length = n := by rw [turnL_len, HN.out]
   obtain ⟨a1, c1, rfl, hT1, hg1⟩ := OkT.of_owns ho9
   rw [hlo] at hr9 hT1
   have o0 : wr.cell? ⟨ob, 0, none⟩ = some (.int .i64 (H)) := hr9.cell (i := 0) (by omega)
   have o1 : wr.cell? ⟨ob, 1, none⟩ = some (.int .i64 (W)) := hr9.cell (i := 1) (by omega)
   have o2 : wr.cell? ⟨ob, 2, none⟩ = some (.slice a1 n c1) := hr9.cell (i := 2) (by omega)
   have rr := hx9.rowIs HRR.out (by omega) (by omega)
   have r0 : wr.cell? ⟨rb, 0, none⟩ = some (.int .i64 (0)) := rr.cell (i := 0) (by omega)
   have r1 : wr.cell? ⟨rb, 1, none⟩ = some (.int .i64 (0)) := rr.cell (i := 1) (by omega)
   have r2 : wr.cell? ⟨rb, 2, none⟩ = some (.slice none 0 0) := rr.cell (i := 2) (by omega)
   have f0 := rr.frozen 0; have f1 := rr.frozen 1; have f2 := rr.frozen 2
   have HT1 := Lib.hid hT1
   have HG1 := Lib.hid hg1
   have HX9 := Lib.hid hx9
   have hxs := hx9.size
   clear hr9 ho9 hx9 rr hlo hT1 hg1 HFB HO3 HRR
   go_wp2
   refine bodyPost_ret (v := .tuple #[.agg #[.int .i64 (H), .int .i64 (W), .slice a1 n c1], .int .i64 (0)]) (by simp [results, Tryz.results53, go_sem, r0, r1, r2]) rfl ⟨a1, c1, rfl, ?_, ?_⟩
   ·exact ((((BelowX.refl (base := wr.heap.size) (mb := rb) (Nat.le_refl _)).set 0 _).set 1 _).set 2 _).okT HT1.out rfl fun b o e => by have := HG1.out b o e; omega
   ·exact (((hB0.out HX9.out).setCell (by simp; have := HQW.out; omega) _).setCell (by simp; have := HQW.out; omega) _).setCell (by simp; have := HQW.out; omega) _
end
section
open Go.RowKit
open Ef
theorem BelowX.trans {base mb : Nat} {W w w' : World} (h : BelowX base mb W w) (k : BelowX base mb w w') : BelowX base mb W w' :=
 ⟨k.os.trans h.os, k.tape.trans h.tape, k.output.trans h.output, k.size, fun b h1 h2 => (k.block b h1 h2).trans (h.block b h1 h2)⟩
theorem BelowX.of_below {base mb : Nat} {W w : World} (hb : base ≤ W.heap.size) (h : Below base W w) : BelowX base mb W w :=
 ⟨h.os, h.tape, h.output, Nat.le_trans hb h.size, fun b h1 _ => h.block b h1⟩
end
section
open Go.RowKit
section
variable {P : Program} {l : List Oper} {n : Nat} {Q : Exit → Act → World → Prop}
end
end
section
open Go.RowKit
open Ef
end
section
open Go.RowKit
end
section
open Go.RowKit
end
section
open Go.RowKit
structure SArg (ea : Option Addr) (en ec : Nat) (es : List Int) (pa : Option Addr) (pn pc : Nat) (ps : List Int) (w : World) : Prop where
 e : IsInts w ea en es
 p : IsInts w pa pn ps
def chG (G W H : Int) (v : Value) : Nat → Value := fun j => if j = 0 then .int .i64 G else if j = 1 then .int .i64 W else if j = 2 then .int .i64 H else v
structure CB (G W H : Int) (mb base : Nat) (W3 : World) (n : Nat) (p : List Int) (v : Value) (w : World) : Prop where
 row : w.rowIs mb 38 4 (chG G W H v)
 own : w.ownsRow base 3 1 v n (p.map i64v)
 bel : BelowX base mb W3 w
end
section
open Go.RowKit
theorem rest_eq {a : Int} {n : Nat} (hn : 0 < n) : a % (n : Int) = if a.tmod n < 0 then a.tmod n + n else a.tmod n := by
 have h0 : (0 : Int) < n := by omega
 have h1 : a = a.tmod n + n * a.tdiv n := (Int.tmod_add_mul_tdiv a n).symm
 have e : a % (n : Int) = (a.tmod n) % (n : Int) := by
  conv => lhs; rw [h1]
  rw [Int.add_mul_emod_self_left]
 have hlt := Int.tmod_lt_of_pos a h0
 have hgt := Int.lt_tmod_of_pos a h0
 rw [e]
 split
 ·rw [← Int.add_emod_right, Int.emod_eq_of_lt (by omega) (by omega)]
 ·exact Int.emod_eq_of_lt (by omega) hlt
set_option maxRecDepth 100000 in
set_option maxHeartbeats 8000000 in
theorem Rest_ok (a : Int) (n : Nat) (w : World) (hn : 0 < n) (h2 : n ≤ 64) (ha : (-9223372036854775808 ≤ a ∧ a ≤ 9223372036854775807)) :
  Calls Tryz.prog 91 #[.int .i64 (a), .int .i64 (n)] w fun e w' => e = .returned (.int .i64 (a % (n : Int))) ∧ Below w.heap.size w w' := by
 have h0 : (0 : Int) < n := by omega
 have hE := Lib.hid (rest_eq (a := a) hn)
 have hlt := Int.tmod_lt_of_pos a h0
 have hgt := Int.lt_tmod_of_pos a h0
 have hN0 : ((n : Int) == 0) = false := by simp; omega
 have hN1 : (n : Int) ≠ 0 := by omega
 have hN3 : ¬ n = 0 := by omega
 obtain ⟨r, hr⟩ : ∃ r, a.tmod (n : Int) = r := ⟨_, rfl⟩
 rw [hr] at hE hlt hgt
 by_cases hr0 : r < 0
 ·rw [if_pos hr0] at hE
  have v1 : IntKind.i64.wrap r = r := IntWalk.i64_in _ (by omega)
  have v2 : IntKind.i64.wrap (r + (n : Int)) = r + (n : Int) := IntWalk.i64_in _ (by omega)
  have hd : decide (r < 0) = true := by simpa using hr0
  go_enter Tryz.func91, Tryz.ntmps91
  go_wp2
  go_ret
  exact ⟨by rw [hE.out]; rfl, blw⟩
 ·rw [if_neg hr0] at hE
  have v1 : IntKind.i64.wrap r = r := IntWalk.i64_in _ (by omega)
  have hd : decide (r < 0) = false := by simpa using hr0
  go_enter Tryz.func91, Tryz.ntmps91
  go_wp2
  go_ret
  exact ⟨by rw [hE.out]; rfl, blw⟩
def cellAt (W H : Nat) (cs : List Int) (x y : Int) : Int := cs.getD ((y % (H : Int)).toNat * W + (x % (W : Int)).toNat) 0
theorem emod_nat (a : Int) {n : Nat} (hn : 0 < n) : ∃ k : Nat, a % (n : Int) = k ∧ k < n ∧ (a % (n : Int)).toNat = k := by
 have h1 := Int.emod_nonneg a (show (n : Int) ≠ 0 by omega)
 have h2 := Int.emod_lt_of_pos a (show (0 : Int) < n by omega)
 exact ⟨(a % (n : Int)).toNat, by omega, by omega, rfl⟩
set_option maxRecDepth 100000 in
set_option maxHeartbeats 8000000 in
theorem Cell_ok (G W H n : Nat) (a : Option Addr) (c : Nat) (cs : List Int) (x y : Int) (w : World) (hI : IsInts w a n cs) (hW1 : 0 < W) (hW : W ≤ 64) (hH1 : 0 < H) (hH : H ≤ 64) (hn : n = W * H) (hx : (-9223372036854775808 ≤ x ∧ x ≤ 9223372036854775807)) (hy : (-9223372036854775808 ≤ y ∧ y ≤ 9223372036854775807)) :
  Calls Tryz.prog 115 #[.agg #[.int .i64 (G), .int .i64 (W), .int .i64 (H), .slice a n c], .int .i64 (x), .int .i64 (y)] w fun e w' => e = .returned (.int .i64 (cellAt W H cs x y)) ∧ Below w.heap.size w w' := by
 have HX := Lib.hid (fun w => Rest_ok x W w hW1 hW hx)
 have HY := Lib.hid (fun w => Rest_ok y H w hH1 hH hy)
 obtain ⟨i, e1, i1, e2⟩ := emod_nat x hW1
 obtain ⟨j, e3, j1, e4⟩ := emod_nat y hH1
 have HC : Hid (cellAt W H cs x y = cs.getD (j * W + i) 0) := Lib.hid (by unfold cellAt; rw [e2, e4])
 rw [e1] at HX
 rw [e3] at HY
 have hn4 : n ≤ 4096 := by rw [hn]; exact Nat.mul_le_mul hW hH
 obtain ⟨M, hM⟩ : ∃ M, j * W = M := ⟨_, rfl⟩
 obtain ⟨p, hp⟩ : ∃ p, M + i = p := ⟨_, rfl⟩
 have hpn : p < n := by
  have h1 : (j + 1) * W ≤ H * W := Nat.mul_le_mul_right W (by omega)
  have h2 : (j + 1) * W = j * W + W := Nat.succ_mul j W
  rw [hn, Nat.mul_comm W H]; omega
 have hMi : (j : Int) * (W : Int) = (M : Int) := by rw [← hM]; push_cast; rfl
 have hMp : (M : Int) + (i : Int) = (p : Int) := by rw [← hp]; push_cast; rfl
 have hM4 : M ≤ 4096 := by omega
 have vM : IntKind.i64.wrap (M : Int) = (M : Int) := IntWalk.i64_in _ (by omega)
 have vp : IntKind.i64.wrap (p : Int) = (p : Int) := IntWalk.i64_in _ (by omega)
 rw [hM, hp] at HC
 obtain ⟨b, o, rfl, hb, hc⟩ := hI.2 (by omega)
 have c0 := hc p hpn
 have lb : LtW b w := hb
 obtain ⟨v, hv⟩ : ∃ v, cs.getD p 0 = v := ⟨_, rfl⟩
 rw [hv] at c0 HC
 rw [HC.out]
 clear hI hc hb hv e1 e2 e3 e4 hM hp hn
 go_enter Tryz.func115, Tryz.ntmps115
 go_wp2_with fail
 refine wp_region_ext (by kernel_rfl) (by kernel_rfl) ?_
 (repeat (first | ((with_reducible refine ext_step (fun K hK => ?_)); go_simp; first | (refine hK _ ?_; clear hK K) | (apply Exists.intro; refine ⟨fun _ _ => ?_, hK _ ?_⟩; fail; clear hK K))))
 ((with_reducible refine ext_step (fun K hK => ?_)); go_simp; (apply Exists.intro; refine ⟨fun _ _ => ?_, hK _ ?_⟩; (go_at_call 91; exact extOf (HY.out _)); clear hK K))
 (repeat (first | ((with_reducible refine ext_step (fun K hK => ?_)); go_simp; first | (refine hK _ ?_; clear hK K) | (apply Exists.intro; refine ⟨fun _ _ => ?_, hK _ ?_⟩; fail; clear hK K))))
 ((with_reducible refine ext_step (fun K hK => ?_)); go_simp; (apply Exists.intro; refine ⟨fun _ _ => ?_, hK _ ?_⟩; (go_at_call 91; exact extOf (HX.out _)); clear hK K))
 (repeat (first | ((with_reducible refine ext_step (fun K hK => ?_)); go_simp; first | (refine hK _ ?_; clear hK K) | (apply Exists.intro; refine ⟨fun _ _ => ?_, hK _ ?_⟩; fail; clear hK K))))
 refine wpQuiet_nil ?_; intro E d
 go_wp2
 go_ret
 exact ⟨rfl, blw⟩
end
section
open Go.RowKit
open Z (torN)
structure FL (base mb T nc : Nat) (f : Value → Nat → Value) (e : Nat) (L : List Value) (W1 : World) (v : Value) (w : World) : Prop where
 row : w.rowIs mb T nc (f v)
 own : w.ownsRow base e 1 v L.length L
 bel : BelowX base mb W1 w
structure ChOk (G W H n : Nat) (cs : List Int) : Prop where
 g : G = 4 ∨ G = 6
 w1 : 0 < W
 w2 : W ≤ 64
 h1 : 0 < H
 h2 : H ≤ 64
 hn : n = W * H
 cr : ∀ x ∈ cs, 0 ≤ x ∧ x < 62
section
variable {G W H n : Nat} {cs : List Int}
theorem ChOk.e (h : ChOk G W H n cs) : chE G W H n cs = 0 := chE_ok (by have := h.g; omega) h.w1 h.w2 h.h1 h.h2 h.hn h.cr
theorem ChOk.n4 (h : ChOk G W H n cs) : n ≤ 4096 := by rw [h.hn]; exact Nat.mul_le_mul h.w2 h.h2
theorem ChOk.tpos (h : ChOk G W H n cs) : 0 < torN W H := Z.torN_pos h.w1 h.h1
theorem ChOk.tle (h : ChOk G W H n cs) : torN W H ≤ 4096 := by
 rw [Z.torN_eq]
 exact Nat.mul_le_mul h.w2 (Nat.le_trans (Nat.div_le_self _ _) h.h2)
end
set_option maxRecDepth 100000 in
set_option maxHeartbeats 8000000 in
theorem gcd_ok (x y : Nat) (w : World) (hx : x ≤ 64) (hy : y ≤ 64) :
  Calls Tryz.prog 104 #[.int .i64 (x), .int .i64 (y)] w fun e w' => e = .returned (.int .i64 (Nat.gcd x y)) ∧ Below w.heap.size w w' := by
 go_enter Tryz.func104, Tryz.ntmps104
 go_wp2_with fail
 go_loopw [0, 1] (fun a b wr => ∃ (p q : Nat) (E : Array Obj) (d : Nat), p ≤ 64 ∧ q ≤ 64 ∧ a = .int .i64 p ∧ b = .int .i64 q ∧ Hid (Nat.gcd p q = Nat.gcd x y) ∧ wr = extW w E d) (fun _ b _ => (intOf b).toNat)
 case atStart => exact ⟨x, y, #[], w.drawn, hx, hy, rfl, rfl, Lib.hid rfl, extW_zero _⟩
 case round =>
  obtain ⟨p, q, E, d, hp, hq, rfl, rfl, HG, rfl⟩ := hrel
  by_cases hq0 : q = 0
  ·subst hq0
   have HE : Hid (Nat.gcd x y = p) := Lib.hid (by rw [← HG.out, Nat.gcd_zero_right])
   go_wp2
   go_ret
   exact ⟨by rw [HE.out]; rfl, blw⟩
  ·have b0 : ((q : Int) != 0) = true := by simp; omega
   have b1 : ((q : Int) == 0) = false := by simp; omega
   have b2 : (q : Int) ≠ 0 := by omega
   obtain ⟨m, hm⟩ : ∃ m, p % q = m := ⟨_, rfl⟩
   have hm1 : m < q := by rw [← hm]; exact Nat.mod_lt _ (by omega)
   have ht : (p : Int).tmod (q : Int) = (m : Int) := by rw [← hm]; rfl
   have HM := Lib.hid hm
   have v1 : IntKind.i64.wrap (m : Int) = (m : Int) := IntWalk.i64_in _ (by omega)
   clear hm
   go_wp2_with fail
   (refine wp_region_ext (by kernel_rfl) (by kernel_rfl) ?_; (repeat (first | ((with_reducible refine ext_step (fun K hK => ?_)); go_simp; first | (refine hK _ ?_; clear hK K) | (apply Exists.intro; refine ⟨fun _ _ => ?_, hK _ ?_⟩; fail; clear hK K)))); refine wpQuiet_nil ?_; intro E d)
   go_wp2
   go_roundw
   case rel => exact ⟨q, m, _, _, hq, by omega, rfl, rfl, Lib.hid (by rw [← HG.out, ← HM.out, Nat.gcd_comm p q, Nat.gcd_rec q p, Nat.gcd_comm]), by rw [extW_extW]⟩
   case measure => simp [intOf]; omega
def torV (N : Nat) : Value := if 24 < N then .tuple #[.int .i64 (0), .int .i64 (4)] else .tuple #[.int .i64 (N), .int .i64 (0)]
theorem lfGs10 {P : Prop} (h : P := by
 go_wp2_with fail
 (refine wp_region_ext (by kernel_rfl) (by kernel_rfl) ?_; (repeat (first | ((with_reducible refine ext_step (fun K hK => ?_)); go_simp; first | (refine hK _ ?_; clear hK K) | (apply Exists.intro; refine ⟨fun _ _ => ?_, hK _ ?_⟩; (go_at_call 104; exact extOf (HG.out _)); clear hK K)))); refine wpQuiet_nil ?_; intro E d)
 go_wp2
 go_ret2
 exact ⟨by rw [HV.out]; rfl, blw⟩) : P := h
set_option maxRecDepth 100000 in
set_option maxHeartbeats 8000000 in
theorem Torus_ok (G W H n : Nat) (a : Option Addr) (c : Nat) (cs : List Int) (w : World) (hI : IsInts w a n cs) (h : ChOk G W H n cs) :
  Calls Tryz.prog 70 #[.agg #[.int .i64 (G), .int .i64 (W), .int .i64 (H), .slice a n c]] w fun e w' => e = .returned (torV (torN W H)) ∧ Below w.heap.size w w' := by
 have hn4 := h.n4
 have HR := Lib.hid (fun w hI => chWrong_any G W H a n c cs w hI (by have := h.g; omega) (by have := h.w2; omega) (by have := h.h2; omega) (by omega))
 rw [h.e] at HR
 have HI := Lib.hid hI
 have hW := h.w2; have hH := h.h2; have hW1 := h.w1
 have HG := Lib.hid (fun w => gcd_ok W H w hW hH)
 have hN : W / Nat.gcd W H * H = torN W H := rfl
 have hNl := h.tle
 have hg : 0 < Nat.gcd W H := Nat.gcd_pos_of_pos_left H hW1
 have hgl : Nat.gcd W H ≤ W := Nat.le_of_dvd hW1 (Nat.gcd_dvd_left W H)
 generalize Nat.gcd W H = g at *
 generalize torN W H = N at *
 obtain ⟨q, hq⟩ : ∃ q, W / g = q := ⟨_, rfl⟩
 have hqW : q ≤ W := by rw [← hq]; exact Nat.div_le_self _ _
 rw [hq] at hN
 have t1 : (W : Int).tdiv (g : Int) = (q : Int) := by rw [← hq]; rfl
 have t2 : (q : Int) * (H : Int) = (N : Int) := by rw [← hN]; push_cast; rfl
 have b1 : ((g : Int) == 0) = false := by simp; omega
 have b2 : (g : Int) ≠ 0 := by omega
 have b3 : ¬ g = 0 := by omega
 have v1 : IntKind.i64.wrap (q : Int) = (q : Int) := IntWalk.i64_in _ (by omega)
 have v2 : IntKind.i64.wrap (N : Int) = (N : Int) := IntWalk.i64_in _ (by omega)
 clear hI hn4 hq hN h
 by_cases hm : 24 < N
 ·have d1 : decide (24 < N) = true := by simpa using hm
  have d2 : decide ((N : Int) > 24) = true := by simp; omega
  have HV : Hid (torV N = .tuple #[.int .i64 (0), .int .i64 (4)]) := Lib.hid (by unfold torV; rw [if_pos hm])
  go_enter Tryz.func70, Tryz.ntmps70
  (go_wp2_with fail; refine (HR.out _ (HI.out.below blw)).mono ?_; rintro r w1 ⟨rfl, hb⟩; obtain ⟨E, d, rfl⟩ := bExt hb; clear hb)
  exact lfGs10
 ·have d1 : decide (24 < N) = false := by simpa using hm
  have d2 : decide ((N : Int) > 24) = false := by simp; omega
  have HV : Hid (torV N = .tuple #[.int .i64 (N), .int .i64 (0)]) := Lib.hid (by unfold torV; rw [if_neg hm])
  go_enter Tryz.func70, Tryz.ntmps70
  (go_wp2_with fail; refine (HR.out _ (HI.out.below blw)).mono ?_; rintro r w1 ⟨rfl, hb⟩; obtain ⟨E, d, rfl⟩ := bExt hb; clear hb)
  exact lfGs10
end
section
open Go.RowKit
def rtY (g x y : Int) : Int := if g = 4 then x else x + y
set_option maxRecDepth 100000 in
set_option maxHeartbeats 400000 in
theorem rTurned_any (g x y : Int) (w : World) (b1 : -1152921504606846976 ≤ x ∧ x ≤ 1152921504606846976) (b2 : -1152921504606846976 ≤ y ∧ y ≤ 1152921504606846976) :
  Calls Tryz.prog 93 #[.int .i64 (g), .agg #[.int .i64 (x), .int .i64 (y)]] w fun e w' => e = .returned (.agg #[.int .i64 (-y), .int .i64 (rtY g x y)]) ∧ Below w.heap.size w w' := by
 rcases Decidable.em (g = 4) with h6 | h6
 ·have HE := Lib.hid (show rtY g x y = x by rw [rtY, if_pos h6])
  subst h6
  go_enter Tryz.func93, Tryz.ntmps93
  go_wp2
  refine bodyPost_ret (v := .agg #[.int .i64 (-y), .int .i64 (x)]) (by simp [results, Tryz.results93, go_sem]) rfl ⟨by rw [HE.out], blw⟩
 ·have e2 : (g == 4) = false := by simpa using h6
  have HE := Lib.hid (show rtY g x y = x + y by rw [rtY, if_neg h6])
  clear h6
  go_enter Tryz.func93, Tryz.ntmps93
  go_wp2
  refine bodyPost_ret (v := .agg #[.int .i64 (-y), .int .i64 (x+y)]) (by simp [results, Tryz.results93, go_sem]) rfl ⟨by rw [HE.out], blw⟩
set_option maxRecDepth 100000 in
set_option maxHeartbeats 400000 in
theorem rMirrored_any (g x y : Int) (w : World) (hg : g = 4 ∨ g = 6) (b1 : -1152921504606846976 ≤ x ∧ x ≤ 1152921504606846976) (b2 : -1152921504606846976 ≤ y ∧ y ≤ 1152921504606846976) :
  Calls Tryz.prog 92 #[.int .i64 (g), .agg #[.int .i64 (x), .int .i64 (y)]] w fun e w' => e = .returned (.agg #[.int .i64 (miX g x y), .int .i64 (-y)]) ∧ Below w.heap.size w w' := by
 rcases hg with rfl | rfl
 ·have HE := Lib.hid (show miX 4 x y = x by simp [miX])
  go_enter Tryz.func92, Tryz.ntmps92
  go_wp2
  refine bodyPost_ret (v := .agg #[.int .i64 (x), .int .i64 (-y)]) (by simp [results, Tryz.results92, go_sem]) rfl ⟨by rw [HE.out], blw⟩
 ·have HE := Lib.hid (show miX 6 x y = x + y by simp [miX])
  go_enter Tryz.func92, Tryz.ntmps92
  go_wp2
  refine bodyPost_ret (v := .agg #[.int .i64 (x+y), .int .i64 (-y)]) (by simp [results, Tryz.results92, go_sem]) rfl ⟨by rw [HE.out], blw⟩
set_option maxRecDepth 100000 in
set_option maxHeartbeats 400000 in
theorem rplus_any (x y a b : Int) (w : World) (h1 : (-9223372036854775808 ≤ x+a ∧ x+a ≤ 9223372036854775807)) (h2 : (-9223372036854775808 ≤ y+b ∧ y+b ≤ 9223372036854775807)) :
  Calls Tryz.prog 94 #[.agg #[.int .i64 (x), .int .i64 (y)], .agg #[.int .i64 (a), .int .i64 (b)]] w fun e w' => e = .returned (.agg #[.int .i64 (x+a), .int .i64 (y+b)]) ∧ Below w.heap.size w w' := by
 go_enter Tryz.func94, Tryz.ntmps94
 go_wp2
 refine bodyPost_ret (v := .agg #[.int .i64 (x+a), .int .i64 (y+b)]) (by simp [results, Tryz.results94, go_sem]) rfl ⟨rfl, blw⟩
end
section
open Go.RowKit
end
section
open Go.RowKit
theorem allocPt (w : World) : Sem.run Tryz.prog (Instr.alloc 71 true (.tuple #[])) w = .ok (.pointer (some ⟨w.heap.size, 0, none⟩)) (w.alloc (.cells #[.int .i64 (0), .int .i64 (0)] 71)) := by kernel_rfl
theorem tmY_one (g x y : Int) (hg : g = 4 ∨ g = 6) : tmX x y 0 1 = (Z.turn g (x,y)).1 ∧ tmY g x y 0 1 = (Z.turn g (x,y)).2 := by
 rcases hg with rfl | rfl <;> simp [tmX, tmY, Z.turn]
end
section
open Go.RowKit
open Z (IsGcd nrm)
end
section
open Go.RowKit
open Z (IsGcd nrm)
end
section
open Go.RowKit
open Z (IsGcd nrm)
end
section
open Go.RowKit
section
variable {P : Program} {ops : Array Oper} {md : Region.Mode} {C : World → Prop} {R : Value → Prop}
end
end
section
open Go.RowKit
open Z (IsGcd nrm)
end
section
open Go.RowKit
open Z (IsGcd nrm)
end
end Go.Proofs.YtajdoobkfbdgoaaGreatDoor
