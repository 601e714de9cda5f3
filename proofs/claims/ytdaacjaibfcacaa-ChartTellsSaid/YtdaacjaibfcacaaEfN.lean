/- What follows from one strand's colour, step by step: no program in sight. -/
import Derived.Test.YtdaacjaibfcacaaEfM
namespace Go.Proofs.Ytdaacjaibfcacaa
open Go.RowKit
set_option linter.unusedVariables false
set_option linter.unusedSimpArgs false
namespace Ef
section
variable {W N : Nat} {cs p0 p : List Int} {T : List Nat} {a b : Nat}
/-- Colours in range. -/
def CR (cs : List Int) : Prop := ∀ x ∈ cs, 0 ≤ x ∧ x < 62
theorem crs_range (hc : CR cs) (hl : cs.length = W * (N - W)) (hWN : W ≤ N) (ha : a < N) (hb : b < N) {v : Int} (h : crs W cs a b = some v) : 0 ≤ v ∧ v < 62 := by
  have key : ∀ x y, x < W → W ≤ y → y < N → 0 ≤ cs.getD ((y - W) * W + x) 0 ∧ cs.getD ((y - W) * W + x) 0 < 62 := fun x y h1 h2 h3 => by
    have hlt : (y - W) * W + x < cs.length := by
      rw [hl, Nat.mul_comm W]
      have : (y - W + 1) * W ≤ (N - W) * W := Nat.mul_le_mul_right W (by omega)
      rw [Nat.add_mul, Nat.one_mul] at this
      omega
    rw [List.getD_eq_getElem?_getD, List.getElem?_eq_getElem hlt]
    exact hc _ (List.getElem_mem hlt)
  unfold crs at h
  by_cases h1 : a < W ∧ W ≤ b
  · rw [if_pos h1] at h; injection h with h; rw [← h]; exact key a b h1.1 h1.2 hb
  · rw [if_neg h1] at h
    by_cases h2 : b < W ∧ W ≤ a
    · rw [if_pos h2] at h; injection h with h; rw [← h]; exact key b a h2.1 h2.2 ha
    · rw [if_neg h2] at h; cases h
structure Inv (W : Nat) (cs : List Int) (N : Nat) (p0 p : List Int) (T : List Nat) : Prop where
  len : p.length = N
  ext : Extd p0 p
  good : Good p
  forced : ∀ q, Good q → Extd p0 q → Closed W cs q → Extd p q
  closed : ∀ x, x < N → 0 ≤ g p x → x ∉ T → ClosedAt W cs p x
  todo : ∀ x ∈ T, x < N ∧ 0 ≤ g p x
structure InvA (W : Nat) (cs : List Int) (N : Nat) (p0 p : List Int) (T : List Nat) (a b : Nat) : Prop where
  len : p.length = N
  ext : Extd p0 p
  good : Good p
  forced : ∀ q, Good q → Extd p0 q → Closed W cs q → Extd p q
  closed : ∀ x, x < N → 0 ≤ g p x → x ∉ T → x ≠ a → ClosedAt W cs p x
  todo : ∀ x ∈ T, x < N ∧ 0 ≤ g p x
  lt : a < N
  tied : 0 ≤ g p a
  upto : ∀ y v, y < b → crs W cs a y = some v → g p a = v ∨ g p y = v
theorem Inv.start {s : Nat} {k : Int} (hc : CR cs) (hl : cs.length = W * (N - W)) (hWN : W ≤ N) (hp : p.length = N) (hg : Good p) (hcl : Closed W cs p) (hs : s < N) (h0 : g p s < 0) (k0 : 0 ≤ k) (k1 : k < 62) : Inv W cs N (p.set s k) (p.set s k) [s] := by
  have hgs := g_set p s
  refine ⟨by rw [set_len, hp], Extd.refl _, fun i hi => ?_, fun q _ h _ => h, fun x hx h h1 => ?_, fun x hx => ?_⟩
  · rw [set_len] at hi
    rw [hgs i k (by omega)]
    have := hg i hi
    split <;> omega
  · have hxs : x ≠ s := fun e => h1 (by simp [e])
    intro y v hy hv
    rw [set_len, hp] at hy
    rw [hgs x k (by omega), if_neg hxs] at h
    rw [hgs x k (by omega), if_neg hxs, hgs y k (by omega)]
    have h2 := crs_range hc hl hWN hx hy hv
    rcases hcl x (by omega) h y v (by omega) hv with h3 | h3
    · exact .inl h3
    · right
      rw [if_neg (fun e => by rw [e] at h3; omega)]
      exact h3
  · rw [List.mem_singleton] at hx
    subst hx
    rw [hgs x k (by omega), if_pos rfl]
    exact ⟨hs, k0⟩
theorem Inv.pop (h : Inv W cs N p0 p (T ++ [a])) : InvA W cs N p0 p T a 0 :=
  ⟨h.len, h.ext, h.good, h.forced, fun x h1 h2 h3 h4 => h.closed x h1 h2 (by simp [h3, h4]), fun x hx => h.todo x (by simp [hx]), (h.todo a (by simp)).1, (h.todo a (by simp)).2, fun y v hy => absurd hy (by omega)⟩
theorem InvA.skip (h : InvA W cs N p0 p T a b) (hs : ∀ v, crs W cs a b = some v → g p a = v ∨ g p b = v) : InvA W cs N p0 p T a (b + 1) :=
  ⟨h.len, h.ext, h.good, h.forced, h.closed, h.todo, h.lt, h.tied, fun y v hy hv => by
    by_cases e : y = b
    · subst e; exact hs v hv
    · exact h.upto y v (by omega) hv⟩
theorem InvA.done (h : InvA W cs N p0 p T a N) : Inv W cs N p0 p T :=
  ⟨h.len, h.ext, h.good, h.forced, fun x h1 h2 h3 => by
    by_cases e : x = a
    · subst e; exact fun y v hy hv => h.upto y v (by rw [← h.len]; exact hy) hv
    · exact h.closed x h1 h2 h3 e, h.todo⟩
theorem Inv.finish (h : Inv W cs N p0 p []) : Least W cs p0 p :=
  ⟨h.ext, fun x hx h0 => h.closed x (by rw [← h.len]; exact hx) h0 (by simp), h.good, h.forced⟩
theorem InvA.conflict {v : Int} (h : InvA W cs N p0 p T a b) (hb : b < N) (hv : crs W cs a b = some v) (h1 : g p a ≠ v) (h2 : g p b ≠ v) (h3 : 0 ≤ g p b) : Never W cs p0 := by
  intro q hq he hc
  have hx := h.forced q hq he hc
  have ea := hx.2 a (by rw [h.len]; exact h.lt) h.tied
  have eb := hx.2 b (by rw [h.len]; exact hb) h3
  rcases hc a (by rw [hx.1, h.len]; exact h.lt) (by rw [ea]; exact h.tied) b v (by rw [hx.1, h.len]; exact hb) hv with h4 | h4
  · exact h1 (by rw [← ea]; exact h4)
  · exact h2 (by rw [← eb]; exact h4)
theorem InvA.push {v : Int} (hc : CR cs) (hl : cs.length = W * (N - W)) (hWN : W ≤ N) (h : InvA W cs N p0 p T a b) (hb : b < N) (hv : crs W cs a b = some v) (h1 : g p a ≠ v) (h3 : g p b < 0) : InvA W cs N p0 (p.set b v) (T ++ [b]) a (b + 1) := by
  have hgs : ∀ j, g (p.set b v) j = if j = b then v else g p j := fun j => g_set p b j v (by rw [h.len]; exact hb)
  have hvr := crs_range hc hl hWN h.lt hb hv
  have hab : a ≠ b := fun e => by subst e; have := h.tied; omega
  have keep : ∀ x, x < N → 0 ≤ g p x → ∀ y u, y < N → crs W cs x y = some u → (g p x = u ∨ g p y = u) → (g (p.set b v) x = u ∨ g (p.set b v) y = u) := fun x hx h0 y u hy hu hd => by
    have hxb : x ≠ b := fun e => by subst e; omega
    rw [hgs, hgs, if_neg hxb]
    rcases hd with hd | hd
    · exact .inl hd
    · right
      have := crs_range hc hl hWN hx hy hu
      rw [if_neg (fun e => by rw [e] at hd; omega)]
      exact hd
  refine ⟨by rw [set_len, h.len], ?_, fun i hi => ?_, fun q h4 h5 h6 => ?_, fun x hx h4 h5 h6 => ?_, fun x hx => ?_, h.lt, by rw [hgs, if_neg hab]; exact h.tied, fun y u hy hu => ?_⟩
  · refine ⟨by rw [set_len, h.ext.1], fun i hi h0 => ?_⟩
    have h4 := h.ext.2 i hi h0
    rw [hgs, if_neg (fun e => by subst e; omega)]
    exact h4
  · rw [set_len] at hi
    rw [hgs]
    have := h.good i hi
    split <;> omega
  · have hx := h.forced q h4 h5 h6
    refine ⟨by rw [set_len]; exact hx.1, fun i hi h0 => ?_⟩
    rw [set_len] at hi
    rw [hgs] at h0 ⊢
    by_cases e : i = b
    · subst e
      rw [if_pos rfl]
      have ea := hx.2 a (by rw [h.len]; exact h.lt) h.tied
      rcases h6 a (by rw [hx.1, h.len]; exact h.lt) (by rw [ea]; exact h.tied) i v (by rw [hx.1]; exact hi) hv with h7 | h7
      · exact absurd (ea.symm.trans h7) h1
      · exact h7
    · rw [if_neg e] at h0 ⊢
      exact hx.2 i hi h0
  · rw [List.mem_append, List.mem_singleton] at h5
    have hxb : x ≠ b := fun e => h5 (.inr e)
    rw [hgs, if_neg hxb] at h4
    intro y u hy hu
    rw [set_len, h.len] at hy
    exact keep x hx h4 y u hy hu (h.closed x hx h4 (fun e => h5 (.inl e)) h6 y u (by rw [h.len]; exact hy) hu)
  · rw [List.mem_append, List.mem_singleton] at hx
    rcases hx with hx | hx
    · obtain ⟨h4, h5⟩ := h.todo x hx
      exact ⟨h4, by rw [hgs]; split <;> omega⟩
    · subst hx; exact ⟨hb, by rw [hgs, if_pos rfl]; exact hvr.1⟩
  · by_cases e : y = b
    · subst e
      right
      rw [hgs, if_pos rfl]
      rw [hv] at hu
      injection hu
    · exact keep a h.lt h.tied y u (by omega) hu (h.upto y u (by omega) hu)
/-- How many strands have no colour yet. -/
def cnt (p : List Int) (N : Nat) : Nat := (List.range N).countP fun i => decide (g p i < 0)
theorem countP_flip {f h : Nat → Bool} {b : Nat} : ∀ N, b < N → f b = true → h b = false → (∀ j, j ≠ b → h j = f j) → (List.range N).countP f = (List.range N).countP h + 1 := by
  intro N
  induction N with
  | zero => intro h; omega
  | succ N ih =>
    intro hb h1 h2 h3
    rw [List.range_succ, List.countP_append, List.countP_append]
    by_cases e : b = N
    · subst e
      have : (List.range b).countP f = (List.range b).countP h := List.countP_congr fun x hx => by
        rw [List.mem_range] at hx
        rw [h3 x (by omega)]
      rw [this]
      simp [h1, h2]
    · rw [ih (by omega) h1 h2 h3]
      simp [h3 N (by omega)]
      omega
theorem cnt_set {v : Int} (hb : b < N) (hp : p.length = N) (h0 : g p b < 0) (hv : 0 ≤ v) : cnt p N = cnt (p.set b v) N + 1 := by
  refine countP_flip N hb (by simpa using h0) ?_ fun j hj => ?_
  · rw [g_set p b b v (by omega), if_pos rfl]; simp; omega
  · rw [g_set p b j v (by omega), if_neg hj]
theorem cnt_le (p : List Int) (N : Nat) : cnt p N ≤ N := by
  have := List.countP_le_length (p := fun i => decide (g p i < 0)) (l := List.range N)
  rw [List.length_range] at this
  exact this
end
end Ef
end Go.Proofs.Ytdaacjaibfcacaa
