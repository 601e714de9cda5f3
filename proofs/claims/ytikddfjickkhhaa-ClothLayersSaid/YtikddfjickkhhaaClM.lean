/- Which strands of a cloth lie above which, by way of others or not: the plain theory, no program in sight. -/
import Derived.Test.YtikddfjickkhhaaRows
namespace Go.Proofs.Ytikddfjickkhhaa.Cl
set_option linter.unusedVariables false
set_option linter.unusedSimpArgs false
/-- a is b, or lies above it, by way of others or not. -/
inductive Rch (ab : Nat → Nat → Bool) : Nat → Nat → Prop where
  | rf (a : Nat) : Rch ab a a
  | st {a b c : Nat} : ab a b = true → Rch ab b c → Rch ab a c
theorem Rch.one {ab : Nat → Nat → Bool} {a b : Nat} (h : ab a b = true) : Rch ab a b := .st h (.rf b)
theorem Rch.tr {ab : Nat → Nat → Bool} {a b c : Nat} (h : Rch ab a b) (k : Rch ab b c) : Rch ab a c := by
  induction h with
  | rf => exact k
  | st h _ ih => exact .st h (ih k)
/-- The relation speaks of the numbers below n alone. -/
def Bnd (n : Nat) (ab : Nat → Nat → Bool) : Prop := ∀ a b, ab a b = true → a < n ∧ b < n
theorem Rch.lt {ab : Nat → Nat → Bool} {n a b : Nat} (hb : Bnd n ab) (h : Rch ab a b) (hl : b < n) : a < n := by
  cases h with
  | rf => exact hl
  | st h _ => exact (hb _ _ h).1
open Classical in
/-- Does a lie above s, or is it s? -/
noncomputable def up (ab : Nat → Nat → Bool) (s a : Nat) : Bool := decide (Rch ab a s)
theorem up_iff {ab : Nat → Nat → Bool} {s a : Nat} : up ab s a = true ↔ Rch ab a s := by unfold up; simp
/-- How many below n are so. -/
def cnt (n : Nat) (f : Nat → Bool) : Nat := ((List.range n).filter f).length
theorem cnt_le (n : Nat) (f : Nat → Bool) : cnt n f ≤ n := by
  unfold cnt
  have := List.length_filter_le f (List.range n)
  simpa using this
theorem cnt_succ (n : Nat) (f : Nat → Bool) : cnt (n+1) f = cnt n f + (if f n then 1 else 0) := by
  unfold cnt
  rw [List.range_succ, List.filter_append]
  by_cases h : f n = true <;> simp [h]
theorem cnt_set (n : Nat) (f : Nat → Bool) (a : Nat) (ha : a < n) (hf : f a = false) : cnt n (fun x => if x = a then true else f x) = cnt n f + 1 := by
  induction n with
  | zero => omega
  | succ n ih =>
    rw [cnt_succ, cnt_succ]
    by_cases h : a = n
    · subst h
      have e : cnt a (fun x => if x = a then true else f x) = cnt a f := by
        unfold cnt
        congr 1
        apply List.filter_congr
        intro x hx
        have : x < a := by simpa using hx
        rw [if_neg (by omega)]
      rw [e]
      simp [hf]
    · rw [ih (by omega)]
      simp only [show ¬ n = a from fun e => h e.symm, if_false]
      omega
theorem cnt_full {n : Nat} {f : Nat → Bool} : cnt n f = n ↔ ∀ a, a < n → f a = true := by
  induction n with
  | zero => simp [cnt]
  | succ n ih =>
    rw [cnt_succ]
    have hl := cnt_le n f
    constructor
    · intro h a ha
      have hn : f n = true := by
        cases e : f n with
        | true => rfl
        | false => rw [e] at h; simp at h; omega
      by_cases e : a = n
      · subst e; exact hn
      · exact ih.1 (by rw [hn] at h; simp at h; omega) a (by omega)
    · intro h
      rw [h n (by omega), ih.2 fun a ha => h a (by omega)]
      simp
/-- What the search for all that lie above s knows: those found, those that are still to be looked under; b is being looked under, up to k (b = n: none is). -/
structure Srch (n : Nat) (ab : Nat → Nat → Bool) (s : Nat) (inn : Nat → Bool) (todo : List Nat) (b k : Nat) : Prop where
  lt : ∀ a, inn a = true → a < n
  sound : ∀ a, inn a = true → Rch ab a s
  base : inn s = true
  todo_in : ∀ c ∈ todo, inn c = true
  closed : ∀ c, inn c = true → c ∉ todo → c ≠ b → ∀ a, a < n → ab a c = true → inn a = true
  part : ∀ a, a < k → ab a b = true → inn a = true
  bin : b < n → inn b = true
theorem Srch.start {n : Nat} {ab : Nat → Nat → Bool} {s : Nat} (hs : s < n) : Srch n ab s (fun x => if x = s then true else false) [s] n 0 where
  lt := by intro a h; by_cases e : a = s <;> simp [e] at h ⊢; exact hs
  sound := by intro a h; by_cases e : a = s <;> simp [e] at h; subst e; exact .rf _
  base := by simp
  todo_in := by simp
  closed := by intro c h1 h2; by_cases e : c = s <;> simp [e] at h1 h2
  part := by intro a h; omega
  bin := by intro h; omega
/-- One is taken up. -/
theorem Srch.pop {n : Nat} {ab : Nat → Nat → Bool} {s : Nat} {inn : Nat → Bool} {todo : List Nat} {b : Nat} (h : Srch n ab s inn (todo ++ [b]) n 0) : Srch n ab s inn todo b 0 where
  lt := h.lt
  sound := h.sound
  base := h.base
  todo_in := fun c hc => h.todo_in c (by simp [hc])
  closed := by
    intro c h1 h2 h3
    exact h.closed c h1 (by simp [h2, h3]) (by have := h.lt c h1; omega)
  part := by intro a h; omega
  bin := fun _ => h.todo_in b (by simp)
theorem Srch.skip {n : Nat} {ab : Nat → Nat → Bool} {s : Nat} {inn : Nat → Bool} {todo : List Nat} {b k : Nat} (h : Srch n ab s inn todo b k) (hk : inn k = true ∨ ab k b = false) : Srch n ab s inn todo b (k+1) where
  lt := h.lt
  sound := h.sound
  base := h.base
  todo_in := h.todo_in
  closed := h.closed
  part := by
    intro a ha hab
    by_cases e : a = k
    · subst e
      rcases hk with hk | hk
      · exact hk
      · rw [hk] at hab; cases hab
    · exact h.part a (by omega) hab
  bin := h.bin
theorem Srch.push {n : Nat} {ab : Nat → Nat → Bool} {s : Nat} {inn : Nat → Bool} {todo : List Nat} {b k : Nat} (h : Srch n ab s inn todo b k) (hk : k < n) (hb : b < n) (hab : ab k b = true) :
    Srch n ab s (fun x => if x = k then true else inn x) (todo ++ [k]) b (k+1) where
  lt := by intro a ha; by_cases e : a = k; · omega
           · rw [if_neg e] at ha; exact h.lt a ha
  sound := by
    intro a ha
    by_cases e : a = k
    · subst e; exact .st hab (h.sound b (h.bin hb))
    · rw [if_neg e] at ha; exact h.sound a ha
  base := by have := h.base; split <;> simp_all
  todo_in := by
    intro c hc
    by_cases e : c = k
    · simp [e]
    · rw [if_neg e]
      simp at hc
      rcases hc with hc | hc
      · exact h.todo_in c hc
      · exact absurd hc e
  closed := by
    intro c h1 h2 h3 a ha hac
    have hck : c ≠ k := by intro e; subst e; simp at h2
    rw [if_neg hck] at h1
    by_cases e : a = k
    · simp [e]
    · rw [if_neg e]; exact h.closed c h1 (by simp at h2; exact h2.1) h3 a ha hac
  part := by
    intro a ha hab'
    by_cases e : a = k
    · simp [e]
    · rw [if_neg e]; exact h.part a (by omega) hab'
  bin := by intro hb; have := h.bin hb; by_cases e : b = k; · simp [e]
            · rw [if_neg e]; exact this
theorem Srch.done {n : Nat} {ab : Nat → Nat → Bool} {s : Nat} {inn : Nat → Bool} {todo : List Nat} {b : Nat} (hb : b < n) (h : Srch n ab s inn todo b n) : Srch n ab s inn todo n 0 where
  lt := h.lt
  sound := h.sound
  base := h.base
  todo_in := h.todo_in
  closed := by
    intro c h1 h2 _ a ha hac
    by_cases e : c = b
    · subst e; exact h.part a ha hac
    · exact h.closed c h1 h2 e a ha hac
  part := by intro a h; omega
  bin := by intro h; omega
theorem Srch.end_ {n : Nat} {ab : Nat → Nat → Bool} {s : Nat} {inn : Nat → Bool} (hB : Bnd n ab) (h : Srch n ab s inn [] n 0) (a : Nat) : inn a = up ab s a := by
  rw [Bool.eq_iff_iff, up_iff]
  constructor
  · exact h.sound a
  · intro hr
    have key : ∀ x y, Rch ab x y → inn y = true → inn x = true := by
      intro x y hxy
      induction hxy with
      | rf => exact id
      | st h1 _ ih =>
        intro hy
        have := ih hy
        exact h.closed _ this (by simp) (by have := h.lt _ this; omega) _ (hB _ _ h1).1 h1
    exact key a s hr h.base
/-- How much is left to do. -/
def left (n : Nat) (inn : Nat → Bool) (todo : List Nat) : Nat := 2 * (n - cnt n inn) + todo.length
theorem left_push {n k : Nat} {inn : Nat → Bool} {todo : List Nat} (hk : k < n) (hi : inn k = false) : left n (fun x => if x = k then true else inn x) (todo ++ [k]) < left n inn todo := by
  unfold left
  rw [cnt_set n inn k hk hi]
  have h := cnt_le n (fun x => if x = k then true else inn x)
  rw [cnt_set n inn k hk hi] at h
  simp
  omega
/-- The table of the document: paths by way of those below k. -/
def wp (ab : Nat → Nat → Bool) : Nat → Nat → Nat → Bool
  | 0, a, b => (a == b) || ab a b
  | k + 1, a, b => wp ab k a b || (wp ab k a k && wp ab k k b)
theorem wp_sound {ab : Nat → Nat → Bool} (k : Nat) : ∀ a b, wp ab k a b = true → Rch ab a b := by
  induction k with
  | zero =>
    intro a b h
    simp only [wp, Bool.or_eq_true, beq_iff_eq] at h
    rcases h with h | h
    · subst h; exact .rf _
    · exact .one h
  | succ k ih =>
    intro a b h
    simp only [wp, Bool.or_eq_true, Bool.and_eq_true] at h
    rcases h with h | ⟨h1, h2⟩
    · exact ih a b h
    · exact (ih a k h1).tr (ih k b h2)
theorem wp_self (ab : Nat → Nat → Bool) (k a : Nat) : wp ab k a a = true := by
  induction k with
  | zero => simp [wp]
  | succ k ih => simp [wp, ih]
theorem wp_mono {ab : Nat → Nat → Bool} {k a b : Nat} (h : wp ab 0 a b = true) : wp ab k a b = true := by
  induction k with
  | zero => exact h
  | succ k ih => simp [wp, ih]
theorem wp_tr {ab : Nat → Nat → Bool} (k : Nat) : ∀ a c b, c < k → wp ab k a c = true → wp ab k c b = true → wp ab k a b = true := by
  induction k with
  | zero => intro a c b h; omega
  | succ k ih =>
    intro a c b hc h1 h2
    simp only [wp, Bool.or_eq_true, Bool.and_eq_true] at h1 h2 ⊢
    by_cases e : c = k
    · subst e
      have g1 : wp ab c a c = true := by rcases h1 with h | h; exact h; exact h.1
      have g2 : wp ab c c b = true := by rcases h2 with h | h; exact h; exact h.2
      exact .inr ⟨g1, g2⟩
    · have hc' : c < k := by omega
      rcases h1 with h1 | ⟨h1, h1'⟩ <;> rcases h2 with h2 | ⟨h2, h2'⟩
      · exact .inl (ih a c b hc' h1 h2)
      · exact .inr ⟨ih a c k hc' h1 h2, h2'⟩
      · exact .inr ⟨h1, ih k c b hc' h1' h2⟩
      · exact .inr ⟨h1, h2'⟩
theorem wp_iff {n : Nat} {ab : Nat → Nat → Bool} (hB : Bnd n ab) (a b : Nat) : wp ab n a b = up ab b a := by
  rw [Bool.eq_iff_iff, up_iff]
  constructor
  · exact wp_sound n a b
  · intro h
    induction h with
    | rf => exact wp_self ab n _
    | st h1 _ ih => exact wp_tr n _ _ _ (hB _ _ h1).2 (wp_mono (by simp [wp, h1])) ih
/-- In place: row k and column k stay as they are in round k. -/
theorem wp_row (ab : Nat → Nat → Bool) (k b : Nat) : wp ab (k+1) k b = wp ab k k b := by simp [wp, wp_self]
theorem wp_col (ab : Nat → Nat → Bool) (k a : Nat) : wp ab (k+1) a k = wp ab k a k := by simp [wp, wp_self]
/-- What can be lifted off, if anything: all that lie above the first strand above which not all lie. -/
def lift (n : Nat) (ab : Nat → Nat → Bool) : List Nat :=
  match (List.range n).find? (fun s => decide (cnt n (fun a => wp ab n a s) < n)) with
  | some s => (List.range n).filter (fun a => wp ab n a s)
  | none => []
/-- Of W ends and H picks with these bits: does a lie above b, where they cross? -/
def abM (W H : Nat) (bs : List Bool) (a b : Nat) : Bool :=
  if a < W ∧ W ≤ b ∧ b < W + H then bs.getD ((b - W) * W + a) false
  else if W ≤ a ∧ a < W + H ∧ b < W then !bs.getD ((a - W) * W + b) false else false
theorem abM_bnd (W H : Nat) (bs : List Bool) : Bnd (W + H) (abM W H bs) := by
  intro a b h
  unfold abM at h
  split at h
  · omega
  · split at h
    · omega
    · cases h
theorem place_lt {W H x y : Nat} (hx : x < W) (hy : y < H) : y * W + x < W * H := by
  calc y * W + x < y * W + W := by omega
    _ = (y + 1) * W := by rw [Nat.add_mul, Nat.one_mul]
    _ ≤ H * W := Nat.mul_le_mul_right _ hy
    _ = W * H := Nat.mul_comm _ _
theorem find_lt (n s : Nat) (p : Nat → Bool) (hs : s < n) (h : p s = true) (hm : ∀ x, x < s → p x = false) : (List.range n).find? p = some s := by
  induction n with
  | zero => omega
  | succ n ih =>
    rw [List.range_succ, List.find?_append]
    by_cases e : s = n
    · subst e
      have : (List.range s).find? p = none := by
        rw [List.find?_eq_none]
        intro x hx
        have := hm x (by simpa using hx)
        simp [this]
      rw [this]
      simp [h]
    · rw [ih (by omega)]
      rfl
theorem lift_some {n : Nat} {ab : Nat → Nat → Bool} {s : Nat} (hs : s < n) (h : cnt n (fun a => wp ab n a s) < n) (hm : ∀ x, x < s → ¬ cnt n (fun a => wp ab n a x) < n) : lift n ab = (List.range n).filter (fun a => wp ab n a s) := by
  unfold lift
  rw [find_lt n s _ hs (by simpa using h) (fun x hx => by simpa using hm x hx)]
theorem lift_none {n : Nat} {ab : Nat → Nat → Bool} (hm : ∀ x, x < n → ¬ cnt n (fun a => wp ab n a x) < n) : lift n ab = [] := by
  unfold lift
  have : (List.range n).find? (fun s => decide (cnt n (fun a => wp ab n a s) < n)) = none := by
    rw [List.find?_eq_none]
    intro x hx
    have := hm x (by simpa using hx)
    simpa using this
  rw [this]
end Go.Proofs.Ytikddfjickkhhaa.Cl
