/- Strands that can be lifted off: the plain theory, no program in sight. -/
import Derived.Test.YtikddfjickkhhaaClM
namespace Go.Proofs.Ytikddfjickkhhaa.Cl
set_option linter.unusedVariables false
set_option linter.unusedSimpArgs false
/-- Is a number among those of a list? -/
def inL (zs : List Int) (x : Nat) : Bool := zs.any fun z => z == (x : Int)
/-- None that is not of them lies above one of them. -/
def closedB (n : Nat) (ab : Nat → Nat → Bool) (f : Nat → Bool) : Prop := ∀ a, a < n → f a = false → ∀ b, b < n → f b = true → ab a b = false
instance (n : Nat) (ab : Nat → Nat → Bool) (f : Nat → Bool) : Decidable (closedB n ab f) := by unfold closedB; exact inferInstance
def inRg (n : Nat) (zs : List Int) : Bool := zs.all fun z => decide (0 ≤ z ∧ z < n)
/-- Can these be lifted off? -/
def freeV (n : Nat) (ab : Nat → Nat → Bool) (zs : List Int) : Bool :=
  inRg n zs && (decide (closedB n ab (inL zs)) && decide (0 < cnt n (inL zs) ∧ cnt n (inL zs) < n))
theorem cnt_congr {n : Nat} {f g : Nat → Bool} (h : ∀ a, a < n → f a = g a) : cnt n f = cnt n g := by
  unfold cnt
  congr 1
  apply List.filter_congr
  intro x hx
  exact h x (by simpa using hx)
theorem cnt_pos {n : Nat} {f : Nat → Bool} {a : Nat} (ha : a < n) (hf : f a = true) : 0 < cnt n f := by
  unfold cnt
  exact List.length_pos_of_mem (List.mem_filter.2 ⟨by simpa using ha, hf⟩)
theorem cnt_zero {n : Nat} {f : Nat → Bool} (h : 0 < cnt n f) : ∃ a, a < n ∧ f a = true := by
  unfold cnt at h
  obtain ⟨a, ha⟩ := List.exists_mem_of_length_pos h
  rw [List.mem_filter] at ha
  exact ⟨a, by simpa using ha.1, ha.2⟩
theorem cnt_notfull {n : Nat} {f : Nat → Bool} (h : cnt n f < n) : ∃ a, a < n ∧ f a = false := by
  rcases Classical.em (∃ a, a < n ∧ f a = false) with he | he
  · exact he
  · have : cnt n f = n := cnt_full.2 fun a ha => by
      cases e : f a with
      | true => rfl
      | false => exact absurd ⟨a, ha, e⟩ he
    omega
theorem lift_cases (n : Nat) (ab : Nat → Nat → Bool) : (lift n ab = [] ∧ ∀ s, s < n → cnt n (fun a => wp ab n a s) = n) ∨ (∃ s, s < n ∧ cnt n (fun a => wp ab n a s) < n ∧ lift n ab = (List.range n).filter (fun a => wp ab n a s)) := by
  rcases Classical.em (∃ s, s < n ∧ cnt n (fun a => wp ab n a s) < n) with h | h
  · right
    -- the first one
    have : ∃ s, (s < n ∧ cnt n (fun a => wp ab n a s) < n) ∧ ∀ x, x < s → ¬ (x < n ∧ cnt n (fun a => wp ab n a x) < n) := by
      obtain ⟨s, hs⟩ := h
      induction s using Nat.strongRecOn with
      | _ s ih =>
        rcases Classical.em (∃ x, x < s ∧ (x < n ∧ cnt n (fun a => wp ab n a x) < n)) with ⟨x, hx, hx2⟩ | he
        · exact ih x hx hx2
        · exact ⟨s, hs, fun x hx hh => he ⟨x, hx, hh⟩⟩
    obtain ⟨s, ⟨h1, h2⟩, h3⟩ := this
    exact ⟨s, h1, h2, lift_some h1 h2 fun x hx hh => h3 x hx ⟨by omega, hh⟩⟩
  · left
    have h' : ∀ s, s < n → ¬ cnt n (fun a => wp ab n a s) < n := fun s hs hh => h ⟨s, hs, hh⟩
    refine ⟨lift_none h', fun s hs => ?_⟩
    have := h' s hs
    have := cnt_le n (fun a => wp ab n a s)
    omega
theorem inL_filter {n : Nat} {f : Nat → Bool} {a : Nat} (ha : a < n) : inL (((List.range n).filter f).map fun x : Nat => (x : Int)) a = f a := by
  rw [Bool.eq_iff_iff]
  unfold inL
  simp only [List.any_eq_true, List.mem_map, List.mem_filter, List.mem_range, beq_iff_eq]
  constructor
  · rintro ⟨z, ⟨x, ⟨hx, hf⟩, rfl⟩, hz⟩
    have : x = a := by omega
    subst this; exact hf
  · intro h
    exact ⟨_, ⟨a, ⟨ha, h⟩, rfl⟩, rfl⟩
/-- What is told can be lifted off. -/
theorem lift_free {n : Nat} {ab : Nat → Nat → Bool} (hB : Bnd n ab) (h : lift n ab ≠ []) : freeV n ab ((lift n ab).map fun x : Nat => (x : Int)) = true := by
  rcases lift_cases n ab with ⟨h0, _⟩ | ⟨s, hs, hc, hL⟩
  · exact absurd h0 h
  · rw [hL]
    have hcg : cnt n (inL (((List.range n).filter (fun a => wp ab n a s)).map fun x : Nat => (x : Int))) = cnt n (fun a => wp ab n a s) := cnt_congr fun a ha => inL_filter ha
    unfold freeV
    simp only [Bool.and_eq_true, decide_eq_true_eq]
    refine ⟨?_, ?_, ?_⟩
    · unfold inRg
      rw [List.all_eq_true]
      intro z hz
      simp only [List.mem_map, List.mem_filter, List.mem_range] at hz
      obtain ⟨x, ⟨hx, _⟩, rfl⟩ := hz
      simp; omega
    · intro a ha hfa b hb hfb
      rw [inL_filter ha] at hfa
      rw [inL_filter hb, wp_iff hB, up_iff] at hfb
      cases e : ab a b with
      | false => rfl
      | true =>
        have : wp ab n a s = true := by rw [wp_iff hB, up_iff]; exact .st e hfb
        rw [this] at hfa; cases hfa
    · rw [hcg]
      exact ⟨cnt_pos hs (wp_self ab n s), hc⟩
/-- Where nothing is told nothing can be lifted off. -/
theorem hang_free {n : Nat} {ab : Nat → Nat → Bool} (hB : Bnd n ab) (h : lift n ab = []) (zs : List Int) : freeV n ab zs = false := by
  cases e : freeV n ab zs with
  | false => rfl
  | true =>
    exfalso
    unfold freeV at e
    simp only [Bool.and_eq_true, decide_eq_true_eq] at e
    obtain ⟨_, hcl, h1, h2⟩ := e
    obtain ⟨s, hs, hfs⟩ := cnt_zero h1
    obtain ⟨a, ha, hfa⟩ := cnt_notfull h2
    have hall : ∀ s, s < n → cnt n (fun a => wp ab n a s) = n := by
      rcases lift_cases n ab with ⟨_, h0⟩ | ⟨s', hs', hc', hL⟩
      · exact h0
      · rw [hL] at h
        have : s' ∈ (List.range n).filter (fun a => wp ab n a s') := List.mem_filter.2 ⟨by simpa using hs', wp_self ab n s'⟩
        rw [h] at this; cases this
    have hr : Rch ab a s := by
      have := cnt_full.1 (hall s hs) a ha
      rwa [wp_iff hB, up_iff] at this
    have key : ∀ x y, Rch ab x y → inL zs y = true → inL zs x = true := by
      intro x y hxy
      induction hxy with
      | rf => exact id
      | st h1 _ ih =>
        intro hy
        have hb := ih hy
        cases e : inL zs _ with
        | true => rfl
        | false => exact absurd h1 (by rw [hcl _ (hB _ _ h1).1 e _ (hB _ _ h1).2 hb]; simp)
    rw [key a s hr hfs] at hfa
    cases hfa
end Go.Proofs.Ytikddfjickkhhaa.Cl
