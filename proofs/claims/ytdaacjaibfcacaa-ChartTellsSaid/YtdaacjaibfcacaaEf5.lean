/- Lemmas and contracts of functions (what each call returns, and that it changes nothing that was there) that the proof of a law of this seat uses; each lemma states its own conditions. -/
import Derived.Test.YtdaacjaibfcacaaEf4
namespace Go.Proofs.Ytdaacjaibfcacaa
open Go.RowKit
set_option linter.unusedVariables false
set_option linter.unusedSimpArgs false
/-- What is wrong with threads. -/
def stE (en pn : Nat) (es ps : List Int) : Int := if en = 0 ∨ 64 < en ∨ pn = 0 ∨ 64 < pn then 5 else if ∃ x ∈ es ++ ps, x < 0 ∨ 62 ≤ x then 3 else 0
theorem stE_zero {en pn : Nat} {es ps : List Int} (h : stE en pn es ps = 0) : 1 ≤ en ∧ en ≤ 64 ∧ 1 ≤ pn ∧ pn ≤ 64 ∧ ∀ x ∈ es ++ ps, 0 ≤ x ∧ x < 62 := by
  unfold stE at h
  split at h
  · omega
  · split at h
    · omega
    · rename_i h1 h2
      refine ⟨by omega, by omega, by omega, by omega, fun x hx => ?_⟩
      by_cases e : x < 0 ∨ 62 ≤ x
      · exact absurd ⟨x, hx, e⟩ h2
      · omega
theorem stE_ok {en pn : Nat} {es ps : List Int} (h1 : 1 ≤ en) (h2 : en ≤ 64) (h3 : 1 ≤ pn) (h4 : pn ≤ 64) (h : ∀ x ∈ es ++ ps, 0 ≤ x ∧ x < 62) : stE en pn es ps = 0 := by
  unfold stE
  rw [if_neg (by omega), if_neg (by rintro ⟨x, hx, e⟩; have := h x hx; omega)]
theorem ints_of_any {w : World} {base n c : Nat} {A : Option Addr} {l : List Int} (hl : l.length = n) (h : w.ownsRow base 3 1 (.slice A n c) n (l.map i64v)) : IsInts w A n l := by
  subst hl
  obtain ⟨a, c', e, h1, _⟩ := ints_owns h
  injection e with e1 _ _
  subst e1
  exact h1
end Go.Proofs.Ytdaacjaibfcacaa
