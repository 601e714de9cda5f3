/- Lemmas and contracts of functions (what each call returns, and that it changes nothing that was there) that the proof of a law of this seat uses; each lemma states its own conditions. -/
import Derived.Test.YtnjheiiohfhckaaT6
import Derived.Test.YtnjheiiohfhckaaExt
namespace Go.Proofs.Ytnjheiiohfhckaa
open Go.RowKit
set_option linter.unusedVariables false
set_option linter.unusedSimpArgs false
theorem tmX_comm (x y a b : Int) : tmX x y a b = tmX a b x y := by simp only [tmX, Int.mul_comm]
theorem tmY_comm (g x y a b : Int) : tmY g x y a b = tmY g a b x y := by
  simp only [tmY]; rw [Int.mul_comm x b, Int.mul_comm y a, Int.mul_comm y b, Int.add_comm (b*x)]
theorem fltE_comm (g x y a b : Int) : fltE g [(x,y),(a,b)] = fltE g [(a,b),(x,y)] := by
  rw [fltE_two, fltE_two]; simp only [and_comm]
theorem TE_comm (g x y a b : Int) : TE g x y a b = TE g a b x y := by simp only [TE, fltE_comm g x y a b, tmX_comm x y a b, tmY_comm g x y a b]
theorem TX_comm (g x y a b : Int) : TX g x y a b = TX g a b x y := by simp only [TX, fltE_comm g x y a b, tmX_comm x y a b, tmY_comm g x y a b]
theorem TY_comm (g x y a b : Int) : TY g x y a b = TY g a b x y := by simp only [TY, fltE_comm g x y a b, tmX_comm x y a b, tmY_comm g x y a b]
def sm (x y : Int) : Prop := -1048576 ≤ x ∧ x ≤ 1048576 ∧ -1048576 ≤ y ∧ y ≤ 1048576
theorem TE_zero {g x y a b : Int} (h : TE g x y a b = 0) : (g = 4 ∨ g = 6) ∧ sm x y ∧ sm a b ∧ sm (tmX x y a b) (tmY g x y a b) ∧ TX g x y a b = tmX x y a b ∧ TY g x y a b = tmY g x y a b := by
  by_cases hf : fltE g [(x,y),(a,b)] = 0
  · obtain ⟨h1, h2, h3⟩ := fltE_two_ok hf
    simp only [TE, hf, if_true] at h
    have hs : smB (tmX x y a b) (tmY g x y a b) = true := by
      unfold tdE at h
      split at h
      · assumption
      · omega
    refine ⟨h1, h2, h3, ?_, by simp [TX, hf, tdX, hs], by simp [TY, hf, tdY, hs]⟩
    simpa [smB, sm] using hs
  · simp [TE, hf] at h
theorem fltE_two_zero {g x y a b : Int} (hg : g = 4 ∨ g = 6) (h1 : sm x y) (h2 : sm a b) : fltE g [(x,y),(a,b)] = 0 := by
  rw [fltE_two]; unfold sm at *; simp [hg, h1, h2]
theorem fltE_one_zero {g x y : Int} (hg : g = 4 ∨ g = 6) (h1 : sm x y) : fltE g [(x,y)] = 0 := by
  rw [fltE_one]; unfold sm at *; simp [hg, h1]
theorem norm_mul (g x y a b : Int) : tmX x y (miX g x y) (-y) * tmX a b (miX g a b) (-b) = tmX (tmX x y a b) (tmY g x y a b) (miX g (tmX x y a b) (tmY g x y a b)) (-(tmY g x y a b)) := by
  by_cases h : g = 6 <;> simp only [tmX, tmY, miX, h, if_true, if_false] <;> grind
theorem tm_assoc (g x y a b c d : Int) : tmX (tmX x y a b) (tmY g x y a b) c d = tmX x y (tmX a b c d) (tmY g a b c d) ∧ tmY g (tmX x y a b) (tmY g x y a b) c d = tmY g x y (tmX a b c d) (tmY g a b c d) := by
  by_cases h : g = 6 <;> simp only [tmX, tmY, h, if_true, if_false] <;> constructor <;> grind
theorem tm_dist (g x y a b c d : Int) : tmX (x + a) (y + b) c d = tmX x y c d + tmX a b c d ∧ tmY g (x + a) (y + b) c d = tmY g x y c d + tmY g a b c d := by
  by_cases h : g = 6 <;> simp only [tmX, tmY, h, if_true, if_false] <;> constructor <;> grind
end Go.Proofs.Ytnjheiiohfhckaa
