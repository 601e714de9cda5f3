/- Lemmas and contracts of functions (what each call returns, and that it changes nothing that was there) that the proof of a law of this seat uses; each lemma states its own conditions. -/
import Derived.Test.YtoooihoaapfjeaaTpM
import Derived.Test.YtoooihoaapfjeaaAl3
namespace Go.Proofs.Ytoooihoaapfjeaa
open Go.RowKit
set_option linter.unusedVariables false
set_option linter.unusedSimpArgs false
theorem prE_zero {W1 H1 : Int} {n1 : Nat} {W2 H2 : Int} {n2 : Nat} (h : prE W1 H1 n1 W2 H2 n2 = 0) : wrT W1 H1 n1 = 0 ∧ wrT W2 H2 n2 = 0 ∧ W1 = H2 := by
  unfold prE at h
  split at h
  · rename_i h1; exact absurd h h1
  · split at h
    · rename_i h2; exact absurd h h2
    · split at h
      · omega
      · rename_i h1 h2 h3
        exact ⟨by simpa using h1, by simpa using h2, by simpa using h3⟩
theorem wrT_zero' {W H : Int} {n : Nat} (h : wrT W H n = 0) : ∃ W' H' : Nat, W = W' ∧ H = H' ∧ W' ≤ 64 ∧ H' ≤ 64 ∧ n = W' * H' := wrT_zero h
theorem mul64n {W H : Nat} (hW : W ≤ 64) (hH : H ≤ 64) : W * H ≤ 4096 := Nat.le_trans (Nat.mul_le_mul hW hH) (by omega)
end Go.Proofs.Ytoooihoaapfjeaa
