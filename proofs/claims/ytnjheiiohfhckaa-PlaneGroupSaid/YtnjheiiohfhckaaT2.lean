/- Lemmas and contracts of functions (what each call returns, and that it changes nothing that was there) that the proof of a law of this seat uses; each lemma states its own conditions. -/
import Derived.Test.YtnjheiiohfhckaaT1
import Derived.Test.YtnjheiiohfhckaaExt
namespace Go.Proofs.Ytnjheiiohfhckaa
open Go.RowKit
set_option linter.unusedVariables false
set_option linter.unusedSimpArgs false
def knB (g : Int) : Bool := decide (g = 4 ∨ g = 6)
set_option maxHeartbeats 400000 in
theorem known_any (g : Int) (w : World) :
    Calls Try.prog 50 #[.int .i64 g] w fun e w' => e = .returned (.bool (knB g)) ∧ w = w' := by
  rcases Decidable.em (g = 4) with h | h
  · subst h
    go_enter Try.func50, Try.ntmps50
    go_wp2
    go_ret
    exact ⟨rfl, rfl⟩
  · rcases Decidable.em (g = 6) with h6 | h6
    · subst h6
      go_enter Try.func50, Try.ntmps50
      go_wp2
      go_ret
      exact ⟨rfl, rfl⟩
    · have e1 : (g == 4) = false := by simpa using h
      have e2 : (g == 6) = false := by simpa using h6
      have HE := Lib.hid (show knB g = false by simp [knB]; omega)
      go_enter Try.func50, Try.ntmps50
      go_wp2
      go_ret
      exact ⟨by rw [HE.out]; rfl, rfl⟩

def fltE (g : Int) (l : List (Int × Int)) : Int := if knB g = false then 1 else if smL l = false then 3 else 0
set_option maxHeartbeats 400000 in
theorem fault_any (g : Int) (b n cap : Nat) (l : List (Int × Int)) (w : World) (hn : l.length = n) (hb : b < w.heap.size) (hc : ∀ i, i < n → w.cell? ⟨b, i * 2, none⟩ = some (.int .i64 ((l.getD i (0,0)).1)) ∧ w.cell? ⟨b, i * 2 + 1, none⟩ = some (.int .i64 ((l.getD i (0,0)).2)))
   (hwf : ∀ i, i < n → (-9223372036854775808 ≤ (l.getD i (0,0)).1 ∧ (l.getD i (0,0)).1 ≤ 9223372036854775807) ∧ (-9223372036854775808 ≤ (l.getD i (0,0)).2 ∧ (l.getD i (0,0)).2 ≤ 9223372036854775807))
   (hz : n < 1000) :
    Calls Try.prog 31 #[.int .i64 (g), .slice (some ⟨b, 0, none⟩) n cap] w fun e w' =>
      e = .returned (.int .i64 (fltE g l)) ∧ Below w.heap.size w w' := by
  have hs := small_any b n cap l w hn hb hc hwf hz
  have HS := Lib.hid hs
  clear hs hc hwf hn
  rcases hk : knB g with _ | _
  · have HK := Lib.hid hk
    clear hk
    go_enter Try.func31, Try.ntmps31
    go_wp2_with (go_at_call 50; refine (known_any _ _).mono ?_; rintro e w' ⟨rfl, rfl⟩; rw [HK.out])
    go_ret
    exact ⟨by simp [fltE, HK.out], Below.refl _ _⟩
  · have HK := Lib.hid hk
    clear hk
    rcases hl : smL l with _ | _
    all_goals
      have HL := Lib.hid hl
      clear hl
      go_enter Try.func31, Try.ntmps31
      go_wp2_with (first | (go_at_call 50; refine (known_any _ _).mono ?_; rintro e w' ⟨rfl, rfl⟩; rw [HK.out]) | (go_at_call 48; refine HS.out.mono ?_; rintro e w' ⟨rfl, hb1⟩; rw [HL.out]))
      go_ret
      exact ⟨by simp [fltE, HK.out, HL.out], by assumption⟩
end Go.Proofs.Ytnjheiiohfhckaa
