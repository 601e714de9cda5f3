/- Lemmas and contracts of functions (what each call returns, and that it changes nothing that was there) that the proof of a law of this seat uses; each lemma states its own conditions. -/
import Derived.Test.YtoooihoaapfjeaaReg
namespace Go.Proofs.Ytoooihoaapfjeaa
open Go.RowKit
set_option linter.unusedVariables false
set_option linter.unusedSimpArgs false
theorem ExtOf.rf (B : World) : ExtOf B B := ⟨#[], B.drawn, extW_zero B⟩
theorem ExtOf.al {B w : World} (h : ExtOf B w) (o : Obj) : ExtOf B (w.alloc o) := by
  obtain ⟨E, d, rfl⟩ := h
  exact ⟨E.push o, d, alloc_extW B E d o⟩
theorem ExtOf.ex {B w : World} (h : ExtOf B w) (F : Array Obj) (e : Nat) : ExtOf B (extW w F e) := by
  obtain ⟨E, d, rfl⟩ := h
  exact ⟨E ++ F, e, extW_extW B E F d e⟩
end Go.Proofs.Ytoooihoaapfjeaa
