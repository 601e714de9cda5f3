/- Chapter 10: a loom is told anything; the row that is lifted. -/
import Derived.Test.YtefmlepogpjhmaaLm4
import Derived.Test.YtefmlepogpjhmaaRf2
namespace Go.Proofs.Ytefmlepogpjhmaa
open Go.RowKit
set_option linter.unusedVariables false
set_option linter.unusedSimpArgs false
open Lm
theorem Do_any (a b g cp W H : Nat) (bv : Value) (ev : Int) (l : St) (D : Dk) (w : World) (hm : LMr a b W H bv l w) (h : DK b g cp D w) (h2 : 2 ≤ D.ws.length) (hl : D.ws.length ≤ 9223372036854775807) (hw : l.wv ≤ 64) :
    Calls Try.prog 13 #[.pointer (some ⟨a, 0, none⟩), .int .i64 (ev)] w (DoPost a b g cp W H bv (tell H ev l D) w) := by
  by_cases hev : ev < 1 ∨ 9 < ev
  · exact Do_out a b g cp W H bv ev l D w hm h hev
  · by_cases hd : l.dead = true
    · exact Do_dead a b g cp W H bv ev l D w hm h (by omega) hd
    · obtain ⟨wv, at_, stop, dead⟩ := l
      have hd' : dead = false := by simpa using hd
      subst hd'
      simp only at hw
      have hc : ev = 1 ∨ ev = 2 ∨ ev = 3 ∨ ev = 4 ∨ ev = 5 ∨ ev = 6 ∨ ev = 7 ∨ ev = 8 ∨ ev = 9 := by omega
      rcases hc with rfl | rfl | rfl | rfl | rfl | rfl | rfl | rfl | rfl
      · exact Do_plain a b g cp W H bv 1 _ D w hm h rfl (by omega)
      · exact Do_plain a b g cp W H bv 2 _ D w hm h rfl (by omega)
      · exact Do_3 a b g cp W H bv wv at_ stop D w hm h h2 hl hw
      · exact Do_plain a b g cp W H bv 4 _ D w hm h rfl (by omega)
      · exact Do_plain a b g cp W H bv 5 _ D w hm h rfl (by omega)
      · exact Do_6 a b g cp W H bv wv at_ stop D w hm h h2 hl hw
      · exact Do_7 a b g cp W H bv wv at_ stop D w hm h
      · exact Do_8 a b g cp W H bv wv at_ stop D w hm h h2 hl hw
      · exact Do_9 a b g cp W H bv wv at_ stop D w hm h h2 hl hw
end Go.Proofs.Ytefmlepogpjhmaa
