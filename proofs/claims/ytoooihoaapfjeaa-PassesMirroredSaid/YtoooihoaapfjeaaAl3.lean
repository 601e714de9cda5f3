/- Lemmas and contracts of functions (what each call returns, and that it changes nothing that was there) that the proof of a law of this seat uses; each lemma states its own conditions. -/
import Derived.Test.YtoooihoaapfjeaaAl2
import Derived.Test.YtoooihoaapfjeaaRegT
namespace Go.Proofs.Ytoooihoaapfjeaa
open Go.RowKit
set_option linter.unusedVariables false
set_option linter.unusedSimpArgs false
open Go.Shelf
attribute [local go_sem] Oper.semAt_some
theorem keepsOthers_of_below {W W' : World} (h : Below W.heap.size W W') : KeepsOthers W W' :=
  ⟨h.size, fun k o hk _ => by rw [h.block k (Array.getElem?_eq_some_iff.1 hk).1]; exact hk⟩
theorem Boxed.below {W W' : World} {B : Nat} {t : TypeId} {v : Value} (h : Boxed W B t v) (hb : Below W.heap.size W W') : Boxed W' B t v := (hb.block B h.lt).trans h
theorem own_kept {A B : World} {base e size k : Nat} {v : Value} {xs : List Value} {row : Option Nat} (h : A.ownsRow base e size v k xs) (hg : A.grownBy B row) (hr : ∀ r, row = some r → ∃ o : Obj, A.heap[r]? = some o ∧ o.isCells = false) : B.ownsRow base e size v k xs := by
  refine h.kept hg ?_
  rcases h.2 with ⟨rfl, _⟩ | ⟨g, cap, cur, rfl, _, hgb, _⟩
  · exact .inl rfl
  · refine .inr fun e' => ?_
    obtain ⟨o, ho, hc⟩ := hr g (by simpa [Value.ownBlock] using e'.symm)
    rw [hgb] at ho; cases ho; cases hc
theorem box_kept {A B : World} {b : Nat} {t : TypeId} {v : Value} {row : Option Nat} (h : Boxed A b t v) (hg : A.grownBy B row) (hr : ∀ r, row = some r → ∃ o : Obj, A.heap[r]? = some o ∧ o.isCells = false) : Boxed B b t v :=
  h.kept hg (fun e' => by obtain ⟨o, ho, hc⟩ := hr b e'.symm; rw [show A.heap[b]? = _ from h] at ho; cases ho; cases hc)
theorem rowIs_not_own {A : World} {b t n base e size k : Nat} {f : Nat → Value} {v : Value} {xs : List Value} (hr : A.rowIs b t n f) (h : A.ownsRow base e size v k xs) (hne : t ≠ e) : some b ≠ v.ownBlock := by
  rcases h.2 with ⟨rfl, _⟩ | ⟨g, cap, cur, rfl, _, hg, _⟩
  · simp [Value.ownBlock]
  · intro e'
    have e2 : b = g := by simpa [Value.ownBlock] using e'
    subst e2
    obtain ⟨cs, hb, _⟩ := hr
    rw [hb] at hg
    injection hg with hg
    injection hg with _ h5
    exact hne h5
theorem rowIs_grown {A B : World} {b t n : Nat} {f : Nat → Value} {row : Option Nat} (hr : A.rowIs b t n f) (hg : A.grownBy B row) (hne : some b ≠ row) : B.rowIs b t n f := hr.of_block (hg.block b hr.lt hne)
theorem own_nil_or {v : Value} : v = .slice none 0 0 → v.ownBlock = none := fun e => by subst e; rfl
section
variable {w : World} {kb ob tb W H n : Nat} {a : Option Addr} {c : Nat} {vk vo : Value} {ks : List (Fin H)} {os : List Nat} {st : List (Fin H) × List Nat} {A B : World}
end
theorem IsInts.of_natsB {w : World} {base : Nat} {v : Value} {L : List Nat} (h : w.ownsRow base 3 1 v L.length (natV L)) : ∃ a c, v = .slice a L.length c ∧ IsInts w a L.length (natI L) ∧ ∀ b o, a = some ⟨b, o, none⟩ → base ≤ b := by
  obtain ⟨a, c, rfl, hi⟩ := IsInts.of_nats h
  refine ⟨a, c, rfl, hi, fun b o hb' => ?_⟩
  rcases h.2 with ⟨e, e0⟩ | ⟨g, cap, cur, e, hb, _⟩
  · injection e with e1 e2 e3
    rw [e1] at hb'; cases hb'
  · injection e with e1 e2 e3
    rw [e1] at hb'; cases hb'; exact hb
/-- As IntsPost; the numbers lie in a block of the call's own. -/
def IntsPostG (L : List Nat) (w : World) (r : Ending) (w' : World) : Prop :=
  ∃ A c, r = .returned (.tuple #[.slice A L.length c, .int .i64 (0)]) ∧ IsInts w' A L.length (natI L) ∧ Below w.heap.size w w' ∧ ∀ b o, A = some ⟨b, o, none⟩ → w.heap.size ≤ b
end Go.Proofs.Ytoooihoaapfjeaa
