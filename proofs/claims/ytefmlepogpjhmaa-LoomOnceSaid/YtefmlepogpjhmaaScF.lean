/- A scope through which the run goes with one jump forward. -/
import Derived.Test.YtefmlepogpjhmaaExt
import Derived.Scope
import Derived.WalkMore
namespace Go.Proofs.Ytefmlepogpjhmaa
open Go.RowKit
set_option linter.unusedVariables false
set_option linter.unusedSimpArgs false
/-- As Q; by a goto: what stands behind the label is walked, with no goto more. -/
def fwdX (P : Program) (c : Code) (Q : Exit → Act → World → Prop) : Exit → Act → World → Prop
  | .goto l, a, w => ∃ rest, findLabel c l = some rest ∧ rest.wp P (Exit.noGoto Q) a w
  | e, a, w => Q e a w
@[go_sem] theorem fwdX_normal (P : Program) (c : Code) (Q : Exit → Act → World → Prop) (a : Act) (w : World) : fwdX P c Q .normal a w = Q .normal a w := rfl
@[go_sem] theorem fwdX_exit (P : Program) (c : Code) (Q : Exit → Act → World → Prop) (id : Nat) (a : Act) (w : World) : fwdX P c Q (.exit id) a w = Q (.exit id) a w := rfl
@[go_sem] theorem fwdX_ret (P : Program) (c : Code) (Q : Exit → Act → World → Prop) (a : Act) (w : World) : fwdX P c Q .ret a w = Q .ret a w := rfl
theorem fwdX_panic (P : Program) (c : Code) (Q : Exit → Act → World → Prop) (ch : List PanicEntry) (a : Act) (w : World) : fwdX P c Q (.panic ch) a w = Q (.panic ch) a w := rfl
theorem wp_scope_fwd {P : Program} {a : Act} {w : World} {Q : Exit → Act → World → Prop} {c : Code} (first : c.wp P (fwdX P c Q) a w) : (Code.scope c).wp P Q a w := by
  intro b k cs
  have hg : ∀ l rest, findLabel c l = some rest → gotoIn l (.inScope c :: k) = some (.code rest :: .inScope c :: k) := fun l rest hf => by simp [gotoIn, hf]
  obtain ⟨e, a₁, w₁, hq, harr⟩ := first b (.inScope c :: k) cs
  cases e with
  | normal => exact ⟨.normal, a₁, w₁, hq, .head step_scope (Steps.trans harr (.one step_inScope))⟩
  | exit id => exact ⟨.exit id, a₁, w₁, hq, fun k' hk => .head step_scope (harr k' (by simp [exitTo, hk]))⟩
  | goto l =>
    obtain ⟨rest, hf, hw⟩ := hq
    obtain ⟨e₂, a₂, w₂, hq₂, harr₂⟩ := hw b (.inScope c :: k) cs
    have hst := harr _ (hg l rest hf)
    cases e₂ with
    | normal => exact ⟨.normal, a₂, w₂, hq₂, .head step_scope (Steps.trans hst (Steps.trans harr₂ (.one step_inScope)))⟩
    | exit id => exact ⟨.exit id, a₂, w₂, hq₂, fun k' hk => .head step_scope (Steps.trans hst (harr₂ k' (by simp [exitTo, hk])))⟩
    | goto l' => exact absurd hq₂ id
    | ret => exact ⟨_, a₂, w₂, hq₂, .of_steps (.head step_scope hst) harr₂⟩
    | panic ch => exact ⟨_, a₂, w₂, hq₂, .of_steps (.head step_scope hst) harr₂⟩
    | outgrown => exact ⟨_, a₂, w₂, hq₂, .of_steps (.head step_scope hst) harr₂⟩
  | ret => exact ⟨_, a₁, w₁, hq, .of_steps (.one step_scope) harr⟩
  | panic ch => exact ⟨_, a₁, w₁, hq, .of_steps (.one step_scope) harr⟩
  | outgrown => exact ⟨_, a₁, w₁, hq, .of_steps (.one step_scope) harr⟩
end Go.Proofs.Ytefmlepogpjhmaa
