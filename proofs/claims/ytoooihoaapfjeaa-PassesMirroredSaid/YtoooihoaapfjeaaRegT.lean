/- Regions that draw their order, where loads lie beside an append and a store: a load may be taken first while all that can come ahead of it keeps what it reads; those that wait for it (stop) may do anything. -/
import Derived.Test.YtoooihoaapfjeaaRin
import Derived.OrdersHeld
namespace Go.Proofs.Ytoooihoaapfjeaa
open Go.RowKit
set_option linter.unusedVariables false
set_option linter.unusedSimpArgs false
section
variable {P : Program} {ops : Array Oper} {Q : Exit → Act → World → Prop} {md : Region.Mode} {S : World → Prop} {stop : Nat → Bool}
def anyT (P : Program) (md : Region.Mode) (ops : Array Oper) (Q : Exit → Act → World → Prop) (S : World → Prop) (stop : Nat → Bool) : Nat → Array Bool → Act → World → Prop
  | 0, listed, a, w => Region.ready md ops listed = [] ∧ Q .normal a w
  | f + 1, listed, a, w => (Region.ready md ops listed = [] → Q .normal a w) ∧
      ∀ i ∈ Region.ready md ops listed, wpOp P ops Q i (fun a' w' => (stop i = false → S w') ∧ anyT P md ops Q S stop f (listed.setIfInBounds i true) a' w') a w
theorem anyT_any (f : Nat) : ∀ (listed : Array Bool) (a : Act) (w : World), anyT P md ops Q S stop f listed a w → wpAny P md ops Q f listed a w := by
  induction f with
  | zero => intro listed a w h; exact h
  | succ f ih => intro listed a w h; exact ⟨h.1, fun i hi => wpOp_mono (fun a' w' h' => ih _ a' w' h'.2) (h.2 i hi)⟩
theorem anyT_first {i : Nat} {oi : Oper} {v : Value} (hi : ops[i]? = some oi) (hsel : ∀ (j : Nat) (o : Oper) cs b, ops[j]? = some o → o.op ≠ .select cs b)
    (hst : ∀ j oj, ops[j]? = some oj → stop j = true → ∃ e ∈ oj.after, Region.binds md e = true ∧ e.on = i) (hQ : ∀ c a w, ¬ Q (.panic c) a w) (f : Nat) :
    ∀ (listed : Array Bool) (a : Act) (w : World),
      (∀ j oj, ops[j]? = some oj → j ≠ i → listed.getD j true = false → (∀ e ∈ oj.after, Region.binds md e = true → e.on ≠ i) → oi.apart ops oj = true) →
      i ∈ Region.ready md ops listed → YieldsIf P ops S oi v a → S w → stop i = false →
      anyT P md ops Q S stop f (listed.setIfInBounds i true) (a.put oi.dst v) w → anyT P md ops Q S stop (f + 1) listed a w := by
  induction f with
  | zero =>
    intro listed a w _ hr hy hS hs H
    refine ⟨fun h => (by rw [h] at hr; cases hr), fun j hj => ?_⟩
    rcases Nat.decEq j i with hji | hji
    · exact absurd (ready_mono hj hji) (by rw [H.1]; simp)
    · subst hji; exact hy.wpOp hi hS ⟨fun _ => hS, H⟩
  | succ f ih =>
    intro listed a w hfree hr hy hS hs H
    refine ⟨fun h => (by rw [h] at hr; cases hr), fun j hj => ?_⟩
    rcases Nat.decEq j i with hji | hji
    · obtain ⟨hjun, oj, hoj, hall⟩ := mem_ready.1 hj
      have hnot : ∀ e ∈ oj.after, Region.binds md e = true → e.on ≠ i := by
        intro e he hb heq
        have h1 := hall e he hb
        rw [heq, getD_both (mem_ready.1 hr).1] at h1
        cases h1
      have hsj : stop j = false := by
        cases h : stop j with
        | false => rfl
        | true =>
          obtain ⟨e, he, hb, heq⟩ := hst j oj hoj h
          exact absurd heq (hnot e he hb)
      have hap := hfree j oj hoj hji hjun hnot
      have h2 := wpOp_putIf (S := S) hoj hap (fun cs b => hsel i oi cs b hi) (fun cs b => hsel j oj cs b hoj) (fun c a w h => absurd h (hQ c _ _)) hy (H.2 j (ready_mono hj hji))
      refine wpOp_mono (fun a' w' h3 => ?_) h2
      have hSw := h3.2.1 hsj
      refine ⟨fun _ => hSw, ih _ a' w' (fun k ok hk hki hun hno => ?_) (ready_mono hr (Ne.symm hji)) h3.1 hSw hs ?_⟩
      · refine hfree k ok hk hki ?_ hno
        by_cases hjk : j = k
        · subst hjk; exact hjun
        · rwa [getD_set_ne true hjk] at hun
      · rw [Array.setIfInBounds_comm _ _ hji]; exact h3.2.2
    · subst hji; exact hy.wpOp hi hS ⟨fun _ => hS, H⟩
/-- All that stop wait for i. -/
def stopB (md : Region.Mode) (ops : Array Oper) (stop : Nat → Bool) (i : Nat) : Bool :=
  !stop i && (List.range ops.size).all fun j => !stop j || (match ops[j]? with | some o => o.after.any (fun e => Region.binds md e && e.on == i) | none => true)
theorem anyT_take {i : Nat} {oi : Oper} (v : Value) {f : Nat} {listed : Array Bool} {a : Act} {w : World} (hi : ops[i]? = some oi)
    (hb : (Region.noSelect ops && Region.free md ops listed i && (Region.ready md ops listed).contains i && stopB md ops stop i) = true)
    (hQ : ∀ c a w, ¬ Q (.panic c) a w) (hy : YieldsIf P ops S oi v a) (hS : S w)
    (h : anyT P md ops Q S stop f (listed.setIfInBounds i true) (a.put oi.dst v) w) : anyT P md ops Q S stop (f + 1) listed a w := by
  simp only [Bool.and_eq_true] at hb
  obtain ⟨⟨⟨h1, h2⟩, h3⟩, h4⟩ := hb
  unfold stopB at h4
  simp only [Bool.and_eq_true, Bool.not_eq_true'] at h4
  refine anyT_first hi (Region.noSelect_spec h1) (fun j oj hoj hs => ?_) hQ f listed a w (Region.free_spec hi h2) (by simpa using h3) hy hS h4.1 h
  have hlt : j < ops.size := (Array.getElem?_eq_some_iff.1 hoj).1
  have h5 := List.all_eq_true.1 h4.2 j (List.mem_range.2 hlt)
  rw [hoj, hs] at h5
  simp only [Bool.not_true, Bool.false_or] at h5
  rw [Array.any_eq_true'] at h5
  obtain ⟨e, he, h6⟩ := h5
  simp only [Bool.and_eq_true, beq_iff_eq] at h6
  exact ⟨e, he, h6.1, h6.2⟩
theorem anyT_one {i : Nat} {oi : Oper} {f : Nat} {listed : Array Bool} {a : Act} {w : World} (hr : Region.ready md ops listed = [i]) (hi : ops[i]? = some oi) (hg : oi.guard = none)
    (h : oi.wp P a w (fun a' w' => (stop i = false → S w') ∧ anyT P md ops Q S stop f (listed.setIfInBounds i true) a' w') Q) : anyT P md ops Q S stop (f + 1) listed a w := by
  refine ⟨fun h0 => absurd (hr.symm.trans h0) (by simp), fun j hj => ?_⟩
  rw [hr] at hj
  have : j = i := by simpa using hj
  subst this
  unfold wpOp
  simp only [hi, Region.wanted, hg, if_true]
  exact .inl h
theorem anyT_done {f : Nat} {listed : Array Bool} {a : Act} {w : World} (hr : Region.ready md ops listed = []) (h : Q .normal a w) : anyT P md ops Q S stop f listed a w := by
  cases f with
  | zero => exact ⟨hr, h⟩
  | succ f => exact ⟨fun _ => h, by rw [hr]; simp⟩
end
end Go.Proofs.Ytoooihoaapfjeaa
