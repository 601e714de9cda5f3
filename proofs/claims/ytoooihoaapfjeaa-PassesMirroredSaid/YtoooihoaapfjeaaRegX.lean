/- Regions that draw their order, walked operation by operation over the worlds that have grown since the last step: an operation whose value is the same in all these worlds is taken first; another one (whose answer is known by a law alone, or hangs on where a block lies) comes up by itself, and behind it the worlds are those that have grown since then. -/
import Derived.Test.YtoooihoaapfjeaaReg
import Derived.Deep.RegionHeld3
namespace Go.Proofs.Ytoooihoaapfjeaa
open Go.RowKit
set_option linter.unusedVariables false
set_option linter.unusedSimpArgs false
section
variable {P : Program} {ops : Array Oper} {md : Region.Mode} {Q : Exit → Act → World → Prop}
/-- One operation oj, apart from oi: it goes likewise whether oi's value is there already, and nothing that is said of oi changes. -/
theorem wpOp_putY {Y : Act → Prop} {j : Nat} {oi oj : Oper} {v : Value} (hYs : ∀ a a' : Act, execOp a'.eval oi = execOp a.eval oi → Region.wanted oi (yielded ops a'.tmps) = Region.wanted oi (yielded ops a.tmps) → Y a → Y a')
    (hj : ops[j]? = some oj) (hap : oi.apart ops oj = true) (hsi : ∀ cs b, oi.op ≠ .select cs b) (hsj : ∀ cs b, oj.op ≠ .select cs b)
    (hQ : ∀ c a w, Q (.panic c) (a.put oi.dst v) w → Q (.panic c) a w) {K : Act → World → Prop} {a : Act} {w : World}
    (hy : Y a) (h : wpOp P ops Q j K (a.put oi.dst v) w) : wpOp P ops Q j (fun a' w' => Y a' ∧ K (a'.put oi.dst v) w') a w := by
  obtain ⟨p1, p2, p3⟩ := Oper.apart_spec hap
  have kp : ∀ (b : Act), Y b → ∀ u, Y (b.put oj.dst u) := fun b hb u => hYs b _ (execOp_put oi hsi b oj.dst u p3) (wanted_put oi b oj.dst u p3) hb
  unfold wpOp at *
  simp only [hj] at *
  rw [wanted_put oj a oi.dst v p1] at h
  by_cases hw : Region.wanted oj (yielded ops a.tmps) = true
  · rw [if_pos hw] at h ⊢
    have he := execOp_put oj hsj a oi.dst v p1
    rcases h with h | ⟨h1, h2⟩
    · left
      unfold Oper.wp at *
      rw [he] at h
      cases hr : (execOp a.eval oj).run P w with
      | ok n w' =>
        rw [hr] at h
        cases n with
        | value u => exact ⟨kp a hy u, by rw [← Act.put_comm a v u p2]; exact h⟩
        | skip => exact ⟨kp a hy _, by rw [← Act.put_comm a v undef p2]; exact h⟩
        | defer d =>
          refine ⟨kp { a with defers := d :: a.defers } (hYs a _ rfl rfl hy) _, ?_⟩
          rw [← Act.put_comm _ v undef p2, ← Act.put_defers]
          exact h
        | enter f args =>
          refine Calls.mono h fun e w'' hh => ?_
          cases e with
          | returned u => exact ⟨kp a hy u, by rw [← Act.put_comm a v u p2]; exact hh⟩
          | panicked c => exact hQ _ _ _ hh
          | outgrown => exact hh
        | row r args => exact Rows.mono h fun u w'' hh => ⟨kp a hy u, by rw [← Act.put_comm a v u p2]; exact hh⟩
        | _ => exact h
      | halt x w' =>
        rw [hr] at h
        cases x with
        | panic u => exact hQ _ _ _ h
        | _ => exact h
    · right
      exact ⟨by unfold Oper.asks at *; rw [he] at h1; exact h1, h2⟩
  · rw [if_neg hw] at h ⊢
    exact ⟨kp a hy _, by rw [← Act.put_comm a v undef p2]; exact h⟩
theorem ExtOf.trans' {W : World} {E : Array Obj} {d : Nat} {w : World} (h : ExtOf (extW W E d) w) : ExtOf W w := by
  obtain ⟨F, e, rfl⟩ := h
  exact ⟨E ++ F, e, extW_extW W E F d e⟩
/-- Whatever order is picked from here on, in every world that has grown since W. -/
def wpE (P : Program) (md : Region.Mode) (ops : Array Oper) (Q : Exit → Act → World → Prop) : Nat → Array Bool → Act → World → Prop
  | 0, listed, a, W => Region.ready md ops listed = [] ∧ ∀ E d, Q .normal a (extW W E d)
  | f + 1, listed, a, W => (Region.ready md ops listed = [] → ∀ E d, Q .normal a (extW W E d)) ∧
      ∀ i ∈ Region.ready md ops listed, ∀ E d, wpOp P ops Q i (fun a' w' => ExtOf (extW W E d) w' ∧ wpE P md ops Q f (listed.setIfInBounds i true) a' w') a (extW W E d)
theorem wpE_grow : ∀ (f : Nat) (listed : Array Bool) (a : Act) (W : World) (E : Array Obj) (d : Nat), wpE P md ops Q f listed a W → wpE P md ops Q f listed a (extW W E d)
  | 0, listed, a, W, E, d, h => ⟨h.1, fun F e => by rw [extW_extW]; exact h.2 _ _⟩
  | f + 1, listed, a, W, E, d, h => ⟨fun hr F e => by rw [extW_extW]; exact h.1 hr _ _, fun i hi F e => by
      rw [extW_extW]
      exact h.2 i hi (E ++ F) e⟩
theorem wpE_ext {f : Nat} {listed : Array Bool} {a : Act} {W w : World} (h : wpE P md ops Q f listed a W) (hw : ExtOf W w) : wpE P md ops Q f listed a w := by
  obtain ⟨E, d, rfl⟩ := hw
  exact wpE_grow f listed a W E d h
theorem wpAny_of_E : ∀ (f : Nat) (listed : Array Bool) (a : Act) (W : World), wpE P md ops Q f listed a W → wpAny P md ops Q f listed a W
  | 0, listed, a, W, h => ⟨h.1, by have := h.2 #[] W.drawn; rwa [extW_self] at this⟩
  | f + 1, listed, a, W, h => ⟨fun hr => by have := h.1 hr #[] W.drawn; rwa [extW_self] at this, fun i hi => by
      have := h.2 i hi #[] W.drawn
      rw [extW_self] at this
      exact wpOp_mono (fun a' w' h' => wpAny_of_E f _ a' w' h'.2) this⟩
/-- Operation o yields v in every world that has grown since W, and adds blocks at most. -/
def YieldsE (P : Program) (ops : Array Oper) (o : Oper) (v : Value) (a : Act) (W : World) : Prop := ∀ E d, YieldsIn P ops (fun w => ∃ F e, w = extW (extW W E d) F e) o v a
theorem YieldsE.grow {o : Oper} {v : Value} {a : Act} {W w : World} (h : YieldsE P ops o v a W) (hw : ExtOf W w) : YieldsE P ops o v a w := by
  obtain ⟨E, d, rfl⟩ := hw
  intro F e
  rw [extW_extW]
  exact h _ _
theorem YieldsE.wpOp {i : Nat} {o : Oper} {v : Value} {a : Act} {W : World} {K : Act → World → Prop} (hi : ops[i]? = some o) (h : YieldsE P ops o v a W) (E : Array Obj) (d : Nat)
    (hK : ∀ w', ExtOf (extW W E d) w' → K (a.put o.dst v) w') : wpOp P ops Q i K a (extW W E d) :=
  wpOp_of_qOp (K := fun a' => a' = a.put o.dst v) (C := fun w => ∃ F e, w = extW (extW W E d) F e) (extOf_refl _) (fun a' w' hw' h' => by
    subst h'
    exact hK w' hw') ((h E d).qOp hi rfl)
theorem wpE_first {i : Nat} {oi : Oper} {v : Value} (hi : ops[i]? = some oi) (hsel : ∀ (j : Nat) (o : Oper) cs b, ops[j]? = some o → o.op ≠ .select cs b)
    (hQ : ∀ c a w, Q (.panic c) (a.put oi.dst v) w → Q (.panic c) a w) (f : Nat) :
    ∀ (listed : Array Bool) (a : Act) (W : World),
      (∀ j oj, ops[j]? = some oj → j ≠ i → listed.getD j true = false → (∀ e ∈ oj.after, Region.binds md e = true → e.on ≠ i) → oi.apart ops oj = true) →
      i ∈ Region.ready md ops listed → YieldsE P ops oi v a W →
      wpE P md ops Q f (listed.setIfInBounds i true) (a.put oi.dst v) W → wpE P md ops Q (f + 1) listed a W := by
  induction f with
  | zero =>
    intro listed a W _ hr hy H
    refine ⟨fun h => (by rw [h] at hr; cases hr), fun j hj E d => ?_⟩
    by_cases hji : j = i
    · subst hji; exact hy.wpOp hi E d fun w' hw' => ⟨hw', wpE_ext H hw'.trans'⟩
    · have := ready_mono hj hji
      rw [H.1] at this
      cases this
  | succ f ih =>
    intro listed a W hfree hr hy H
    refine ⟨fun h => (by rw [h] at hr; cases hr), fun j hj E d => ?_⟩
    by_cases hji : j = i
    · subst hji; exact hy.wpOp hi E d fun w' hw' => ⟨hw', wpE_ext H hw'.trans'⟩
    · have h1 := H.2 j (ready_mono hj hji) E d
      obtain ⟨hjun, oj, hoj, hall⟩ := mem_ready.1 hj
      have hnot : ∀ e ∈ oj.after, Region.binds md e = true → e.on ≠ i := by
        intro e he hb heq
        have h1 := hall e he hb
        rw [heq, getD_both (mem_ready.1 hr).1] at h1
        cases h1
      have h2 := wpOp_putY (Y := fun a' => YieldsE P ops oi v a' W) (fun a a' e1 e2 hY E d => (hY E d).of_same e1 e2) hoj (hfree j oj hoj hji hjun hnot) (fun cs b => hsel i oi cs b hi) (fun cs b => hsel j oj cs b hoj) hQ hy h1
      have hfree' : ∀ k ok, ops[k]? = some ok → k ≠ i → (listed.setIfInBounds j true).getD k true = false → (∀ e ∈ ok.after, Region.binds md e = true → e.on ≠ i) → oi.apart ops ok = true := by
        intro k ok hk hki hun hno
        refine hfree k ok hk hki ?_ hno
        by_cases hjk : j = k
        · subst hjk; exact hjun
        · rwa [getD_set_ne true hjk] at hun
      refine wpOp_mono (fun a' w' h3 => ⟨h3.2.1, ih (listed.setIfInBounds j true) a' w' hfree' (ready_mono hr (Ne.symm hji)) (h3.1.grow h3.2.1.trans') ?_⟩) h2
      rw [Array.setIfInBounds_comm _ _ hji]
      exact h3.2.2
/-- Number i is taken first. -/
theorem wpE_take {i : Nat} {o : Oper} {f : Nat} {listed : Array Bool} {a : Act} {W : World} (hi : ops[i]? = some o)
    (hf : (Region.noSelect ops && Region.free md ops listed i && (Region.ready md ops listed).contains i) = true)
    (hQ : ∀ v c a w, Q (.panic c) (a.put o.dst v) w → Q (.panic c) a w)
    (h : ∀ K : Act → Prop, (∀ a, wpE P md ops Q f (listed.setIfInBounds i true) a W → K a) →
      if Region.wanted o (yielded ops a.tmps) then ∃ v, (∀ E d, Oper.quietAt P o a (fun w' => ∃ F e, w' = extW (extW W E d) F e) (extW W E d) v) ∧ K (a.put o.dst v) else K (a.put o.dst undef)) : wpE P md ops Q (f + 1) listed a W := by
  simp only [Bool.and_eq_true] at hf
  obtain ⟨⟨h1, h2⟩, h3⟩ := hf
  have h4 := h _ fun _ h => h
  by_cases hw : Region.wanted o (yielded ops a.tmps) = true
  · rw [if_pos hw] at h4
    obtain ⟨v, hv, h5⟩ := h4
    refine wpE_first hi (Region.noSelect_spec h1) (hQ v) f listed a W (Region.free_spec hi h2) (by simpa using h3) (fun E d => .inl ⟨hw, fun w hwC => ?_⟩) h5
    obtain ⟨F, e, rfl⟩ := hwC
    rw [extW_extW]
    refine quietAt_mono (fun w' hw' => ?_) (hv (E ++ F) e)
    obtain ⟨F', e', rfl⟩ := hw'
    exact ⟨F ++ F', e', by rw [extW_extW, extW_extW, Array.append_assoc]⟩
  · rw [if_neg hw] at h4
    exact wpE_first hi (Region.noSelect_spec h1) (hQ undef) f listed a W (Region.free_spec hi h2) (by simpa using h3) (fun E d => .inr ⟨by simpa using hw, rfl⟩) h4
/-- Number i alone can come up. Behind it: the worlds that have grown since then. -/
theorem wpE_step {i : Nat} {o : Oper} {f : Nat} {listed : Array Bool} {a : Act} {W : World} (hi : ops[i]? = some o) (hr : Region.ready md ops listed = [i])
    (h : ∀ E d, ∀ K : Act → World → Prop, (∀ a' w', ExtOf (extW W E d) w' → wpE P md ops Q f (listed.setIfInBounds i true) a' w' → K a' w') →
      if Region.wanted o (yielded ops a.tmps) then Oper.wp P o a (extW W E d) K Q else K (a.put o.dst undef) (extW W E d)) : wpE P md ops Q (f + 1) listed a W := by
  refine ⟨fun h0 => (by rw [hr] at h0; cases h0), fun j hj E d => ?_⟩
  rw [hr] at hj
  obtain rfl : j = i := by simpa using hj
  have h1 := h E d (fun a' w' => ExtOf (extW W E d) w' ∧ wpE P md ops Q f (listed.setIfInBounds j true) a' w') (fun a w' he h' => ⟨he, h'⟩)
  unfold wpOp
  simp only [hi]
  by_cases hw : Region.wanted o (yielded ops a.tmps) = true
  · rw [if_pos hw] at h1 ⊢
    exact .inl h1
  · rw [if_neg hw] at h1 ⊢
    exact h1
/-- All have come up. -/
theorem wpE_done {f : Nat} {listed : Array Bool} {a : Act} {W : World} (hr : Region.ready md ops listed = []) (h : ∀ E d, Q .normal a (extW W E d)) : wpE P md ops Q f listed a W := by
  cases f with
  | zero => exact ⟨hr, h⟩
  | succ f => exact ⟨fun _ => h, by rw [hr]; simp⟩
/-- The beginning. -/
theorem wp_region_E {id : Nat} {a : Act} {W : World} (hm : P.follows .mixedOrders = true) (h : wpE P .any ops Q ops.size (Array.replicate ops.size false) a W) : (Code.region id ops true).wp P Q a W :=
  wp_region_any hm (wpAny_of_E _ _ _ _ (by have := wpE_grow _ _ _ _ #[] (W.drawn + 1) h; rwa [extW_self] at this))
end
end Go.Proofs.Ytoooihoaapfjeaa
