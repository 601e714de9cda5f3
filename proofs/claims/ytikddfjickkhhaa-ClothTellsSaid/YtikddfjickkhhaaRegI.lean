/- Regions that draw their order and begin with two moves that are waited for at their very end (the place that is stored into); then as RegB. -/
import Derived.Test.YtikddfjickkhhaaRegB
import Derived.Test.YtikddfjickkhhaaRegT
namespace Go.Proofs.Ytikddfjickkhhaa
open Go.RowKit
set_option linter.unusedVariables false
set_option linter.unusedSimpArgs false
section
variable {P : Program} {ops : Array Oper} {md : Region.Mode}
def sinkF (p : Nat) (md : Region.Mode) (ops : Array Oper) (n : Nat) : Bool :=
  (List.range n).all fun i => decide (i < p) || (List.range (n + 1)).any fun j => decide (i < j) && Region.waitsFor md ops j i
theorem tail_waitsF {p n : Nat} {listed : Array Bool} (hs : sinkF p md ops n = true) (hc : Region.chainB md ops n = true) (hn : n < ops.size) (inv : HeadInv md ops n listed) :
    ∀ (d i : Nat), n - i = d → p ≤ i → i < n → listed.getD i true = false → ∀ t, n ≤ t → t ∉ Region.ready md ops listed := by
  intro d
  induction d using Nat.strongRecOn with
  | _ d ih =>
    intro i hd hpi hi hun t ht hr
    obtain ⟨_, ot, hot, hall⟩ := mem_ready.1 hr
    have htlt : t < ops.size := (Array.getElem?_eq_some_iff.1 hot).1
    by_cases htn : t = n
    · subst htn
      have h1 := List.all_eq_true.1 hs i (List.mem_range.2 hi)
      rw [decide_eq_false (by omega), Bool.false_or] at h1
      obtain ⟨j, hj, hj2⟩ := List.any_eq_true.1 h1
      simp only [Bool.and_eq_true, decide_eq_true_eq] at hj2
      obtain ⟨oj, hoj, e, he, hb, hon⟩ := Region.waitsFor_spec hj2.2
      have hjle : j ≤ t := by have := List.mem_range.1 hj; omega
      by_cases hjt : j = t
      · subst hjt
        have : oj = ot := Option.some.inj (hoj.symm.trans hot)
        subst this
        have h2 := hall e he hb
        rw [hon, getD_both hun] at h2
        cases h2
      · cases hl : listed.getD j false with
        | true =>
          have h2 := inv.closed j oj hoj hl e he hb
          rw [hon, getD_both hun] at h2
          cases h2
        | false =>
          have hjs : j < listed.size := by rw [inv.size]; omega
          exact ih (t - j) (by omega) j rfl (by omega) (by omega) (getD_in hjs hl) t (Nat.le_refl _) hr
    · have h1 := List.all_eq_true.1 hc t (List.mem_range.2 htlt)
      simp only [Bool.or_eq_true, decide_eq_true_eq] at h1
      rcases h1 with h1 | h1
      · omega
      · obtain ⟨o', ho', e, he, hb, hon⟩ := Region.waitsFor_spec h1
        have : o' = ot := Option.some.inj (ho'.symm.trans hot)
        subst this
        have h2 := hall e he hb
        rw [hon, getD_both (inv.tail (t - 1) (by omega) (by omega))] at h2
        cases h2
theorem headI_first {p n m i : Nat} {oi om : Oper} {v : Value} {mk : Nat → Value} {z : Obj} {L : Array Bool → Act → World → Prop} (hi : ops[i]? = some oi) (hom : ops[m]? = some om) (hgm : om.guard = none) (hsel : ∀ (j : Nat) (o : Oper) cs b, ops[j]? = some o → o.op ≠ .select cs b)
    (hs : sinkF p md ops n = true) (hc : Region.chainB md ops n = true) (hn : n < ops.size) (hip : p ≤ i) (hin : i < n) (him : i ≠ m)
    (hdone : ∀ listed a w, L listed a w → ∀ j ∈ Region.ready md ops listed, n ≤ j) (W0 : World) (f : Nat) :
    ∀ (listed : Array Bool) (a : Act) (W : World), (∃ E d, W = extW W0 E d) → HeadInv md ops n listed →
      (∀ j oj, ops[j]? = some oj → j ≠ i → listed.getD j true = false → (∀ e ∈ oj.after, Region.binds md e = true → e.on ≠ i) → oi.apart ops oj = true) →
      i ∈ Region.ready md ops listed → (∀ E d, YieldsIn P ops (fun w => ∃ F e, w = extW (extW W0 E d) F e) oi v a) →
      headB P md ops n m om mk z L f (listed.setIfInBounds i true) (a.put oi.dst v) W → headB P md ops n m om mk z L (f + 1) listed a W := by
  have eat : ∀ E d F e, extW (extW W0 E d) F e = extW W0 (E ++ F) e := fun E d F e => extW_extW W0 E F d e
  induction f with
  | zero =>
    intro listed a W hW inv _ hr hy H
    obtain ⟨E0, d0, rfl⟩ := hW
    refine ⟨List.ne_nil_of_mem hr, fun j hj => ?_⟩
    have hjn : j < n := Nat.lt_of_not_le fun h => tail_waitsF hs hc hn inv _ i rfl hip hin (mem_ready.1 hr).1 j h hj
    refine ⟨hjn, ?_⟩
    by_cases hji : j = i
    · subst hji; exact ⟨fun h => absurd h him, fun _ => (hy E0 d0).qOp hi H⟩
    · exact absurd (hdone _ _ _ (H #[] 0) j (ready_mono hj hji)) (by omega)
  | succ f ih =>
    intro listed a W hW inv hfree hr hy H
    obtain ⟨E0, d0, rfl⟩ := hW
    refine ⟨List.ne_nil_of_mem hr, fun j hj => ?_⟩
    have hjn : j < n := Nat.lt_of_not_le fun h => tail_waitsF hs hc hn inv _ i rfl hip hin (mem_ready.1 hr).1 j h hj
    refine ⟨hjn, ?_⟩
    by_cases hji : j = i
    · subst hji; exact ⟨fun h => absurd h him, fun _ => (hy E0 d0).qOp hi H⟩
    · obtain ⟨hjun, oj, hoj, hall⟩ := mem_ready.1 hj
      have hnot : ∀ e ∈ oj.after, Region.binds md e = true → e.on ≠ i := by
        intro e he hb heq
        have h1 := hall e he hb
        rw [heq, getD_both (mem_ready.1 hr).1] at h1
        cases h1
      have hap := hfree j oj hoj hji hjun hnot
      have hfree' : ∀ k ok, ops[k]? = some ok → k ≠ i → (listed.setIfInBounds j true).getD k true = false → (∀ e ∈ ok.after, Region.binds md e = true → e.on ≠ i) → oi.apart ops ok = true := by
        intro k ok hk hki hun hno
        refine hfree k ok hk hki ?_ hno
        by_cases hjk : j = k
        · subst hjk; exact hjun
        · rwa [getD_set_ne true hjk] at hun
      obtain ⟨_, H1, H2⟩ := H.2 j (ready_mono hj hji)
      obtain ⟨p1, p2, p3⟩ := Oper.apart_spec hap
      constructor
      · intro hjm
        have e : oj = om := by subst hjm; exact Option.some.inj (hoj.symm.trans hom)
        subst e
        obtain ⟨hmk, H3'⟩ := H1 hjm
        refine ⟨fun w => ?_, fun E d => ?_⟩
        · have := hmk w
          rwa [execOp_put oj (fun cs b => hsel j oj cs b hoj) a oi.dst v p1] at this
        · have H3 := H3' E d
          refine ih _ _ _ ?_ (inv.set hj hjn) hfree' (ready_mono hr (Ne.symm hji)) (fun E' d' => ?_) ?_
          · rw [eat]
            exact ⟨(E0 ++ E).push z, d, by simp [extW, World.alloc]⟩
          · exact (hy E' d').of_same (execOp_put oi (fun cs b => hsel i oi cs b hi) a _ _ p3) (wanted_put oi a _ _ p3)
          · rw [Array.setIfInBounds_comm _ _ hji, Act.put_comm a v _ p2] at *
            exact H3
      · intro hjm
        have h2 := qOp_put hoj hap (fun cs b => hsel i oi cs b hi) (fun cs b => hsel j oj cs b hoj) (hy E0 d0) (H2 hjm)
        unfold qOp at h2 ⊢
        simp only [hoj] at h2 ⊢
        have keep : ∀ u, ∀ E d, YieldsIn P ops (fun w => ∃ F e, w = extW (extW W0 E d) F e) oi v (a.put oj.dst u) := fun u E d =>
          (hy E d).of_same (execOp_put oi (fun cs b => hsel i oi cs b hi) a oj.dst u p3) (wanted_put oi a oj.dst u p3)
        split
        · rename_i hw
          simp only [hw, if_true] at h2
          obtain ⟨u, hu, _, h3⟩ := h2
          refine ⟨u, hu, ih _ _ _ ⟨E0, d0, rfl⟩ (inv.set hj hjn) hfree' (ready_mono hr (Ne.symm hji)) (keep u) ?_⟩
          rw [Array.setIfInBounds_comm _ _ hji]
          exact h3
        · rename_i hw
          simp only [hw] at h2
          refine ih _ _ _ ⟨E0, d0, rfl⟩ (inv.set hj hjn) hfree' (ready_mono hr (Ne.symm hji)) (keep undef) ?_
          rw [Array.setIfInBounds_comm _ _ hji]
          exact h2.2
theorem headI_lex {p m : Nat} {g : Nat} {om : Oper} {mk : Nat → Value} {z : Obj} {K : Act → Prop} {W : World} (hom : ops[m]? = some om) (hgm : om.guard = none) (hsel : Region.noSelect ops = true) (hs : sinkF p md ops (m+1) = true) (hc : Region.chainB md ops (m+1) = true) (hn : m + 1 < ops.size) (hKm : ∀ a, K a → Makes P om a mk z) (l : List Oper) :
    ∀ (k : Nat) (listed : Array Bool) (a : Act), p ≤ k → (∀ j, j < l.length → l[j]? = ops[k + j]?) → k + l.length = m → HeadInv md ops (m+1) listed →
    Region.lexHead md ops (g+1) l.length k listed = true → wpV P ops W K l a →
    headB P md ops (m+1) m om mk z (fun listed' a' w' => Region.seqB md ops g (m+1) listed' = true ∧ ∃ a0 E d E' d', K a0 ∧ a' = a0.put om.dst (mk (extW W E d).heap.size) ∧ w' = extW ((extW W E d).alloc z) E' d') (l.length + 1) listed a W := by
  induction l with
  | nil =>
    intro k listed a _ _ hk inv hB h
    have hkn : k = m := by simpa using hk
    subst hkn
    simp only [List.length_nil, Region.lexHead, Region.seqB, Bool.and_eq_true, decide_eq_true_eq] at hB
    refine ⟨by rw [hB.1]; simp, fun i hi => ?_⟩
    rw [hB.1] at hi
    have hik : i = k := by simpa using hi
    subst hik
    exact ⟨by omega, fun _ => ⟨hKm a h, fun E d E' d' => ⟨hB.2, a, E, d, E', d', h, rfl, rfl⟩⟩, fun h => absurd rfl h⟩
  | cons o l ih =>
    intro k listed a hpk hl hk inv hB h
    have h0 : ops[k]? = some o := by simpa using (hl 0 (by simp)).symm
    simp only [List.length_cons, Region.lexHead, Bool.and_eq_true] at hB
    obtain ⟨⟨hr, hf⟩, hB'⟩ := hB
    have hkn : k < m := by simp only [List.length_cons] at hk; omega
    have hr' : k ∈ Region.ready md ops listed := by simpa using hr
    have step : ∃ v, (∀ E d, YieldsIn P ops (fun w => ∃ F e, w = extW (extW W E d) F e) o v a) ∧ wpV P ops W K l (a.put o.dst v) := by
      unfold wpV at h
      by_cases hw : Region.wanted o (yielded ops a.tmps) = true
      · rw [if_pos hw] at h
        obtain ⟨v, h1, h2⟩ := h
        refine ⟨v, fun E d => .inl ⟨hw, fun w hwC => ?_⟩, h2⟩
        obtain ⟨F, e, rfl⟩ := hwC
        rw [extW_extW]
        refine quietAt_mono (fun w' hw' => ?_) (h1 (E ++ F) e)
        obtain ⟨F', e', rfl⟩ := hw'
        exact ⟨F ++ F', e', by rw [extW_extW, extW_extW, Array.append_assoc]⟩
      · rw [if_neg hw] at h
        exact ⟨undef, fun E d => .inr ⟨by simpa using hw, rfl⟩, h⟩
    obtain ⟨v, hy, hK⟩ := step
    exact headI_first h0 hom hgm (Region.noSelect_spec hsel) hs hc hn hpk (by omega) (by omega) (fun listed' a' w' hL => seqB_ready hL.1) W (l.length + 1) listed a W (extOf_refl W) inv (Region.free_spec h0 hf) hr' hy
      (ih (k + 1) _ _ (by omega) (fun j hj => by have := hl (j + 1) (by simp; omega); simpa [Nat.add_assoc, Nat.add_comm 1 j] using this) (by simp only [List.length_cons] at hk; omega) (inv.set hr' (by omega)) hB' hK)
variable {S : World → Prop} {stop : Nat → Bool} {Q : Exit → Act → World → Prop}
theorem anyT_first2 {i : Nat} {oi : Oper} {v : Value} (hi : ops[i]? = some oi) (hsel : ∀ (j : Nat) (o : Oper) cs b, ops[j]? = some o → o.op ≠ .select cs b)
    (hst : ∀ j oj, ops[j]? = some oj → stop j = true → ∃ e ∈ oj.after, Region.binds md e = true ∧ e.on = i) (hQ : ∀ c a w, Q (.panic c) (a.put oi.dst v) w → Q (.panic c) a w) (f : Nat) :
    ∀ (listed : Array Bool) (a : Act) (w : World),
      (∀ j oj, ops[j]? = some oj → j ≠ i → listed.getD j true = false → (∀ e ∈ oj.after, Region.binds md e = true → e.on ≠ i) → oi.apart ops oj = true) →
      i ∈ Region.ready md ops listed → YieldsIf P ops S oi v a → S w → stop i = false →
      anyT P md ops Q S stop f (listed.setIfInBounds i true) (a.put oi.dst v) w → anyT P md ops Q S stop (f + 1) listed a w := by
  induction f with
  | zero =>
    intro listed a w _ hr hy hS hs H
    refine ⟨fun h => (by rw [h] at hr; cases hr), fun j hj => ?_⟩
    rcases Nat.decEq j i with hji | hji
    · exact absurd (ready_mono hj hji) (by rw [H.1]; simp)
    · subst hji; exact hy.wpOp hi hS ⟨fun _ => hS, H⟩
  | succ f ih =>
    intro listed a w hfree hr hy hS hs H
    refine ⟨fun h => (by rw [h] at hr; cases hr), fun j hj => ?_⟩
    rcases Nat.decEq j i with hji | hji
    · obtain ⟨hjun, oj, hoj, hall⟩ := mem_ready.1 hj
      have hnot : ∀ e ∈ oj.after, Region.binds md e = true → e.on ≠ i := by
        intro e he hb heq
        have h1 := hall e he hb
        rw [heq, getD_both (mem_ready.1 hr).1] at h1
        cases h1
      have hsj : stop j = false := by
        cases h : stop j with
        | false => rfl
        | true =>
          obtain ⟨e, he, hb, heq⟩ := hst j oj hoj h
          exact absurd heq (hnot e he hb)
      have hap := hfree j oj hoj hji hjun hnot
      have h2 := wpOp_putIf (S := S) hoj hap (fun cs b => hsel i oi cs b hi) (fun cs b => hsel j oj cs b hoj) hQ hy (H.2 j (ready_mono hj hji))
      refine wpOp_mono (fun a' w' h3 => ?_) h2
      have hSw := h3.2.1 hsj
      refine ⟨fun _ => hSw, ih _ a' w' (fun k ok hk hki hun hno => ?_) (ready_mono hr (Ne.symm hji)) h3.1 hSw hs ?_⟩
      · refine hfree k ok hk hki ?_ hno
        by_cases hjk : j = k
        · subst hjk; exact hjun
        · rwa [getD_set_ne true hjk] at hun
      · rw [Array.setIfInBounds_comm _ _ hji]; exact h3.2.2
    · subst hji; exact hy.wpOp hi hS ⟨fun _ => hS, H⟩
theorem anyT_take2 {i : Nat} {oi : Oper} (v : Value) {f : Nat} {listed : Array Bool} {a : Act} {w : World} (hi : ops[i]? = some oi)
    (hb : (Region.noSelect ops && Region.free md ops listed i && (Region.ready md ops listed).contains i && stopB md ops stop i) = true)
    (hQ : ∀ c a w, Q (.panic c) (a.put oi.dst v) w → Q (.panic c) a w) (hy : YieldsIf P ops S oi v a) (hS : S w)
    (h : anyT P md ops Q S stop f (listed.setIfInBounds i true) (a.put oi.dst v) w) : anyT P md ops Q S stop (f + 1) listed a w := by
  simp only [Bool.and_eq_true] at hb
  obtain ⟨⟨⟨h1, h2⟩, h3⟩, h4⟩ := hb
  unfold stopB at h4
  simp only [Bool.and_eq_true, Bool.not_eq_true'] at h4
  refine anyT_first2 hi (Region.noSelect_spec h1) (fun j oj hoj hs => ?_) hQ f listed a w (Region.free_spec hi h2) (by simpa using h3) hy hS h4.1 h
  have hlt : j < ops.size := (Array.getElem?_eq_some_iff.1 hoj).1
  have h5 := List.all_eq_true.1 h4.2 j (List.mem_range.2 hlt)
  rw [hoj, hs] at h5
  simp only [Bool.not_true, Bool.false_or] at h5
  rw [Array.any_eq_true'] at h5
  obtain ⟨e, he, h6⟩ := h5
  simp only [Bool.and_eq_true, beq_iff_eq] at h6
  exact ⟨e, he, h6.1, h6.2⟩
theorem any_anyT (f : Nat) : ∀ (listed : Array Bool) (a : Act) (w : World), wpAny P md ops Q f listed a w → anyT P md ops Q (fun _ => True) (fun _ => false) f listed a w := by
  induction f with
  | zero => intro listed a w h; exact h
  | succ f ih => intro listed a w h; exact ⟨h.1, fun i hi => wpOp_mono (fun a' w' h' => ⟨fun _ => trivial, ih _ a' w' h'⟩) (h.2 i hi)⟩
theorem move_yields {o : Oper} {x : Operand} (h : o.op = .move x) (hg : o.guard = none) (a : Act) : YieldsIf P ops (fun _ => True) o (a.eval x) a :=
  .inl ⟨by simp [Region.wanted, hg], fun w _ => by unfold execOp; rw [h]; rfl⟩
end
theorem any_region_ext_build2 {Q : Exit → Act → World → Prop} {a : Act} {w : World} {l : List Oper} (m : Nat) (om o0 o1 : Oper) (x0 x1 : Operand) (mk : Nat → Value) (z : Obj) (hQ : ∀ c a w v, (Q (.panic c) (a.put o0.dst v) w → Q (.panic c) a w) ∧ (Q (.panic c) (a.put o1.dst v) w → Q (.panic c) a w))
    (hB' : (Region.noSelect l.toArray && decide (m + 1 < l.length) && decide (2 < m) && sinkF 2 .any l.toArray (m+1) && Region.chainB .any l.toArray (m+1) && Region.lexHead .any l.toArray (l.length - (m+1) + 1) m 0 (Array.replicate l.length false)) = true)
    (hom : l[m]? = some om) (hgm : om.guard = none) (h0 : l[0]? = some o0) (h1 : l[1]? = some o1) (e0 : o0.op = .move x0) (g0 : o0.guard = none) (e1 : o1.op = .move x1) (g1 : o1.guard = none)
    (h : wpV Try.prog l.toArray w (fun a' => Makes Try.prog om a' mk z ∧ ∀ E d E' d', wpList Try.prog l.toArray Q (l.drop (m+1)) (a'.put om.dst (mk (extW w E d).heap.size)) (extW ((extW w E d).alloc z) E' d')) ((l.take m).drop 2) ((a.put o0.dst (a.eval x0)).put o1.dst ((a.put o0.dst (a.eval x0)).eval x1))) : wpAny Try.prog .any l.toArray Q l.toArray.size (Array.replicate l.toArray.size false) a { w with drawn := w.drawn + 1 } := by
  simp only [Bool.and_eq_true, decide_eq_true_eq] at hB'
  obtain ⟨⟨⟨⟨⟨hsel, hn⟩, hm2⟩, hs⟩, hc⟩, hlex⟩ := hB'
  obtain ⟨m', rfl⟩ : ∃ m', m = m' + 2 := ⟨m - 2, by omega⟩
  have htl : ((l.take (m'+2)).drop 2).length = m' := by simp; omega
  have hdl : (l.drop (m'+2+1)).length = l.length - (m'+2+1) := by simp
  have hom2 : l.toArray[m'+2]? = some om := by simpa using hom
  have h02 : l.toArray[0]? = some o0 := by simpa using h0
  have h12 : l.toArray[1]? = some o1 := by simpa using h1
  simp only [Region.lexHead, Bool.and_eq_true] at hlex
  obtain ⟨⟨r0, f0⟩, ⟨r1, f1⟩, hlex⟩ := hlex
  have inv0 : HeadInv .any l.toArray (m'+2+1) (Array.replicate l.length false) :=
    ⟨by simp, fun j oj _ hl => (by rw [getD_replicate_false] at hl; cases hl), fun t _ ht => getD_in (by simpa using ht) (getD_replicate_false _ _)⟩
  have inv1 := inv0.set (i := 0) (by simpa using r0) (by omega)
  have inv2 := inv1.set (i := 1) (by simpa using r1) (by omega)
  have H := headI_lex (P := Try.prog) (md := .any) (p := 2) (g := l.length - (m'+2+1)) (z := z) (mk := mk) (W := w) hom2 hgm hsel hs hc (by simpa using hn) (fun a ha => ha.1) ((l.take (m'+2)).drop 2) 2 _ ((a.put o0.dst (a.eval x0)).put o1.dst ((a.put o0.dst (a.eval x0)).eval x1)) (Nat.le_refl _) (fun j hj => by
    have hj' : j < m' := by rw [htl] at hj; exact hj
    simp [List.getElem?_drop, List.getElem?_take, Nat.add_comm 2 j, hj']) (by rw [htl]; omega) inv2 (by rw [htl]; exact hlex) h
  have H2 := headB_any (g := l.length - (m'+2+1)) (Q := Q) hom2 hgm (fun listed a' w' hL => by
    obtain ⟨hsq, a0, E, d, E', d', hK, rfl, rfl⟩ := hL
    have := wpAny_of_seq (md := .any) (Q' := Q) (l.drop (m'+2+1)) (m'+2+1) listed (a0.put om.dst (mk (extW w E d).heap.size)) (extW ((extW w E d).alloc z) E' d') (fun j => by simp [List.getElem?_drop]) (by rw [hdl]; exact hsq) (hK.2 E d E' d')
    rwa [hdl] at this) _ _ _ w H #[] (w.drawn + 1)
  rw [htl, extW_self] at H2
  have e : m' + 1 + (l.length - (m' + 2 + 1)) + 1 + 1 = l.length := by omega
  have hsz : l.toArray.size = l.length := by simp
  have key : wpAny Try.prog .any l.toArray Q (m' + 1 + (l.length - (m' + 2 + 1)) + 1 + 1) (Array.replicate l.length false) a { w with drawn := w.drawn + 1 } := by
    refine anyT_any (S := fun _ => True) (stop := fun _ => false) _ _ _ _ ?_
    refine anyT_take2 (S := fun _ => True) (stop := fun _ => false) (a.eval x0) h02 (by simp only [Bool.and_eq_true]; exact ⟨⟨⟨hsel, f0⟩, r0⟩, by simp [stopB]⟩) (fun c a w => (hQ c a w _).1) (move_yields e0 g0 a) trivial ?_
    refine anyT_take2 (S := fun _ => True) (stop := fun _ => false) _ h12 (by simp only [Bool.and_eq_true]; exact ⟨⟨⟨hsel, f1⟩, r1⟩, by simp [stopB]⟩) (fun c a w => (hQ c a w _).2) (move_yields e1 g1 _) trivial ?_
    exact any_anyT _ _ _ _ H2
  rw [e] at key
  rw [hsz]
  exact key
theorem wp_region_ext_build2 {id : Nat} {Q : Exit → Act → World → Prop} {a : Act} {w : World} {l : List Oper} (m : Nat) (om o0 o1 : Oper) (x0 x1 : Operand) (mk : Nat → Value) (z : Obj) (hQ : ∀ c a w v, (Q (.panic c) (a.put o0.dst v) w → Q (.panic c) a w) ∧ (Q (.panic c) (a.put o1.dst v) w → Q (.panic c) a w)) (hm : Try.prog.follows .mixedOrders = true)
    (hB' : (Region.noSelect l.toArray && decide (m + 1 < l.length) && decide (2 < m) && sinkF 2 .any l.toArray (m+1) && Region.chainB .any l.toArray (m+1) && Region.lexHead .any l.toArray (l.length - (m+1) + 1) m 0 (Array.replicate l.length false)) = true)
    (hom : l[m]? = some om) (hgm : om.guard = none) (h0 : l[0]? = some o0) (h1 : l[1]? = some o1) (e0 : o0.op = .move x0) (g0 : o0.guard = none) (e1 : o1.op = .move x1) (g1 : o1.guard = none)
    (h : wpV Try.prog l.toArray w (fun a' => Makes Try.prog om a' mk z ∧ ∀ E d E' d', wpList Try.prog l.toArray Q (l.drop (m+1)) (a'.put om.dst (mk (extW w E d).heap.size)) (extW ((extW w E d).alloc z) E' d')) ((l.take m).drop 2) ((a.put o0.dst (a.eval x0)).put o1.dst ((a.put o0.dst (a.eval x0)).eval x1))) : (Code.region id l.toArray true).wp Try.prog Q a w := wp_region_any hm (any_region_ext_build2 m om o0 o1 x0 x1 mk z hQ hB' hom hgm h0 h1 e0 g0 e1 g1 h)
end Go.Proofs.Ytikddfjickkhhaa
