/- Lemmas on which the law of this seat rests; each states its own conditions. -/
import Derived.Test.YtajdoobkfbdgoaaGreatDoorB04
import Derived.Test.YtajdoobkfbdgoaaGreatDoorB06
import Derived.Test.YtajdoobkfbdgoaaGreatDoorB34
import Derived.Test.YtajdoobkfbdgoaaGreatDoorB07
set_option linter.unusedVariables false
set_option linter.unusedSimpArgs false
namespace Go.Proofs.YtajdoobkfbdgoaaGreatDoor
section
open Go.RowKit
section
variable {P : Program} {ops : Array Oper} {md : Region.Mode}
def sinkF (p : Nat) (md : Region.Mode) (ops : Array Oper) (n : Nat) : Bool :=
 (List.range n).all fun i => decide (i < p) || (List.range (n + 1)).any fun j => decide (i < j) && Region.waitsFor md ops j i
theorem tail_waitsF {p n : Nat} {listed : Array Bool} (hs : sinkF p md ops n = true) (hc : Region.chainB md ops n = true) (hn : n < ops.size) (inv : HeadInv md ops n listed) :
  ∀ (d i : Nat), n - i = d → p ≤ i → i < n → listed.getD i true = false → ∀ t, n ≤ t → t ∉ Region.ready md ops listed := by
 intro d
 induction d using Nat.strongRecOn with
 | _ d ih =>
  intro i hd hpi hi hun t ht hr
  obtain ⟨_, ot, hot, hall⟩ := mem_ready.1 hr
  have htlt : t < ops.size := (Array.getElem?_eq_some_iff.1 hot).1
  by_cases htn : t = n
  ·subst htn
   have h1 := List.all_eq_true.1 hs i (List.mem_range.2 hi)
   rw [decide_eq_false (by omega), Bool.false_or] at h1
   obtain ⟨j, hj, hj2⟩ := List.any_eq_true.1 h1
   simp only [Bool.and_eq_true, decide_eq_true_eq] at hj2
   obtain ⟨oj, hoj, e, he, hb, hon⟩ := Region.waitsFor_spec hj2.2
   have hjle : j ≤ t := by have := List.mem_range.1 hj; omega
   by_cases hjt : j = t
   ·subst hjt
    have : oj = ot := Option.some.inj (hoj.symm.trans hot)
    subst this
    have h2 := hall e he hb
    rw [hon, getD_both hun] at h2
    cases h2
   ·cases hl : listed.getD j false with
    | true =>
     have h2 := inv.closed j oj hoj hl e he hb
     rw [hon, getD_both hun] at h2
     cases h2
    | false =>
     have hjs : j < listed.size := by rw [inv.size]; omega
     exact ih (t - j) (by omega) j rfl (by omega) (by omega) (getD_in hjs hl) t (Nat.le_refl _) hr
  ·have h1 := List.all_eq_true.1 hc t (List.mem_range.2 htlt)
   simp only [Bool.or_eq_true, decide_eq_true_eq] at h1
   rcases h1 with h1 | h1
   ·omega
   ·obtain ⟨o', ho', e, he, hb, hon⟩ := Region.waitsFor_spec h1
    have : o' = ot := Option.some.inj (ho'.symm.trans hot)
    subst this
    have h2 := hall e he hb
    rw [hon, getD_both (inv.tail (t - 1) (by omega) (by omega))] at h2
    cases h2
theorem headI_first {p n m i : Nat} {oi om : Oper} {v : Value} {mk : Nat → Value} {z : Obj} {L : Array Bool → Act → World → Prop} (hi : ops[i]? = some oi) (hom : ops[m]? = some om) (hgm : om.guard = none) (hsel : ∀ (j : Nat) (o : Oper) cs b, ops[j]? = some o → o.op ≠ .select cs b)
  (hs : sinkF p md ops n = true) (hc : Region.chainB md ops n = true) (hn : n < ops.size) (hip : p ≤ i) (hin : i < n) (him : i ≠ m)
  (hdone : ∀ listed a w, L listed a w → ∀ j ∈ Region.ready md ops listed, n ≤ j) (W0 : World) (f : Nat) :
  ∀ (listed : Array Bool) (a : Act) (W : World), (∃ E d, W = extW W0 E d) → HeadInv md ops n listed →
   (∀ j oj, ops[j]? = some oj → j ≠ i → listed.getD j true = false → (∀ e ∈ oj.after, Region.binds md e = true → e.on ≠ i) → oi.apart ops oj = true) →
   i ∈ Region.ready md ops listed → (∀ E d, YieldsIn P ops (fun w => ∃ F e, w = extW (extW W0 E d) F e) oi v a) →
   headB P md ops n m om mk z L f (listed.setIfInBounds i true) (a.put oi.dst v) W → headB P md ops n m om mk z L (f + 1) listed a W := by
 have eat : ∀ E d F e, extW (extW W0 E d) F e = extW W0 (E ++ F) e := fun E d F e => extW_extW W0 E F d e
 induction f with
 | zero =>
  intro listed a W hW inv _ hr hy H
  obtain ⟨E0, d0, rfl⟩ := hW
  refine ⟨List.ne_nil_of_mem hr, fun j hj => ?_⟩
  have hjn : j < n := Nat.lt_of_not_le fun h => tail_waitsF hs hc hn inv _ i rfl hip hin (mem_ready.1 hr).1 j h hj
  refine ⟨hjn, ?_⟩
  by_cases hji : j = i
  ·subst hji; exact ⟨fun h => absurd h him, fun _ => (hy E0 d0).qOp hi H⟩
  ·exact absurd (hdone _ _ _ (H #[] 0) j (ready_mono hj hji)) (by omega)
 | succ f ih =>
  intro listed a W hW inv hfree hr hy H
  obtain ⟨E0, d0, rfl⟩ := hW
  refine ⟨List.ne_nil_of_mem hr, fun j hj => ?_⟩
  have hjn : j < n := Nat.lt_of_not_le fun h => tail_waitsF hs hc hn inv _ i rfl hip hin (mem_ready.1 hr).1 j h hj
  refine ⟨hjn, ?_⟩
  by_cases hji : j = i
  ·subst hji; exact ⟨fun h => absurd h him, fun _ => (hy E0 d0).qOp hi H⟩
  ·obtain ⟨hjun, oj, hoj, hall⟩ := mem_ready.1 hj
   have hnot : ∀ e ∈ oj.after, Region.binds md e = true → e.on ≠ i := by
    intro e he hb heq
    have h1 := hall e he hb
    rw [heq, getD_both (mem_ready.1 hr).1] at h1
    cases h1
   have hap := hfree j oj hoj hji hjun hnot
   have hfree' : ∀ k ok, ops[k]? = some ok → k ≠ i → (listed.setIfInBounds j true).getD k true = false → (∀ e ∈ ok.after, Region.binds md e = true → e.on ≠ i) → oi.apart ops ok = true := by
    intro k ok hk hki hun hno
    refine hfree k ok hk hki ?_ hno
    by_cases hjk : j = k
    ·subst hjk; exact hjun
    ·rwa [getD_set_ne true hjk] at hun
   obtain ⟨_, H1, H2⟩ := H.2 j (ready_mono hj hji)
   obtain ⟨p1, p2, p3⟩ := Oper.apart_spec hap
   constructor
   ·intro hjm
    have e : oj = om := by subst hjm; exact Option.some.inj (hoj.symm.trans hom)
    subst e
    obtain ⟨hmk, H3'⟩ := H1 hjm
    refine ⟨fun w => ?_, fun E d => ?_⟩
    ·have := hmk w
     rwa [execOp_put oj (fun cs b => hsel j oj cs b hoj) a oi.dst v p1] at this
    ·have H3 := H3' E d
     refine ih _ _ _ ?_ (inv.set hj hjn) hfree' (ready_mono hr (Ne.symm hji)) (fun E' d' => ?_) ?_
     ·rw [eat]
      exact ⟨(E0 ++ E).push z, d, by simp [extW, World.alloc]⟩
     ·exact (hy E' d').of_same (execOp_put oi (fun cs b => hsel i oi cs b hi) a _ _ p3) (wanted_put oi a _ _ p3)
     ·rw [Array.setIfInBounds_comm _ _ hji, Act.put_comm a v _ p2] at *
      exact H3
   ·intro hjm
    have h2 := qOp_put hoj hap (fun cs b => hsel i oi cs b hi) (fun cs b => hsel j oj cs b hoj) (hy E0 d0) (H2 hjm)
    unfold qOp at h2 ⊢
    simp only [hoj] at h2 ⊢
    have keep : ∀ u, ∀ E d, YieldsIn P ops (fun w => ∃ F e, w = extW (extW W0 E d) F e) oi v (a.put oj.dst u) := fun u E d =>
     (hy E d).of_same (execOp_put oi (fun cs b => hsel i oi cs b hi) a oj.dst u p3) (wanted_put oi a oj.dst u p3)
    split
    ·rename_i hw
     simp only [hw, if_true] at h2
     obtain ⟨u, hu, _, h3⟩ := h2
     refine ⟨u, hu, ih _ _ _ ⟨E0, d0, rfl⟩ (inv.set hj hjn) hfree' (ready_mono hr (Ne.symm hji)) (keep u) ?_⟩
     rw [Array.setIfInBounds_comm _ _ hji]
     exact h3
    ·rename_i hw
     simp only [hw] at h2
     refine ih _ _ _ ⟨E0, d0, rfl⟩ (inv.set hj hjn) hfree' (ready_mono hr (Ne.symm hji)) (keep undef) ?_
     rw [Array.setIfInBounds_comm _ _ hji]
     exact h2.2
theorem headI_lex {p m : Nat} {g : Nat} {om : Oper} {mk : Nat → Value} {z : Obj} {K : Act → Prop} {W : World} (hom : ops[m]? = some om) (hgm : om.guard = none) (hsel : Region.noSelect ops = true) (hs : sinkF p md ops (m+1) = true) (hc : Region.chainB md ops (m+1) = true) (hn : m + 1 < ops.size) (hKm : ∀ a, K a → Makes P om a mk z) (l : List Oper) :
  ∀ (k : Nat) (listed : Array Bool) (a : Act), p ≤ k → (∀ j, j < l.length → l[j]? = ops[k + j]?) → k + l.length = m → HeadInv md ops (m+1) listed →
  Region.lexHead md ops (g+1) l.length k listed = true → wpV P ops W K l a →
  headB P md ops (m+1) m om mk z (fun listed' a' w' => Region.seqB md ops g (m+1) listed' = true ∧ ∃ a0 E d E' d', K a0 ∧ a' = a0.put om.dst (mk (extW W E d).heap.size) ∧ w' = extW ((extW W E d).alloc z) E' d') (l.length + 1) listed a W := by
 induction l with
 | nil =>
  intro k listed a _ _ hk inv hB h
  have hkn : k = m := by simpa using hk
  subst hkn
  simp only [List.length_nil, Region.lexHead, Region.seqB, Bool.and_eq_true, decide_eq_true_eq] at hB
  refine ⟨by rw [hB.1]; simp, fun i hi => ?_⟩
  rw [hB.1] at hi
  have hik : i = k := by simpa using hi
  subst hik
  exact ⟨by omega, fun _ => ⟨hKm a h, fun E d E' d' => ⟨hB.2, a, E, d, E', d', h, rfl, rfl⟩⟩, fun h => absurd rfl h⟩
 | cons o l ih =>
  intro k listed a hpk hl hk inv hB h
  have h0 : ops[k]? = some o := by simpa using (hl 0 (by simp)).symm
  simp only [List.length_cons, Region.lexHead, Bool.and_eq_true] at hB
  obtain ⟨⟨hr, hf⟩, hB'⟩ := hB
  have hkn : k < m := by simp only [List.length_cons] at hk; omega
  have hr' : k ∈ Region.ready md ops listed := by simpa using hr
  have step : ∃ v, (∀ E d, YieldsIn P ops (fun w => ∃ F e, w = extW (extW W E d) F e) o v a) ∧ wpV P ops W K l (a.put o.dst v) := by
   unfold wpV at h
   by_cases hw : Region.wanted o (yielded ops a.tmps) = true
   ·rw [if_pos hw] at h
    obtain ⟨v, h1, h2⟩ := h
    refine ⟨v, fun E d => .inl ⟨hw, fun w hwC => ?_⟩, h2⟩
    obtain ⟨F, e, rfl⟩ := hwC
    rw [extW_extW]
    refine quietAt_mono (fun w' hw' => ?_) (h1 (E ++ F) e)
    obtain ⟨F', e', rfl⟩ := hw'
    exact ⟨F ++ F', e', by rw [extW_extW, extW_extW, Array.append_assoc]⟩
   ·rw [if_neg hw] at h
    exact ⟨undef, fun E d => .inr ⟨by simpa using hw, rfl⟩, h⟩
  obtain ⟨v, hy, hK⟩ := step
  exact headI_first h0 hom hgm (Region.noSelect_spec hsel) hs hc hn hpk (by omega) (by omega) (fun listed' a' w' hL => seqB_ready hL.1) W (l.length + 1) listed a W (extOf_refl W) inv (Region.free_spec h0 hf) hr' hy
   (ih (k + 1) _ _ (by omega) (fun j hj => by have := hl (j + 1) (by simp; omega); simpa [Nat.add_assoc, Nat.add_comm 1 j] using this) (by simp only [List.length_cons] at hk; omega) (inv.set hr' (by omega)) hB' hK)
variable {S : World → Prop} {stop : Nat → Bool} {Q : Exit → Act → World → Prop}
theorem anyT_first2 {i : Nat} {oi : Oper} {v : Value} (hi : ops[i]? = some oi) (hsel : ∀ (j : Nat) (o : Oper) cs b, ops[j]? = some o → o.op ≠ .select cs b)
  (hst : ∀ j oj, ops[j]? = some oj → stop j = true → ∃ e ∈ oj.after, Region.binds md e = true ∧ e.on = i) (hQ : ∀ c a w, Q (.panic c) (a.put oi.dst v) w → Q (.panic c) a w) (f : Nat) :
  ∀ (listed : Array Bool) (a : Act) (w : World),
   (∀ j oj, ops[j]? = some oj → j ≠ i → listed.getD j true = false → (∀ e ∈ oj.after, Region.binds md e = true → e.on ≠ i) → oi.apart ops oj = true) →
   i ∈ Region.ready md ops listed → YieldsIf P ops S oi v a → S w → stop i = false →
   anyT P md ops Q S stop f (listed.setIfInBounds i true) (a.put oi.dst v) w → anyT P md ops Q S stop (f + 1) listed a w := by
 induction f with
 | zero =>
  intro listed a w _ hr hy hS hs H
  refine ⟨fun h => (by rw [h] at hr; cases hr), fun j hj => ?_⟩
  rcases Nat.decEq j i with hji | hji
  ·exact absurd (ready_mono hj hji) (by rw [H.1]; simp)
  ·subst hji; exact hy.wpOp hi hS ⟨fun _ => hS, H⟩
 | succ f ih =>
  intro listed a w hfree hr hy hS hs H
  refine ⟨fun h => (by rw [h] at hr; cases hr), fun j hj => ?_⟩
  rcases Nat.decEq j i with hji | hji
  ·obtain ⟨hjun, oj, hoj, hall⟩ := mem_ready.1 hj
   have hnot : ∀ e ∈ oj.after, Region.binds md e = true → e.on ≠ i := by
    intro e he hb heq
    have h1 := hall e he hb
    rw [heq, getD_both (mem_ready.1 hr).1] at h1
    cases h1
   have hsj : stop j = false := by
    cases h : stop j with
    | false => rfl
    | true =>
     obtain ⟨e, he, hb, heq⟩ := hst j oj hoj h
     exact absurd heq (hnot e he hb)
   have hap := hfree j oj hoj hji hjun hnot
   have h2 := wpOp_putIf (S := S) hoj hap (fun cs b => hsel i oi cs b hi) (fun cs b => hsel j oj cs b hoj) hQ hy (H.2 j (ready_mono hj hji))
   refine wpOp_mono (fun a' w' h3 => ?_) h2
   have hSw := h3.2.1 hsj
   refine ⟨fun _ => hSw, ih _ a' w' (fun k ok hk hki hun hno => ?_) (ready_mono hr (Ne.symm hji)) h3.1 hSw hs ?_⟩
   ·refine hfree k ok hk hki ?_ hno
    by_cases hjk : j = k
    ·subst hjk; exact hjun
    ·rwa [getD_set_ne true hjk] at hun
   ·rw [Array.setIfInBounds_comm _ _ hji]; exact h3.2.2
  ·subst hji; exact hy.wpOp hi hS ⟨fun _ => hS, H⟩
theorem anyT_take2 {i : Nat} {oi : Oper} (v : Value) {f : Nat} {listed : Array Bool} {a : Act} {w : World} (hi : ops[i]? = some oi)
  (hb : (Region.noSelect ops && Region.free md ops listed i && (Region.ready md ops listed).contains i && stopB md ops stop i) = true)
  (hQ : ∀ c a w, Q (.panic c) (a.put oi.dst v) w → Q (.panic c) a w) (hy : YieldsIf P ops S oi v a) (hS : S w)
  (h : anyT P md ops Q S stop f (listed.setIfInBounds i true) (a.put oi.dst v) w) : anyT P md ops Q S stop (f + 1) listed a w := by
 simp only [Bool.and_eq_true] at hb
 obtain ⟨⟨⟨h1, h2⟩, h3⟩, h4⟩ := hb
 unfold stopB at h4
 simp only [Bool.and_eq_true, Bool.not_eq_true'] at h4
 refine anyT_first2 hi (Region.noSelect_spec h1) (fun j oj hoj hs => ?_) hQ f listed a w (Region.free_spec hi h2) (by simpa using h3) hy hS h4.1 h
 have hlt : j < ops.size := (Array.getElem?_eq_some_iff.1 hoj).1
 have h5 := List.all_eq_true.1 h4.2 j (List.mem_range.2 hlt)
 rw [hoj, hs] at h5
 simp only [Bool.not_true, Bool.false_or] at h5
 rw [Array.any_eq_true'] at h5
 obtain ⟨e, he, h6⟩ := h5
 simp only [Bool.and_eq_true, beq_iff_eq] at h6
 exact ⟨e, he, h6.1, h6.2⟩
theorem any_anyT (f : Nat) : ∀ (listed : Array Bool) (a : Act) (w : World), wpAny P md ops Q f listed a w → anyT P md ops Q (fun _ => True) (fun _ => false) f listed a w := by
 induction f with
 | zero => intro listed a w h; exact h
 | succ f ih => intro listed a w h; exact ⟨h.1, fun i hi => wpOp_mono (fun a' w' h' => ⟨fun _ => trivial, ih _ a' w' h'⟩) (h.2 i hi)⟩
theorem move_yields {o : Oper} {x : Operand} (h : o.op = .move x) (hg : o.guard = none) (a : Act) : YieldsIf P ops (fun _ => True) o (a.eval x) a :=
 .inl ⟨by simp [Region.wanted, hg], fun w _ => by unfold execOp; rw [h]; rfl⟩
end
theorem any_region_ext_build2 {Q : Exit → Act → World → Prop} {a : Act} {w : World} {l : List Oper} (m : Nat) (om o0 o1 : Oper) (x0 x1 : Operand) (mk : Nat → Value) (z : Obj) (hQ : ∀ c a w v, (Q (.panic c) (a.put o0.dst v) w → Q (.panic c) a w) ∧ (Q (.panic c) (a.put o1.dst v) w → Q (.panic c) a w))
  (hB' : (Region.noSelect l.toArray && decide (m + 1 < l.length) && decide (2 < m) && sinkF 2 .any l.toArray (m+1) && Region.chainB .any l.toArray (m+1) && Region.lexHead .any l.toArray (l.length - (m+1) + 1) m 0 (Array.replicate l.length false)) = true)
  (hom : l[m]? = some om) (hgm : om.guard = none) (h0 : l[0]? = some o0) (h1 : l[1]? = some o1) (e0 : o0.op = .move x0) (g0 : o0.guard = none) (e1 : o1.op = .move x1) (g1 : o1.guard = none)
  (h : wpV Tryz.prog l.toArray w (fun a' => Makes Tryz.prog om a' mk z ∧ ∀ E d E' d', wpList Tryz.prog l.toArray Q (l.drop (m+1)) (a'.put om.dst (mk (extW w E d).heap.size)) (extW ((extW w E d).alloc z) E' d')) ((l.take m).drop 2) ((a.put o0.dst (a.eval x0)).put o1.dst ((a.put o0.dst (a.eval x0)).eval x1))) : wpAny Tryz.prog .any l.toArray Q l.toArray.size (Array.replicate l.toArray.size false) a { w with drawn := w.drawn + 1 } := by
 simp only [Bool.and_eq_true, decide_eq_true_eq] at hB'
 obtain ⟨⟨⟨⟨⟨hsel, hn⟩, hm2⟩, hs⟩, hc⟩, hlex⟩ := hB'
 obtain ⟨m', rfl⟩ : ∃ m', m = m' + 2 := ⟨m - 2, by omega⟩
 have htl : ((l.take (m'+2)).drop 2).length = m' := by simp; omega
 have hdl : (l.drop (m'+2+1)).length = l.length - (m'+2+1) := by simp
 have hom2 : l.toArray[m'+2]? = some om := by simpa using hom
 have h02 : l.toArray[0]? = some o0 := by simpa using h0
 have h12 : l.toArray[1]? = some o1 := by simpa using h1
 simp only [Region.lexHead, Bool.and_eq_true] at hlex
 obtain ⟨⟨r0, f0⟩, ⟨r1, f1⟩, hlex⟩ := hlex
 have inv0 : HeadInv .any l.toArray (m'+2+1) (Array.replicate l.length false) :=
  ⟨by simp, fun j oj _ hl => (by rw [getD_replicate_false] at hl; cases hl), fun t _ ht => getD_in (by simpa using ht) (getD_replicate_false _ _)⟩
 have inv1 := inv0.set (i := 0) (by simpa using r0) (by omega)
 have inv2 := inv1.set (i := 1) (by simpa using r1) (by omega)
 have H := headI_lex (P := Tryz.prog) (md := .any) (p := 2) (g := l.length - (m'+2+1)) (z := z) (mk := mk) (W := w) hom2 hgm hsel hs hc (by simpa using hn) (fun a ha => ha.1) ((l.take (m'+2)).drop 2) 2 _ ((a.put o0.dst (a.eval x0)).put o1.dst ((a.put o0.dst (a.eval x0)).eval x1)) (Nat.le_refl _) (fun j hj => by
  have hj' : j < m' := by rw [htl] at hj; exact hj
  simp [List.getElem?_drop, List.getElem?_take, Nat.add_comm 2 j, hj']) (by rw [htl]; omega) inv2 (by rw [htl]; exact hlex) h
 have H2 := headB_any (g := l.length - (m'+2+1)) (Q := Q) hom2 hgm (fun listed a' w' hL => by
  obtain ⟨hsq, a0, E, d, E', d', hK, rfl, rfl⟩ := hL
  have := wpAny_of_seq (md := .any) (Q' := Q) (l.drop (m'+2+1)) (m'+2+1) listed (a0.put om.dst (mk (extW w E d).heap.size)) (extW ((extW w E d).alloc z) E' d') (fun j => by simp [List.getElem?_drop]) (by rw [hdl]; exact hsq) (hK.2 E d E' d')
  rwa [hdl] at this) _ _ _ w H #[] (w.drawn + 1)
 rw [htl, extW_self] at H2
 have e : m' + 1 + (l.length - (m' + 2 + 1)) + 1 + 1 = l.length := by omega
 have hsz : l.toArray.size = l.length := by simp
 have key : wpAny Tryz.prog .any l.toArray Q (m' + 1 + (l.length - (m' + 2 + 1)) + 1 + 1) (Array.replicate l.length false) a { w with drawn := w.drawn + 1 } := by
  refine anyT_any (S := fun _ => True) (stop := fun _ => false) _ _ _ _ ?_
  refine anyT_take2 (S := fun _ => True) (stop := fun _ => false) (a.eval x0) h02 (by simp only [Bool.and_eq_true]; exact ⟨⟨⟨hsel, f0⟩, r0⟩, by simp [stopB]⟩) (fun c a w => (hQ c a w _).1) (move_yields e0 g0 a) trivial ?_
  refine anyT_take2 (S := fun _ => True) (stop := fun _ => false) _ h12 (by simp only [Bool.and_eq_true]; exact ⟨⟨⟨hsel, f1⟩, r1⟩, by simp [stopB]⟩) (fun c a w => (hQ c a w _).2) (move_yields e1 g1 _) trivial ?_
  exact any_anyT _ _ _ _ H2
 rw [e] at key
 rw [hsz]
 exact key
theorem wp_region_ext_build2 {id : Nat} {Q : Exit → Act → World → Prop} {a : Act} {w : World} {l : List Oper} (m : Nat) (om o0 o1 : Oper) (x0 x1 : Operand) (mk : Nat → Value) (z : Obj) (hQ : ∀ c a w v, (Q (.panic c) (a.put o0.dst v) w → Q (.panic c) a w) ∧ (Q (.panic c) (a.put o1.dst v) w → Q (.panic c) a w)) (hm : Tryz.prog.follows .mixedOrders = true)
  (hB' : (Region.noSelect l.toArray && decide (m + 1 < l.length) && decide (2 < m) && sinkF 2 .any l.toArray (m+1) && Region.chainB .any l.toArray (m+1) && Region.lexHead .any l.toArray (l.length - (m+1) + 1) m 0 (Array.replicate l.length false)) = true)
  (hom : l[m]? = some om) (hgm : om.guard = none) (h0 : l[0]? = some o0) (h1 : l[1]? = some o1) (e0 : o0.op = .move x0) (g0 : o0.guard = none) (e1 : o1.op = .move x1) (g1 : o1.guard = none)
  (h : wpV Tryz.prog l.toArray w (fun a' => Makes Tryz.prog om a' mk z ∧ ∀ E d E' d', wpList Tryz.prog l.toArray Q (l.drop (m+1)) (a'.put om.dst (mk (extW w E d).heap.size)) (extW ((extW w E d).alloc z) E' d')) ((l.take m).drop 2) ((a.put o0.dst (a.eval x0)).put o1.dst ((a.put o0.dst (a.eval x0)).eval x1))) : (Code.region id l.toArray true).wp Tryz.prog Q a w := wp_region_any hm (any_region_ext_build2 m om o0 o1 x0 x1 mk z hQ hB' hom hgm h0 h1 e0 g0 e1 g1 h)
end
section
open Go.RowKit
open Cl
theorem BelowX.setM' {base mb : Nat} {W w : World} (h : BelowX base mb W w) (i : Nat) (v : Value) : BelowX base mb W (w.setCell ⟨mb, i, none⟩ v) :=
 ⟨h.os, h.tape, h.output, by rw [World.size_setCell]; exact h.size, fun k hk hm => (Below.heap_setCell _ _ _ k (fun e => hm (by rw [e]))).trans (h.block k hk hm)⟩
theorem BelowX.then' {base mb : Nat} {W w w' : World} (h : BelowX base mb W w) (hb : Below base w w') : BelowX base mb W w' :=
 ⟨hb.os.trans h.os, hb.tape.trans h.tape, hb.output.trans h.output, Nat.le_trans h.size hb.size, fun k hk hm => (hb.block k hk).trans (h.block k hk hm)⟩
theorem bools_row {w : World} {base n : Nat} {v : Value} {bs : List Bool} (hn : 0 < n) (hl : bs.length = n) (h : w.ownsRow base 4 1 v n (bs.map Value.bool)) : ∃ g m c f, v = .slice (some ⟨g, 0, none⟩) n c ∧ base ≤ g ∧ w.rowIs g 4 m f ∧ n ≤ m ∧ ∀ j, j < n → f j = .bool (bs.getD j false) := by
 rcases h.2 with ⟨h1, h2⟩ | ⟨g, cap, cur, h1, h2, h3, h4, h5, h6, h7⟩
 ·omega
 ·refine ⟨g, cap, cap, fun j => cur.toList.getD j (.int .i64 0), h1, h2, ⟨cur, h3, by omega, fun i hi => ?_⟩, h4, fun j hj => ?_⟩
  ·have : i < cur.toList.length := by simp; omega
   show cur[i]? = some (cur.toList.getD i (.int .i64 0))
   rw [List.getD_eq_getElem?_getD, List.getElem?_eq_getElem this, Option.getD_some]
   simp
  ·have e : (cur.toList.take (n * 1))[j]? = (bs.map Value.bool)[j]? := by rw [h7]
   rw [List.getElem?_take, if_pos (by omega), List.getElem?_map, List.getElem?_eq_getElem (show j < bs.length by omega)] at e
   simp only [List.getD_eq_getElem?_getD, e, List.getElem?_eq_getElem (show j < bs.length by omega), Option.map_some, Option.getD_some]
def TInv (N rb k : Nat) (R : Nat → Nat → Bool) (w : World) : Prop :=
 ∃ (blk cap : Nat → Nat), w.rowIs rb 23 N (fun s => if s < k then .slice (some ⟨blk s, 0, none⟩) N (cap s) else .slice none 0 0) ∧
  (∀ s, s < k → ∃ m f, w.rowIs (blk s) 4 m f ∧ N ≤ m ∧ ∀ a, a < N → f a = .bool (R s a)) ∧ ((∀ s s', s < k → s' < k → blk s = blk s' → s = s') ∧ ∀ s, s < k → rb < blk s)
section
variable {N rb k : Nat} {R : Nat → Nat → Bool} {w w' : World}
theorem TInv.below (h : TInv N rb k R w) (hb : Below w.heap.size w w') : TInv N rb k R w' := by
 obtain ⟨blk, cap, h1, h2, h3⟩ := h
 refine ⟨blk, cap, rowBelow h1 hb h1.lt, fun s hs => ?_, h3⟩
 obtain ⟨m, f, g1, g2, g3⟩ := h2 s hs
 exact ⟨m, f, rowBelow g1 hb g1.lt, g2, g3⟩
theorem TInv.lt (h : TInv N rb k R w) : rb < w.heap.size := by
 obtain ⟨_, _, h1, _⟩ := h
 exact h1.lt
theorem TInv.cong {R' : Nat → Nat → Bool} (h : TInv N rb k R w) (e : ∀ s a, s < k → a < N → R s a = R' s a) : TInv N rb k R' w := by
 obtain ⟨blk, cap, h1, h2, h3⟩ := h
 refine ⟨blk, cap, h1, fun s hs => ?_, h3⟩
 obtain ⟨m, f, g1, g2, g3⟩ := h2 s hs
 exact ⟨m, f, g1, g2, fun a ha => by rw [g3 a ha, e s a hs ha]⟩
theorem TInv.get (h : TInv N rb N R w) : ∃ blk cap : Nat → Nat, LtW rb w ∧ (∀ s, s < N → w.cell? ⟨rb, s, none⟩ = some (.slice (some ⟨blk s, 0, none⟩) N (cap s)) ∧ LtW (blk s) w ∧ (∀ a, w.frozen? ⟨blk s, a, none⟩ = false) ∧ ∀ a, a < N → w.cell? ⟨blk s, a, none⟩ = some (.bool (R s a))) ∧
  ∀ a b v, a < N → b < N → rb < blk a ∧ TInv N rb N (fun x y => if x = a ∧ y = b then v else R x y) (w.setCell ⟨blk a, b, none⟩ (.bool v)) := by
 obtain ⟨blk, cap, h1, h2, h3⟩ := h
 refine ⟨blk, cap, h1.lt, fun s hs => ?_, fun a b v ha hb => ?_⟩
 ·obtain ⟨m, f, g1, g2, g3⟩ := h2 s hs
  refine ⟨?_, g1.lt, fun a => g1.frozen a, fun a ha => ?_⟩
  ·rw [h1.cell hs, if_pos hs]
  ·rw [g1.cell (by omega), g3 a ha]
 ·obtain ⟨ma, fa, ga, _, _⟩ := h2 a ha
  refine ⟨h3.2 a ha, blk, cap, h1.setOther (rowIs_ne_type h1 ga (by decide)) _, fun s hs => ?_, h3⟩
  obtain ⟨m, f, g1, g2, g3⟩ := h2 s hs
  by_cases e : s = a
  ·subst e
   refine ⟨m, _, g1.set b _, g2, fun y hy => ?_⟩
   by_cases e2 : y = b
   ·subst e2; simp
   ·simp only [e2, if_false, and_false]; exact g3 y hy
  ·refine ⟨m, f, g1.setOther (fun e2 => e (h3.1 s a hs ha e2)) _, g2, fun y hy => ?_⟩
   simp only [e, false_and, if_false]; exact g3 y hy
end
def Rk (ab : Nat → Nat → Bool) (k a b x y : Nat) : Bool := if x < a ∨ (x = a ∧ y < b) then wp ab (k+1) x y else wp ab k x y
theorem Rk_new (ab : Nat → Nat → Bool) (k a b : Nat) : wp ab (k+1) a b = (Rk ab k a b a b || (Rk ab k a b a k && Rk ab k a b k b)) := by
 have h1 : Rk ab k a b a b = wp ab k a b := by unfold Rk; rw [if_neg (by omega)]
 have h2 : Rk ab k a b a k = wp ab k a k := by unfold Rk; split <;> simp [wp_col]
 have h3 : Rk ab k a b k b = wp ab k k b := by unfold Rk; split <;> simp [wp_row]
 rw [h1, h2, h3]; rfl
theorem Rk_step (ab : Nat → Nat → Bool) (k a b x y : Nat) : Rk ab k a (b+1) x y = if x = a ∧ y = b then wp ab (k+1) a b else Rk ab k a b x y := by
 by_cases e : x = a ∧ y = b
 ·obtain ⟨rfl, rfl⟩ := e
  unfold Rk; rw [if_pos (by omega), if_pos ⟨rfl, rfl⟩]
 ·rw [if_neg e]
  unfold Rk
  by_cases h : x < a ∨ (x = a ∧ y < b)
  ·rw [if_pos h, if_pos (by omega)]
  ·rw [if_neg h, if_neg (by omega)]
theorem Rk_row (ab : Nat → Nat → Bool) (k a N x y : Nat) (hy : y < N) : Rk ab k a N x y = Rk ab k (a+1) 0 x y := by
 unfold Rk
 by_cases h : x < a ∨ (x = a ∧ y < N)
 ·rw [if_pos h, if_pos (by omega)]
 ·rw [if_neg h, if_neg (by omega)]
theorem lfLy30 {P : Prop} (h : P := by
 have cR2 : w2.cell? ⟨rb, k, none⟩ = some v := (hb2.cell (p := ⟨rb, k, none⟩) (by simp; omega)).trans cRE
 have fR2 : w2.frozen? ⟨rb, k, none⟩ = false := (hb2.frozen (p := ⟨rb, k, none⟩) (by simp; omega)).trans fRE
 have lR2 : LtW rb w2 := by unfold LtW; have := hb2.size; omega
 obtain ⟨A', cp', rfl⟩ := own_form hown2
 have HO2 := Lib.hid (ownsRow_setCell_below hown2 (a := ⟨rb, k, none⟩) (by simp; omega) (.slice A' (b + 1) cp'))
 have HX2 := Lib.hid ((HXE.out.then' hb2).setM' k (.slice A' (b + 1) cp'))
 have HR2 := Lib.hid ((rowBelow HRE.out hb2 hrbb).set k (.slice A' (b + 1) cp'))
 clear hown2 hb2 cRE fRE
 go_wp2
 go_roundw
 case rel => exact ⟨b + 1, .slice A' (b + 1) cp', by omega, by go_num, HR2.out.congr (fun i hi => by by_cases e : i = k <;> simp [e]), by rw [HBT.out, HV.out, List.map_append]; exact HO2.out, HX2.out⟩
 case measure => simp [intOf]; omega) : P := h
set_option maxRecDepth 100000 in
set_option maxHeartbeats 8000000 in
theorem rTable_any (W H : Nat) (a : Option Addr) (n c : Nat) (bs : List Bool) (w : World) (hi : IsBools w a n bs) (h1 : W ≤ 64) (h2 : H ≤ 64) (hn : n = W * H) :
  Calls Tryz.prog 57 #[.agg #[.int .i64 (W), .int .i64 (H), .slice a n c]] w fun e w' => ∃ rb, e = .returned (.slice (some ⟨rb, 0, none⟩) (W+H) (W+H)) ∧ TInv (W+H) rb (W+H) (wp (abM W H bs) (W+H)) w' ∧ Below w.heap.size w w' := by
 have hNl : W + H ≤ 128 := by omega
 have HAB := Lib.hid (fun w (h : IsBools w a n bs) i j hi hj => r8Above_any W H a n c bs w h h1 h2 hn i j hi hj)
 have HI := Lib.hid hi
 have v1 : IntKind.i64.wrap ((W : Int) + (H : Int)) = (W : Int) + (H : Int) := IntWalk.i64_in _ (by omega)
 clear hi hn
 obtain ⟨N, hN⟩ : ∃ N, W + H = N := ⟨_, rfl⟩
 have hNi : (W : Int) + (H : Int) = (N : Int) := by omega
 rw [hN] at HAB hNl ⊢
 have HN := Lib.hid hN
 generalize abM W H bs = ab at *
 clear hN
 have hmk1 := makeRow okRowsB rfl N (by omega) (by omega)
 go_enter Tryz.func57, Tryz.ntmps57
 go_wp2_with fail
 clear v1
 have hq := tF_alloc w W H (.slice a n c) rfl
 have hT0 : (((w.alloc (.cells #[.int .i64 (W), .int .i64 (H), .slice a n c] 25)).alloc (.cells (madeCells #[.slice none 0 0] N) 23))).rowIs (w.heap.size+1) 23 N (fun _ => .slice none 0 0) := by
  have := World.rowIs_made (w.alloc (.cells #[.int .i64 (W), .int .i64 (H), .slice a n c] 25)) (.slice none 0 0) N 23
  simpa using this
 have hb0 : Below w.heap.size w (((w.alloc (.cells #[.int .i64 (W), .int .i64 (H), .slice a n c] 25)).alloc (.cells (madeCells #[.slice none 0 0] N) 23))) := blw
 have hq2 := hq.alloc (.cells (madeCells #[.slice none 0 0] N) 23)
 have hsz : (((w.alloc (.cells #[.int .i64 (W), .int .i64 (H), .slice a n c] 25)).alloc (.cells (madeCells #[.slice none 0 0] N) 23))).heap.size = w.heap.size + 2 := by simp
 generalize (((w.alloc (.cells #[.int .i64 (W), .int .i64 (H), .slice a n c] 25)).alloc (.cells (madeCells #[.slice none 0 0] N) 23))) = W0 at *
 obtain ⟨q, hqe⟩ : ∃ q, w.heap.size = q := ⟨_, rfl⟩
 rw [hqe] at hq2 hT0 hb0 hsz ⊢
 obtain ⟨rb, hrb⟩ : ∃ rb, q + 1 = rb := ⟨_, rfl⟩
 rw [hrb] at hT0 ⊢
 have hqr : q < rb := by omega
 have HQ := Lib.hid hq2
 have HT0 := Lib.hid hT0
 have HB0 := Lib.hid hb0
 have HQE := Lib.hid hqe
 have hrs : rb < W0.heap.size := by omega
 clear hq hq2 hT0 hb0 hsz hqe hrb hmk1 hNi
 go_loopw [19] (fun i wr => ∃ k : Nat, k ≤ N ∧ i = .int .i64 k ∧ TInv N rb k (wp ab 0) wr ∧ Below rb W0 wr) (fun i _ => N - (intOf i).toNat)
 case atStart => exact ⟨0, Nat.zero_le _, rfl, ⟨fun _ => 0, fun _ => 0, HT0.out, fun s h => absurd h (by omega), ⟨fun s s' h => absurd h (by omega), fun s h => absurd h (by omega)⟩⟩, Below.refl _ _⟩
 case round =>
  obtain ⟨k, hk, rfl, hT, hbel⟩ := hrel
  have hrl := hT.lt
  by_cases hkN : k < N
  ·obtain ⟨blk, cap, t1, t2, t3⟩ := hT
   have HT2 := Lib.hid t2
   have HT3 := Lib.hid t3
   have HT1 := Lib.hid t1
   have HBE := Lib.hid hbel
   obtain ⟨base, hbase⟩ : ∃ b, b = wr.heap.size := ⟨_, rfl⟩
   have HBS := Lib.hid hbase
   have hrbb : rb < base := by omega
   clear t1 t2 t3 hbel hrl
   go_wp2_with fail
   clear hbase
   go_loopw [6] (fun i wq => ∃ (b : Nat) (v : Value), b ≤ N ∧ i = .int .i64 b ∧ wq.rowIs rb 23 N (fun s => if s = k then v else if s < k then .slice (some ⟨blk s, 0, none⟩) N (cap s) else .slice none 0 0) ∧ wq.ownsRow base 4 1 v b ((bT (fun x => wp ab 0 k x) b).map Value.bool) ∧ BelowX base rb wr wq) (fun i _ => N - (intOf i).toNat)
   case atStart =>
    refine ⟨0, _, Nat.zero_le _, rfl, HT1.out.congr (fun i hi => ?_), World.ownsRow_nil _ _ _ _, BelowX.refl (by rw [HBS.out]; exact Nat.le_refl _)⟩
    by_cases e : i = k
    ·subst e; simp
    ·rw [if_neg e]
   case round =>
    obtain ⟨b, v, hb, rfl, hrow, hown, hX⟩ := hrel
    by_cases hbN : b < N
    ·have cR := hrow.cell hkN
     simp only [if_true] at cR
     have fR := hrow.frozen k
     have lR : LtW rb wr := hrow.lt
     have hwq : Below rb W0 wr := HBE.out.trans (hX.below HBS.out.symm (Nat.le_refl _) hrbb)
     have hqr2 := rowBelow HQ.out hwq hqr
     have q0 : wr.cell? ⟨q, 0, none⟩ = some (.int .i64 (W)) := hqr2.cell (i := 0) (by omega)
     have q1 : wr.cell? ⟨q, 1, none⟩ = some (.int .i64 (H)) := hqr2.cell (i := 1) (by omega)
     have q2 : wr.cell? ⟨q, 2, none⟩ = some (.slice a n c) := hqr2.cell (i := 2) (by omega)
     have lq : LtW q wr := hqr2.lt
     have HIW := Lib.hid (HI.out.below (show Below w.heap.size w wr by rw [HQE.out]; exact HB0.out.trans (hwq.mono (by omega))))
     have HO := Lib.hid hown; have HX := Lib.hid hX; have HRW := Lib.hid hrow
     have hlb : (bT (fun x => wp ab 0 k x) b).length ≤ 1000 := by rw [bT_len]; omega
     have HBT := Lib.hid (bT_succ (fun x => wp ab 0 k x) b)
     have hszX := hX.size
     have g0 : (0 : Int) ≤ (k : Int) := by omega
     have g1 : (k : Int) < (N : Int) := by omega
     clear hwq hqr2 hown hX hrow
     generalize bT (fun x => wp ab 0 k x) b = L at *
     by_cases hkb : k = b
     ·have hkd : ((k : Int) == (b : Int)) = true := by simp [hkb]
      have hkd2 : (k == b) = true := by simp [hkb]
      have HV : Hid (wp ab 0 k b = true) := Lib.hid (by rw [hkb]; exact wp_self ab 0 b)
      have hkb2 : k ≤ b ∧ b ≤ k := by omega
      clear hkb
      go_wp2_with fail
      (refine wp_region_ext_build2 15 _ _ _ _ _ mkOne (.cells #[.bool true] 4) ?hq (by kernel_rfl) (by kernel_rfl) rfl rfl rfl rfl rfl rfl rfl rfl ?_; (case hq => exact fun c a w v => ⟨fun h => h, fun h => h⟩); simp only [List.take_succ_cons, List.take_zero, List.drop_succ_cons, List.drop_zero]; go_simp; (repeat (first | ((with_reducible refine wpV_step (fun K hK => ?_)); go_simp; first | (refine hK _ ?_; clear hK K) | (apply Exists.intro; refine ⟨fun _ _ => ?_, hK _ ?_⟩; fail; clear hK K)))); refine wpV_nil ?_; refine ⟨fun W => by go_simp; rfl, fun E d E' d' => ?_⟩)
      have hbE := built_below wr E d (.cells #[.bool true] 4) E' d'
      have hcs := fun j u h => built_cell wr E d #[.bool true] 4 E' d' j u h
      simp only [size_extW] at hcs
      have HCS := Lib.hid hcs
      clear hcs
      have cRE := bCs hbE cR
      have fRE := (hbE.frozen (p := ⟨rb, k, none⟩) (show rb < wr.heap.size from lR)).trans fR
      have HOE := Lib.hid (ownBelow HO.out hbE)
      have hgE := Nat.le_trans hszX hbE.size
      have HXE := Lib.hid (HX.out.then' (hbE.mono hszX))
      have HRE := Lib.hid (rowBelow HRW.out hbE lR)
      clear hbE cR fR
      generalize extW ((extW wr E d).alloc (.cells #[.bool true] 4)) E' d' = WE at *
      generalize wr.heap.size + E.size = BB at *
      go_wp2_with (at_builtin; refine wpAppB okBools rfl (.tmp 32) (.tmp 42) rfl base _ _ _ #[.bool true] BB rfl HOE.out rfl HCS.out rfl ?_ (by omega) (by omega) (by omega) ?_)
      ·simp [Value.oneCell']
      intro v' w2 hown2 hb2
      exact lfLy30
     ·have hkd : ((k : Int) == (b : Int)) = false := by simp; omega
      have hkd2 : (k == b) = false := by simp [hkb]
      have HV : Hid (wp ab 0 k b = ab k b) := Lib.hid (by simp [wp, hkb])
      have HA := Lib.hid (fun w h => HAB.out w h k b hkN hbN)
      obtain ⟨bit, hbit⟩ : ∃ t, ab k b = t := ⟨_, rfl⟩
      rw [hbit] at HV HA
      have hlts : k < b ∨ b < k := by omega
      clear hkb hbit
      go_wp2_with fail
      (refine wp_region_ext_build2 15 _ _ _ _ _ mkOne (.cells #[.bool bit] 4) ?hq (by kernel_rfl) (by kernel_rfl) rfl rfl rfl rfl rfl rfl rfl rfl ?_; (case hq => exact fun c a w v => ⟨fun h => h, fun h => h⟩); simp only [List.take_succ_cons, List.take_zero, List.drop_succ_cons, List.drop_zero]; go_simp; (repeat (first | ((with_reducible refine wpV_step (fun K hK => ?_)); go_simp; first | (refine hK _ ?_; clear hK K) | (apply Exists.intro; refine ⟨fun _ _ => ?_, hK _ ?_⟩; (go_at_call 95; exact vOf (HA.out _ (HIW.out.below blw))); clear hK K)))); refine wpV_nil ?_; refine ⟨fun W => by go_simp; rfl, fun E d E' d' => ?_⟩)
      have hbE := built_below wr E d (.cells #[.bool bit] 4) E' d'
      have hcs := fun j u h => built_cell wr E d #[.bool bit] 4 E' d' j u h
      simp only [size_extW] at hcs
      have HCS := Lib.hid hcs
      clear hcs
      have cRE := bCs hbE cR
      have fRE := (hbE.frozen (p := ⟨rb, k, none⟩) (show rb < wr.heap.size from lR)).trans fR
      have HOE := Lib.hid (ownBelow HO.out hbE)
      have hgE := Nat.le_trans hszX hbE.size
      have HXE := Lib.hid (HX.out.then' (hbE.mono hszX))
      have HRE := Lib.hid (rowBelow HRW.out hbE lR)
      clear hbE cR fR
      generalize extW ((extW wr E d).alloc (.cells #[.bool bit] 4)) E' d' = WE at *
      generalize wr.heap.size + E.size = BB at *
      go_wp2_with (at_builtin; refine wpAppB okBools rfl (.tmp 32) (.tmp 42) rfl base _ _ _ #[.bool bit] BB rfl HOE.out rfl HCS.out rfl ?_ (by omega) (by omega) (by omega) ?_)
      ·simp [Value.oneCell']
      intro v' w2 hown2 hb2
      exact lfLy30
    ·obtain rfl : N = b := by omega
     obtain ⟨g, m, cp, f, rfl, hg1, hg2, hg3, hg4⟩ := bools_row (by omega) (bT_len _ _) hown
     have HXB := Lib.hid (HBE.out.trans (hX.below HBS.out.symm (Nat.le_refl _) hrbb))
     have HTN : Hid (TInv N rb (k+1) (wp ab 0) wr) := Lib.hid (by
      refine ⟨fun s => if s = k then g else blk s, fun s => if s = k then cp else cap s, hrow.congr (fun i hi => ?_), fun s hs => ?_, fun s s' hs hs' e => ?_, fun s hs => ?_⟩
      ·by_cases e : i = k
       ·subst e; simp
       ·simp only [e, if_false]
        by_cases e2 : i < k
        ·rw [if_pos e2, if_pos (by omega)]
        ·rw [if_neg e2, if_neg (by omega)]
      ·by_cases e : s = k
       ·subst e
        simp only [if_true]
        exact ⟨m, f, hg2, hg3, fun a ha => by rw [hg4 a ha, bT_get _ ha]⟩
       ·simp only [e, if_false]
        obtain ⟨m2, f2, q1, q2, q3⟩ := HT2.out s (by omega)
        refine ⟨m2, f2, hX.rowIs q1 (by rw [HBS.out]; exact q1.lt) (rowIs_ne_type q1 HT1.out (by decide)), q2, q3⟩
      ·have hlt : ∀ s, s < k → blk s < base := fun s hs => by
        obtain ⟨m2, f2, q1, _⟩ := HT2.out s hs
        rw [HBS.out]; exact q1.lt
       by_cases e1 : s = k
       ·by_cases e2 : s' = k
        ·rw [e1, e2]
        ·simp only [e1, e2, if_true, if_false] at e
         have := hlt s' (by omega); omega
       ·by_cases e2 : s' = k
        ·simp only [e1, e2, if_true, if_false] at e
         have := hlt s (by omega); omega
        ·simp only [e1, e2, if_false] at e
         exact HT3.out.1 s s' (by omega) (by omega) e
      ·by_cases e : s = k
       ·simp only [e, if_true]; omega
       ·simp only [e, if_false]; exact HT3.out.2 s (by omega))
     clear hrow hown hX hg2 hg4
     go_wp2
     go_roundw
     case rel => exact ⟨k + 1, by omega, by go_num, HTN.out, HXB.out⟩
     case measure => simp [intOf]; omega
  ·obtain rfl : N = k := by omega
   have HT := Lib.hid hT
   have HBE := Lib.hid hbel
   clear hT hbel
   go_wp2_with fail
   go_loopw [7] (fun i wq => ∃ k : Nat, k ≤ N ∧ i = .int .i64 k ∧ TInv N rb N (wp ab k) wq ∧ Below rb W0 wq) (fun i _ => N - (intOf i).toNat)
   case atStart => exact ⟨0, Nat.zero_le _, rfl, HT.out, HBE.out⟩
   case round =>
    clear HT HBE
    obtain ⟨k, hk, rfl, hT, hbel⟩ := hrel
    have HT := Lib.hid hT
    have HBE := Lib.hid hbel
    clear hT hbel
    by_cases hkN : k < N
    ·go_wp2_with fail
     go_loopw [8] (fun i wq => ∃ a : Nat, a ≤ N ∧ i = .int .i64 a ∧ TInv N rb N (Rk ab k a 0) wq ∧ Below rb W0 wq) (fun i _ => N - (intOf i).toNat)
     case atStart => exact ⟨0, Nat.zero_le _, rfl, HT.out.cong (fun s a _ _ => by unfold Rk; rw [if_neg (by omega)]), HBE.out⟩
     case round =>
      clear HT HBE
      obtain ⟨a, ha, rfl, hT, hbel⟩ := hrel
      have HT := Lib.hid hT
      have HBE := Lib.hid hbel
      clear hT hbel
      by_cases haN : a < N
      ·go_wp2_with fail
       go_loopw [9] (fun i wq => ∃ b : Nat, b ≤ N ∧ i = .int .i64 b ∧ TInv N rb N (Rk ab k a b) wq ∧ Below rb W0 wq) (fun i _ => N - (intOf i).toNat)
       case atStart => exact ⟨0, Nat.zero_le _, rfl, HT.out, HBE.out⟩
       case round =>
        clear HT HBE
        obtain ⟨b, hb, rfl, hT, hbel⟩ := hrel
        have HBE := Lib.hid hbel
        clear hbel
        by_cases hbN : b < N
        ·obtain ⟨blk, cap, lrb, hrows, hupd⟩ := hT.get
         obtain ⟨c1, l1, f1, r1⟩ := hrows a haN
         obtain ⟨c2, l2, _, r2⟩ := hrows k hkN
         have f1 := f1 b
         have a1 := r1 b hbN
         have a2 := r1 k hkN
         have a3 := r2 b hbN
         have hnew := Rk_new ab k a b
         have HUP : Hid (∀ E d, TInv N rb N (Rk ab k a (b+1)) (extW (wr.setCell ⟨blk a, b, none⟩ (.bool (wp ab (k+1) a b))) E d)) := Lib.hid fun E d => by
          have h1 := ((hupd a b (wp ab (k+1) a b) haN hbN).2.cong (R' := Rk ab k a (b+1)) (fun s x _ _ => (Rk_step ab k a b s x).symm))
          exact h1.below (bExtW (Below.refl _ _) (Nat.le_refl _))
         have hbr := (hupd a b true haN hbN).1
         have i0 : (0 : Int) ≤ (a : Int) := by omega
         have i1 : (a : Int) < (N : Int) := by omega
         have i2 : (0 : Int) ≤ (b : Int) := by omega
         have i3 : (b : Int) < (N : Int) := by omega
         have i4 : (0 : Int) ≤ (k : Int) := by omega
         have i5 : (k : Int) < (N : Int) := by omega
         clear hrows hupd r1 r2 hT
         generalize blk a = ba at *
         generalize blk k = bk at *
         generalize cap a = ca at *
         generalize cap k = ck at *
         generalize Rk ab k a b a b = p at *
         generalize Rk ab k a b a k = q1 at *
         generalize Rk ab k a b k b = q2 at *
         have HSZ := Lib.hid lrb.lt
         cases p with
         | true =>
          rw [Bool.true_or] at hnew
          rw [hnew] at HUP
          clear hnew a2 a3
          go_wp2_with fail
          (refine wp_region_ext_tail 30 (by kernel_rfl) (by kernel_rfl) ?_; simp only [List.take_succ_cons, List.take_zero, List.drop_succ_cons, List.drop_zero]; (repeat (first | ((with_reducible refine ext_step (fun K hK => ?_)); go_simp; first | (refine hK _ ?_; clear hK K) | (apply Exists.intro; refine ⟨fun _ _ => ?_, hK _ ?_⟩; fail; clear hK K)))); refine wpQuiet_nil ?_; intro E d)
          go_wp2
          go_roundw
          case rel => exact ⟨b + 1, by omega, by go_num, HUP.out E d, bExtW (HBE.out.setCell (p := ⟨ba, b, none⟩) (by simp; omega) (.bool true)) (by rw [World.size_setCell]; have := HSZ.out; omega)⟩
          case measure => simp [intOf]; omega
         | false =>
          rw [Bool.false_or] at hnew
          cases q1 with
          | false =>
           rw [Bool.false_and] at hnew
           rw [hnew] at HUP
           clear hnew a3
           go_wp2_with fail
           (refine wp_region_ext_tail 30 (by kernel_rfl) (by kernel_rfl) ?_; simp only [List.take_succ_cons, List.take_zero, List.drop_succ_cons, List.drop_zero]; (repeat (first | ((with_reducible refine ext_step (fun K hK => ?_)); go_simp; first | (refine hK _ ?_; clear hK K) | (apply Exists.intro; refine ⟨fun _ _ => ?_, hK _ ?_⟩; fail; clear hK K)))); refine wpQuiet_nil ?_; intro E d)
           go_wp2
           go_roundw
           case rel => exact ⟨b + 1, by omega, by go_num, HUP.out E d, bExtW (HBE.out.setCell (p := ⟨ba, b, none⟩) (by simp; omega) (.bool false)) (by rw [World.size_setCell]; have := HSZ.out; omega)⟩
           case measure => simp [intOf]; omega
          | true =>
           rw [Bool.true_and] at hnew
           rw [hnew] at HUP
           clear hnew
           go_wp2_with fail
           (refine wp_region_ext_tail 30 (by kernel_rfl) (by kernel_rfl) ?_; simp only [List.take_succ_cons, List.take_zero, List.drop_succ_cons, List.drop_zero]; (repeat (first | ((with_reducible refine ext_step (fun K hK => ?_)); go_simp; first | (refine hK _ ?_; clear hK K) | (apply Exists.intro; refine ⟨fun _ _ => ?_, hK _ ?_⟩; fail; clear hK K)))); refine wpQuiet_nil ?_; intro E d)
           go_wp2
           go_roundw
           case rel => exact ⟨b + 1, by omega, by go_num, HUP.out E d, bExtW (HBE.out.setCell (p := ⟨ba, b, none⟩) (by simp; omega) (.bool q2)) (by rw [World.size_setCell]; have := HSZ.out; omega)⟩
           case measure => simp [intOf]; omega
        ·obtain rfl : N = b := by omega
         have HT := Lib.hid (hT.cong (R' := Rk ab k (a+1) 0) (fun s x _ hx => Rk_row ab k a N s x hx))
         clear hT
         go_wp2
         go_roundw
         case rel => exact ⟨a + 1, by omega, by go_num, HT.out, HBE.out⟩
         case measure => simp [intOf]; omega
      ·obtain rfl : N = a := by omega
       have HT2 := Lib.hid (HT.out.cong (R' := wp ab (k+1)) (fun s x hs hx => by unfold Rk; rw [if_pos (by omega)]))
       clear HT
       go_wp2
       go_roundw
       case rel => exact ⟨k + 1, by omega, by go_num, HT2.out, HBE.out⟩
       case measure => simp [intOf]; omega
    ·obtain rfl : N = k := by omega
     go_wp2
     go_ret
     rw [HQE.out]
     exact ⟨rb, rfl, HT.out, HB0.out.trans (HBE.out.mono (by omega))⟩
end
end Go.Proofs.YtajdoobkfbdgoaaGreatDoor
