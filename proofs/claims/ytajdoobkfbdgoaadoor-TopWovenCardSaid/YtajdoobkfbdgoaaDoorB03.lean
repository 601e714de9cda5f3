/- Lemmas on which the law of this seat rests; each states its own conditions. -/
import Derived.Test.YtajdoobkfbdgoaaDoorB01
import Derived.StillTail
import Derived.Test.YtajdoobkfbdgoaaDoorB02
import Derived.WalkSmall
import Derived.IntWalk
import Derived.RangeFuncNested
import Derived.RangeFuncBox
import Derived.RangeFuncBound
import Derived.RangeFuncCalls
import Derived.RangeFuncLeaves
import Derived.Shelf.Abstract
import Derived.OwnWalkIn
import Derived.TacticsInMore
import Derived.LoopNIn
import Derived.LoopIn
set_option linter.unusedVariables false
set_option linter.unusedSimpArgs false
namespace Go.Proofs.YtajdoobkfbdgoaaDoor
section
open Go.RowKit
theorem extW_self (W : World) (d : Nat) : extW W #[] d = { W with drawn := d } := by simp [extW]
theorem alloc_extW (W : World) (E : Array Obj) (d : Nat) (o : Obj) : (extW W E d).alloc o = extW W (E.push o) d := by
 unfold World.alloc extW
 simp only
 rw [show (W.heap ++ E).push o = W.heap ++ E.push o by simp]
def cellInt (w : World) (b o : Nat) : Int := match w.cell? ⟨b, o, none⟩ with | some (.int _ n) => n | _ => 0
theorem cellInt_of {w : World} {b o : Nat} {n : Int} (h : w.cell? ⟨b, o, none⟩ = some (.int .i64 n)) : cellInt w b o = n := by unfold cellInt; rw [h]
theorem extW_zero (W : World) : W = extW W #[] W.drawn := by simp [extW]
theorem extW_extW (W : World) (E F : Array Obj) (d e : Nat) : extW (extW W E d) F e = extW W (E ++ F) e := by simp [extW, Array.append_assoc]
def ExtOf (W w : World) : Prop := ∃ E d, w = extW W E d
theorem extOf {f : FuncId} {args : Array Value} {W : World} {E : Array Obj} {d : Nat} {v : Value}
  (h : Calls Tryd.prog f args (extW W E d) fun e w' => e = .returned v ∧ Below (extW W E d).heap.size (extW W E d) w') :
  Calls Tryd.prog f args (extW W E d) fun e w' => e = .returned v ∧ ∃ E d, w' = extW W E d :=
 h.mono fun e w' ⟨he, hb⟩ => by
  obtain ⟨F, k, rfl⟩ := bExt hb
  exact ⟨he, E ++ F, k, extW_extW W E F d k⟩
theorem ext_step {W : World} {ops : Array Oper} {Q : Act → Prop} {a : Act} {o : Oper} {rest : List Oper}
  (h : ∀ K : Act → Prop, (∀ a, wpQuiet Tryd.prog ops (fun w' => ∃ E d, w' = extW W E d) Q rest a → K a) →
   if Region.wanted o (yielded ops a.tmps) then ∃ v, (∀ E d, Oper.quietAt Tryd.prog o a (fun w' => ∃ E d, w' = extW W E d) (extW W E d) v) ∧ K (a.put o.dst v) else K (a.put o.dst undef)) :
  wpQuiet Tryd.prog ops (fun w' => ∃ E d, w' = extW W E d) Q (o :: rest) a := by
 refine wpQuiet_step fun K hK => ?_
 have := h K hK
 split
 ·rename_i hw
  rw [if_pos hw] at this
  obtain ⟨v, h1, h2⟩ := this
  exact ⟨v, fun w' ⟨E, d, e⟩ => e ▸ h1 E d, h2⟩
 ·rename_i hw
  rwa [if_neg hw] at this
theorem wp_region_ext {id : Nat} {Q : Exit → Act → World → Prop} {a : Act} {w : World} {l : List Oper} (hm : Tryd.prog.follows .mixedOrders = true) (hB : Region.lexB .any l.toArray = true)
  (h : wpQuiet Tryd.prog l.toArray (fun w' => ∃ E d, w' = extW w E d) (fun a' => ∀ E d, Q .normal a' (extW w E d)) l a) : (Code.region id l.toArray true).wp Tryd.prog Q a w := by
 refine wp_region_quiet (C := fun w' => ∃ E d, w' = extW w E d) hm hB ⟨#[], w.drawn + 1, by rw [extW_self]⟩ ?_
 have e : (fun a' => ∀ w', (∃ E d, w' = extW w E d) → Q .normal a' w') = fun a' => ∀ E d, Q .normal a' (extW w E d) := by
  funext a'
  exact propext ⟨fun h E d => h _ ⟨E, d, rfl⟩, fun h w' ⟨E, d, e⟩ => e ▸ h E d⟩
 rw [e]
 simpa using h
section
variable {P : Program} {ops : Array Oper} {md : Region.Mode} {C : World → Prop}
def headQ (P : Program) (md : Region.Mode) (ops : Array Oper) (C : World → Prop) (n : Nat) (L : Array Bool → Act → Prop) : Nat → Array Bool → Act → Prop
 | 0, listed, a => L listed a
 | f + 1, listed, a => Region.ready md ops listed ≠ [] ∧ ∀ i ∈ Region.ready md ops listed, i < n ∧ qOp P ops C i (headQ P md ops C n L f (listed.setIfInBounds i true)) a
theorem headQ_any {n g : Nat} {L : Array Bool → Act → Prop} {Q : Exit → Act → World → Prop} (hL : ∀ listed a w, C w → L listed a → wpAny P md ops Q g listed a w) (f : Nat) :
  ∀ (listed : Array Bool) (a : Act) (w : World), C w → headQ P md ops C n L f listed a → wpAny P md ops Q (f + g) listed a w := by
 induction f with
 | zero => intro listed a w hw h; rw [Nat.zero_add]; exact hL _ _ _ hw h
 | succ f ih =>
  intro listed a w hw h
  rw [show f + 1 + g = (f + g) + 1 by omega]
  exact ⟨fun h0 => absurd h0 h.1, fun i hi => wpOp_of_qOp hw (fun a' w' hw' h' => ih _ a' w' hw' h') (h.2 i hi).2⟩
theorem headQ_first {n i : Nat} {oi : Oper} {v : Value} {L : Array Bool → Act → Prop} (hi : ops[i]? = some oi) (hsel : ∀ (j : Nat) (o : Oper) cs b, ops[j]? = some o → o.op ≠ .select cs b)
  (hs : Region.sinkB md ops n = true) (hc : Region.chainB md ops n = true) (hn : n < ops.size) (hin : i < n)
  (hdone : ∀ listed a, L listed a → ∀ j ∈ Region.ready md ops listed, n ≤ j) (f : Nat) :
  ∀ (listed : Array Bool) (a : Act), HeadInv md ops n listed →
   (∀ j oj, ops[j]? = some oj → j ≠ i → listed.getD j true = false → (∀ e ∈ oj.after, Region.binds md e = true → e.on ≠ i) → oi.apart ops oj = true) →
   i ∈ Region.ready md ops listed → YieldsIn P ops C oi v a →
   headQ P md ops C n L f (listed.setIfInBounds i true) (a.put oi.dst v) → headQ P md ops C n L (f + 1) listed a := by
 induction f with
 | zero =>
  intro listed a inv _ hr hy H
  refine ⟨List.ne_nil_of_mem hr, fun j hj => ?_⟩
  have hjn : j < n := Nat.lt_of_not_le fun h => tail_waits hs hc hn inv _ i rfl hin (mem_ready.1 hr).1 j h hj
  refine ⟨hjn, ?_⟩
  by_cases hji : j = i
  ·subst hji; exact hy.qOp hi H
  ·exact absurd (hdone _ _ H j (ready_mono hj hji)) (by omega)
 | succ f ih =>
  intro listed a inv hfree hr hy H
  refine ⟨List.ne_nil_of_mem hr, fun j hj => ?_⟩
  have hjn : j < n := Nat.lt_of_not_le fun h => tail_waits hs hc hn inv _ i rfl hin (mem_ready.1 hr).1 j h hj
  refine ⟨hjn, ?_⟩
  by_cases hji : j = i
  ·subst hji; exact hy.qOp hi H
  ·obtain ⟨hjun, oj, hoj, hall⟩ := mem_ready.1 hj
   have hnot : ∀ e ∈ oj.after, Region.binds md e = true → e.on ≠ i := by
    intro e he hb heq
    have h1 := hall e he hb
    rw [heq, getD_both (mem_ready.1 hr).1] at h1
    cases h1
   have h2 := qOp_put hoj (hfree j oj hoj hji hjun hnot) (fun cs b => hsel i oi cs b hi) (fun cs b => hsel j oj cs b hoj) hy (H.2 j (ready_mono hj hji)).2
   refine qOp_mono (fun a' h3 => ih (listed.setIfInBounds j true) a' (inv.set hj hjn) (fun k ok hk hki hun hno => ?_) (ready_mono hr (Ne.symm hji)) h3.1 ?_) h2
   ·refine hfree k ok hk hki ?_ hno
    by_cases hjk : j = k
    ·subst hjk; exact hjun
    ·rwa [getD_set_ne true hjk] at hun
   ·rw [Array.setIfInBounds_comm _ _ hji]
    exact h3.2
theorem headQ_lex {n g : Nat} {K : Act → Prop} (hsel : Region.noSelect ops = true) (hs : Region.sinkB md ops n = true) (hc : Region.chainB md ops n = true) (hn : n < ops.size) (l : List Oper) :
  ∀ (k : Nat) (listed : Array Bool) (a : Act), (∀ j, j < l.length → l[j]? = ops[k + j]?) → k + l.length = n → HeadInv md ops n listed →
  Region.lexHead md ops g l.length k listed = true → wpQuiet P ops C K l a →
  headQ P md ops C n (fun listed' a' => Region.seqB md ops g n listed' = true ∧ K a') l.length listed a := by
 induction l with
 | nil =>
  intro k listed a _ hk _ hB h
  have hkn : k = n := by simpa using hk
  subst hkn
  exact ⟨by simpa [Region.lexHead] using hB, h⟩
 | cons o l ih =>
  intro k listed a hl hk inv hB h
  have h0 : ops[k]? = some o := by simpa using (hl 0 (by simp)).symm
  simp only [List.length_cons, Region.lexHead, Bool.and_eq_true] at hB
  obtain ⟨⟨hr, hf⟩, hB'⟩ := hB
  have hkn : k < n := by simp only [List.length_cons] at hk; omega
  have hr' : k ∈ Region.ready md ops listed := by simpa using hr
  obtain ⟨v, hy, hK⟩ := yieldsIn_of_qOp (P := P) (C := C) (K := wpQuiet P ops C K l) (a := a) h0 (by unfold qOp; simp only [h0]; exact h)
  exact headQ_first h0 (Region.noSelect_spec hsel) hs hc hn hkn (fun listed' a' hL => seqB_ready hL.1) l.length listed a inv (Region.free_spec h0 hf) hr' hy
   (ih (k + 1) _ _ (fun j hj => by have := hl (j + 1) (by simp; omega); simpa [Nat.add_assoc, Nat.add_comm 1 j] using this) (by simp only [List.length_cons] at hk; omega) (inv.set hr' hkn) hB' hK)
end
theorem any_region_ext_tail {Q : Exit → Act → World → Prop} {a : Act} {w : World} {l : List Oper} (n : Nat) (hm : Tryd.prog.follows .mixedOrders = true) (hB : Region.lexTailB .any l.toArray n = true)
  (h : wpQuiet Tryd.prog l.toArray (fun w' => ∃ E d, w' = extW w E d) (fun a' => ∀ E d, wpList Tryd.prog l.toArray Q (l.drop n) a' (extW w E d)) (l.take n) a) : wpAny Tryd.prog .any l.toArray Q l.toArray.size (Array.replicate l.toArray.size false) a { w with drawn := w.drawn + 1 } := by
 simp only [Region.lexTailB, Bool.and_eq_true, decide_eq_true_eq] at hB
 obtain ⟨⟨⟨⟨hsel, hn⟩, hs⟩, hc⟩, hlex⟩ := hB
 have hn' : n < l.length := by simpa using hn
 have htl : (l.take n).length = n := by simp; omega
 have hdl : (l.drop n).length = l.toArray.size - n := by simp
 have inv0 : HeadInv .any l.toArray n (Array.replicate l.toArray.size false) :=
  ⟨by simp, fun j oj _ hl => (by rw [getD_replicate_false] at hl; cases hl), fun t _ ht => getD_in (by simpa using ht) (getD_replicate_false _ _)⟩
 have H := headQ_lex (md := .any) (g := l.toArray.size - n) hsel hs hc hn (l.take n) 0 _ a (fun j hj => by
  have hj' : j < n := by rw [htl] at hj; exact hj
  simp [hj']) (by simpa using htl) inv0 (by rw [htl]; exact hlex) h
 have := headQ_any (Q := Q) (g := l.toArray.size - n) (fun listed a' w' hw' hL => by
  obtain ⟨E, d, rfl⟩ := hw'
  have := wpAny_of_seq (md := .any) (Q' := Q) (l.drop n) n listed a' (extW w E d) (fun j => by simp [List.getElem?_drop]) (by rw [hdl]; exact hL.1) (hL.2 E d)
  rwa [hdl] at this) _ _ _ { w with drawn := w.drawn + 1 } ⟨#[], w.drawn + 1, by rw [extW_self]⟩ H
 rw [htl, show n + (l.toArray.size - n) = l.toArray.size by omega] at this
 exact this
theorem wp_region_ext_tail {id : Nat} {Q : Exit → Act → World → Prop} {a : Act} {w : World} {l : List Oper} (n : Nat) (hm : Tryd.prog.follows .mixedOrders = true) (hB : Region.lexTailB .any l.toArray n = true)
  (h : wpQuiet Tryd.prog l.toArray (fun w' => ∃ E d, w' = extW w E d) (fun a' => ∀ E d, wpList Tryd.prog l.toArray Q (l.drop n) a' (extW w E d)) (l.take n) a) : (Code.region id l.toArray true).wp Tryd.prog Q a w := wp_region_any hm (any_region_ext_tail n hm hB h)
theorem vOf {f : FuncId} {args : Array Value} {W : World} {v : Value}
  (h : Calls Tryd.prog f args W fun e w' => e = .returned v ∧ Below W.heap.size W w') :
  Calls Tryd.prog f args W fun e w' => e = .returned v ∧ ∃ E d, w' = extW W E d :=
 h.mono fun e w' ⟨he, hb⟩ => ⟨he, bExt hb⟩
section
variable {P : Program} {ops : Array Oper} {md : Region.Mode}
theorem extOf_refl (W : World) : ∃ E d, W = extW W E d := ⟨#[], W.drawn, by rw [extW_self]⟩
def headV (P : Program) (md : Region.Mode) (ops : Array Oper) (n m : Nat) (dst : Option Tmp) (z : Obj) (L : Array Bool → Act → World → Prop) : Nat → Array Bool → Act → World → Prop
  | 0, listed, a, W => ∀ E d, L listed a (extW W E d)
  | f + 1, listed, a, W => Region.ready md ops listed ≠ [] ∧ ∀ i ∈ Region.ready md ops listed, i < n ∧
      ((i = m → ∀ E d, headV P md ops n m dst z L f (listed.setIfInBounds i true) (a.put dst (.pointer (some ⟨(extW W E d).heap.size, 0, none⟩))) ((extW W E d).alloc z)) ∧
       (i ≠ m → qOp P ops (fun w => ∃ E d, w = extW W E d) i (fun a' => headV P md ops n m dst z L f (listed.setIfInBounds i true) a' W) a))
theorem headV_any {n m g : Nat} {om : Oper} {z : Obj} {L : Array Bool → Act → World → Prop} {Q : Exit → Act → World → Prop} (hom : ops[m]? = some om) (hgd : om.guard = none)
  (hal : ∀ (a : Act) (w : World) (K : Act → World → Prop), K (a.put om.dst (.pointer (some ⟨w.heap.size, 0, none⟩))) (w.alloc z) → om.wp P a w K Q)
  (hL : ∀ listed a w, L listed a w → wpAny P md ops Q g listed a w) (f : Nat) :
  ∀ (listed : Array Bool) (a : Act) (W : World), headV P md ops n m om.dst z L f listed a W → ∀ E d, wpAny P md ops Q (f + g) listed a (extW W E d) := by
 induction f with
 | zero => intro listed a W h E d; rw [Nat.zero_add]; exact hL _ _ _ (h E d)
 | succ f ih =>
  intro listed a W h E d
  rw [show f + 1 + g = (f + g) + 1 by omega]
  refine ⟨fun h0 => absurd h0 h.1, fun i hi => ?_⟩
  obtain ⟨_, h1, h2⟩ := h.2 i hi
  by_cases him : i = m
  ·subst him
   unfold wpOp
   simp only [hom, Region.wanted, hgd, if_true]
   refine .inl (hal _ _ _ ?_)
   have := ih _ _ _ (h1 rfl E d) #[] ((extW W E d).alloc z).drawn
   rwa [extW_self] at this
  ·refine wpOp_of_qOp (C := fun w => ∃ E d, w = extW W E d) ⟨E, d, rfl⟩ (fun a' w' hw' h' => ?_) (h2 him)
   obtain ⟨E', d', rfl⟩ := hw'
   exact ih _ _ _ h' E' d'
theorem headV_first {n m i : Nat} {oi om : Oper} {v : Value} {z : Obj} {L : Array Bool → Act → World → Prop} (hi : ops[i]? = some oi) (hom : ops[m]? = some om) (hgm : om.guard = none) (hsel : ∀ (j : Nat) (o : Oper) cs b, ops[j]? = some o → o.op ≠ .select cs b)
  (hs : Region.sinkB md ops n = true) (hc : Region.chainB md ops n = true) (hn : n < ops.size) (hin : i < n) (him : i ≠ m)
  (hdone : ∀ listed a w, L listed a w → ∀ j ∈ Region.ready md ops listed, n ≤ j) (W0 : World) (f : Nat) :
  ∀ (listed : Array Bool) (a : Act) (W : World), (∃ E d, W = extW W0 E d) → HeadInv md ops n listed →
   (∀ j oj, ops[j]? = some oj → j ≠ i → listed.getD j true = false → (∀ e ∈ oj.after, Region.binds md e = true → e.on ≠ i) → oi.apart ops oj = true) →
   i ∈ Region.ready md ops listed → (∀ E d, YieldsIn P ops (fun w => ∃ F e, w = extW (extW W0 E d) F e) oi v a) →
   headV P md ops n m om.dst z L f (listed.setIfInBounds i true) (a.put oi.dst v) W → headV P md ops n m om.dst z L (f + 1) listed a W := by
 have eat : ∀ E d F e, extW (extW W0 E d) F e = extW W0 (E ++ F) e := fun E d F e => extW_extW W0 E F d e
 induction f with
 | zero =>
  intro listed a W hW inv _ hr hy H
  obtain ⟨E0, d0, rfl⟩ := hW
  refine ⟨List.ne_nil_of_mem hr, fun j hj => ?_⟩
  have hjn : j < n := Nat.lt_of_not_le fun h => tail_waits hs hc hn inv _ i rfl hin (mem_ready.1 hr).1 j h hj
  refine ⟨hjn, ?_⟩
  by_cases hji : j = i
  ·subst hji; exact ⟨fun h => absurd h him, fun _ => (hy E0 d0).qOp hi H⟩
  ·exact absurd (hdone _ _ _ (H #[] 0) j (ready_mono hj hji)) (by omega)
 | succ f ih =>
  intro listed a W hW inv hfree hr hy H
  obtain ⟨E0, d0, rfl⟩ := hW
  refine ⟨List.ne_nil_of_mem hr, fun j hj => ?_⟩
  have hjn : j < n := Nat.lt_of_not_le fun h => tail_waits hs hc hn inv _ i rfl hin (mem_ready.1 hr).1 j h hj
  refine ⟨hjn, ?_⟩
  by_cases hji : j = i
  ·subst hji; exact ⟨fun h => absurd h him, fun _ => (hy E0 d0).qOp hi H⟩
  ·obtain ⟨hjun, oj, hoj, hall⟩ := mem_ready.1 hj
   have hnot : ∀ e ∈ oj.after, Region.binds md e = true → e.on ≠ i := by
    intro e he hb heq
    have h1 := hall e he hb
    rw [heq, getD_both (mem_ready.1 hr).1] at h1
    cases h1
   have hap := hfree j oj hoj hji hjun hnot
   have hfree' : ∀ k ok, ops[k]? = some ok → k ≠ i → (listed.setIfInBounds j true).getD k true = false → (∀ e ∈ ok.after, Region.binds md e = true → e.on ≠ i) → oi.apart ops ok = true := by
    intro k ok hk hki hun hno
    refine hfree k ok hk hki ?_ hno
    by_cases hjk : j = k
    ·subst hjk; exact hjun
    ·rwa [getD_set_ne true hjk] at hun
   obtain ⟨_, H1, H2⟩ := H.2 j (ready_mono hj hji)
   obtain ⟨p1, p2, p3⟩ := Oper.apart_spec hap
   constructor
   ·intro hjm E d
    have e : oj = om := by subst hjm; exact Option.some.inj (hoj.symm.trans hom)
    subst e
    have H3 := H1 hjm E d
    refine ih _ _ _ ?_ (inv.set hj hjn) hfree' (ready_mono hr (Ne.symm hji)) (fun E' d' => ?_) ?_
    ·rw [eat]
     exact ⟨(E0 ++ E).push z, d, by simp [extW, World.alloc]⟩
    ·exact (hy E' d').of_same (execOp_put oi (fun cs b => hsel i oi cs b hi) a _ _ p3) (wanted_put oi a _ _ p3)
    ·rw [Array.setIfInBounds_comm _ _ hji, Act.put_comm a v _ p2] at *
     exact H3
   ·intro hjm
    have h2 := qOp_put hoj hap (fun cs b => hsel i oi cs b hi) (fun cs b => hsel j oj cs b hoj) (hy E0 d0) (H2 hjm)
    -- what oi yields does not hang on what oj has left
    unfold qOp at h2 ⊢
    simp only [hoj] at h2 ⊢
    have keep : ∀ u, ∀ E d, YieldsIn P ops (fun w => ∃ F e, w = extW (extW W0 E d) F e) oi v (a.put oj.dst u) := fun u E d =>
     (hy E d).of_same (execOp_put oi (fun cs b => hsel i oi cs b hi) a oj.dst u p3) (wanted_put oi a oj.dst u p3)
    split
    ·rename_i hw
     simp only [hw, if_true] at h2
     obtain ⟨u, hu, _, h3⟩ := h2
     refine ⟨u, hu, ih _ _ _ ⟨E0, d0, rfl⟩ (inv.set hj hjn) hfree' (ready_mono hr (Ne.symm hji)) (keep u) ?_⟩
     rw [Array.setIfInBounds_comm _ _ hji]
     exact h3
    ·rename_i hw
     simp only [hw] at h2
     refine ih _ _ _ ⟨E0, d0, rfl⟩ (inv.set hj hjn) hfree' (ready_mono hr (Ne.symm hji)) (keep undef) ?_
     rw [Array.setIfInBounds_comm _ _ hji]
     exact h2.2
theorem quietAt_mono {o : Oper} {a : Act} {C C' : World → Prop} {w : World} {v : Value} (hC : ∀ w, C w → C' w) (h : o.quietAt P a C w v) : o.quietAt P a C' w v := by
 unfold Oper.quietAt at *
 cases hr : (execOp a.eval o).run P w with
 | ok x w' =>
  rw [hr] at h
  cases x
  case enter f args => exact ⟨h.1, h.2.mono fun e w'' ⟨h1, h2⟩ => ⟨h1, hC _ h2⟩⟩
  all_goals exact h
 | halt x w' => rw [hr] at h; exact h
def wpV (P : Program) (ops : Array Oper) (W : World) (K : Act → Prop) : List Oper → Act → Prop
 | [], a => K a
 | o :: rest, a => if Region.wanted o (yielded ops a.tmps) then ∃ v, (∀ E d, o.quietAt P a (fun w' => ∃ F e, w' = extW (extW W E d) F e) (extW W E d) v) ∧ wpV P ops W K rest (a.put o.dst v)
   else wpV P ops W K rest (a.put o.dst undef)
theorem wpV_nil {W : World} {K : Act → Prop} {a : Act} (h : K a) : wpV P ops W K [] a := h
theorem wpV_step {W : World} {Q : Act → Prop} {a : Act} {o : Oper} {rest : List Oper}
  (h : ∀ K : Act → Prop, (∀ a, wpV P ops W Q rest a → K a) →
   if Region.wanted o (yielded ops a.tmps) then ∃ v, (∀ E d, o.quietAt P a (fun w' => ∃ F e, w' = extW (extW W E d) F e) (extW W E d) v) ∧ K (a.put o.dst v) else K (a.put o.dst undef)) :
  wpV P ops W Q (o :: rest) a := h _ fun _ h => h
theorem headV_lex {m : Nat} {g : Nat} {om : Oper} {z : Obj} {K : Act → Prop} {W : World} (hom : ops[m]? = some om) (hgm : om.guard = none) (hsel : Region.noSelect ops = true) (hs : Region.sinkB md ops (m+1) = true) (hc : Region.chainB md ops (m+1) = true) (hn : m + 1 < ops.size) (l : List Oper) :
  ∀ (k : Nat) (listed : Array Bool) (a : Act), (∀ j, j < l.length → l[j]? = ops[k + j]?) → k + l.length = m → HeadInv md ops (m+1) listed →
  Region.lexHead md ops (g+1) l.length k listed = true → wpV P ops W K l a →
  headV P md ops (m+1) m om.dst z (fun listed' a' w' => Region.seqB md ops g (m+1) listed' = true ∧ ∃ a0 E d E' d', K a0 ∧ a' = a0.put om.dst (.pointer (some ⟨(extW W E d).heap.size, 0, none⟩)) ∧ w' = extW ((extW W E d).alloc z) E' d') (l.length + 1) listed a W := by
 induction l with
 | nil =>
  intro k listed a _ hk inv hB h
  have hkn : k = m := by simpa using hk
  subst hkn
  simp only [List.length_nil, Region.lexHead, Region.seqB, Bool.and_eq_true, decide_eq_true_eq] at hB
  refine ⟨by rw [hB.1]; simp, fun i hi => ?_⟩
  rw [hB.1] at hi
  have hik : i = k := by simpa using hi
  subst hik
  exact ⟨by omega, fun _ E d E' d' => ⟨hB.2, a, E, d, E', d', h, rfl, rfl⟩, fun h => absurd rfl h⟩
 | cons o l ih =>
  intro k listed a hl hk inv hB h
  have h0 : ops[k]? = some o := by simpa using (hl 0 (by simp)).symm
  simp only [List.length_cons, Region.lexHead, Bool.and_eq_true] at hB
  obtain ⟨⟨hr, hf⟩, hB'⟩ := hB
  have hkn : k < m := by simp only [List.length_cons] at hk; omega
  have hr' : k ∈ Region.ready md ops listed := by simpa using hr
  have step : ∃ v, (∀ E d, YieldsIn P ops (fun w => ∃ F e, w = extW (extW W E d) F e) o v a) ∧ wpV P ops W K l (a.put o.dst v) := by
   unfold wpV at h
   by_cases hw : Region.wanted o (yielded ops a.tmps) = true
   ·rw [if_pos hw] at h
    obtain ⟨v, h1, h2⟩ := h
    refine ⟨v, fun E d => .inl ⟨hw, fun w hwC => ?_⟩, h2⟩
    obtain ⟨F, e, rfl⟩ := hwC
    rw [extW_extW]
    refine quietAt_mono (fun w' hw' => ?_) (h1 (E ++ F) e)
    obtain ⟨F', e', rfl⟩ := hw'
    exact ⟨F ++ F', e', by rw [extW_extW, extW_extW, Array.append_assoc]⟩
   ·rw [if_neg hw] at h
    exact ⟨undef, fun E d => .inr ⟨by simpa using hw, rfl⟩, h⟩
  obtain ⟨v, hy, hK⟩ := step
  exact headV_first h0 hom hgm (Region.noSelect_spec hsel) hs hc hn (by omega) (by omega) (fun listed' a' w' hL => seqB_ready hL.1) W (l.length + 1) listed a W (extOf_refl W) inv (Region.free_spec h0 hf) hr' hy
   (ih (k + 1) _ _ (fun j hj => by have := hl (j + 1) (by simp; omega); simpa [Nat.add_assoc, Nat.add_comm 1 j] using this) (by simp only [List.length_cons] at hk; omega) (inv.set hr' (by omega)) hB' hK)
end
theorem wp_region_ext_alloc {id : Nat} {Q : Exit → Act → World → Prop} {a : Act} {w : World} {l : List Oper} (m : Nat) (t : TypeId) (dst : Option Tmp) (z : Obj) (hm : Tryd.prog.follows .mixedOrders = true) (hB' : (Region.noSelect l.toArray && decide (m + 1 < l.length) && Region.sinkB .any l.toArray (m+1) && Region.chainB .any l.toArray (m+1) && Region.lexHead .any l.toArray (l.length - (m+1) + 1) m 0 (Array.replicate l.length false)) = true)
  (hom : (l[m]?).map (fun o => (o.op, o.guard, o.dst)) = some (.alloc t, none, dst))
  (hal : ∀ w : World, Sem.run Tryd.prog (Instr.alloc t true (.tuple #[])) w = .ok (.pointer (some ⟨w.heap.size, 0, none⟩)) (w.alloc z))
  (h : wpV Tryd.prog l.toArray w (fun a' => ∀ E d E' d', wpList Tryd.prog l.toArray Q (l.drop (m+1)) (a'.put dst (.pointer (some ⟨(extW w E d).heap.size, 0, none⟩))) (extW ((extW w E d).alloc z) E' d')) (l.take m) a) : (Code.region id l.toArray true).wp Tryd.prog Q a w := by
 simp only [Bool.and_eq_true, decide_eq_true_eq] at hB'
 obtain ⟨⟨⟨⟨hsel, hn⟩, hs⟩, hc⟩, hlex⟩ := hB'
 obtain ⟨om, hom', he⟩ := Option.map_eq_some_iff.1 hom
 simp only [Prod.mk.injEq] at he
 obtain ⟨e1, e2, rfl⟩ := he
 have htl : (l.take m).length = m := by simp; omega
 have hdl : (l.drop (m+1)).length = l.length - (m+1) := by simp
 have inv0 : HeadInv .any l.toArray (m+1) (Array.replicate l.length false) :=
  ⟨by simp, fun j oj _ hl => (by rw [getD_replicate_false] at hl; cases hl), fun t _ ht => getD_in (by simpa using ht) (getD_replicate_false _ _)⟩
 have hom2 : l.toArray[m]? = some om := by simpa using hom'
 have H := headV_lex (P := Tryd.prog) (md := .any) (g := l.length - (m+1)) (z := z) (W := w) hom2 e2 hsel hs hc (by simpa using hn) (l.take m) 0 _ a (fun j hj => by
  have hj' : j < m := by rw [htl] at hj; exact hj
  simp [hj']) (by simpa using htl) inv0 (by rw [htl]; exact hlex) h
 refine wp_region_any hm ?_
 have hal' : ∀ (a : Act) (w : World) (K : Act → World → Prop), K (a.put om.dst (.pointer (some ⟨w.heap.size, 0, none⟩))) (w.alloc z) → om.wp Tryd.prog a w K Q := by
  intro a w K hK
  unfold Oper.wp
  simp [execOp, e1, hal, Result.andThen]
  exact hK
 have := headV_any (g := l.length - (m+1)) (Q := Q) hom2 e2 hal' (fun listed a' w' hL => by
  obtain ⟨hsq, a0, E, d, E', d', hK, rfl, rfl⟩ := hL
  have := wpAny_of_seq (md := .any) (Q' := Q) (l.drop (m+1)) (m+1) listed (a0.put om.dst (.pointer (some ⟨(extW w E d).heap.size, 0, none⟩))) (extW ((extW w E d).alloc z) E' d') (fun j => by simp [List.getElem?_drop]) (by rw [hdl]; exact hsq) (hK E d E' d')
  rwa [hdl] at this) _ _ _ w H #[] (w.drawn + 1)
 rw [htl, extW_self] at this
 have e : m + 1 + (l.length - (m + 1)) = l.length := by omega
 rw [e] at this
 simpa using this
end
section
open Go.RowKit
theorem ExtOf.rf (B : World) : ExtOf B B := ⟨#[], B.drawn, extW_zero B⟩
theorem ExtOf.al {B w : World} (h : ExtOf B w) (o : Obj) : ExtOf B (w.alloc o) := by
 obtain ⟨E, d, rfl⟩ := h
 exact ⟨E.push o, d, alloc_extW B E d o⟩
theorem ExtOf.ex {B w : World} (h : ExtOf B w) (F : Array Obj) (e : Nat) : ExtOf B (extW w F e) := by
 obtain ⟨E, d, rfl⟩ := h
 exact ⟨E ++ F, e, extW_extW B E F d e⟩
end
section
open Go.RowKit
def IsBools (w : World) (a : Option Addr) (n : Nat) (bs : List Bool) : Prop :=
 bs.length = n ∧ (0 < n → ∃ b o, a = some ⟨b, o, none⟩ ∧ b < w.heap.size ∧ ∀ j, j < n → w.cell? ⟨b, o + j, none⟩ = some (.bool (bs.getD j false)))
theorem IsBools.below {w w' : World} {a : Option Addr} {n : Nat} {bs : List Bool} (h : IsBools w a n bs) (hb : Below w.heap.size w w') : IsBools w' a n bs := by
 refine ⟨h.1, fun hn => ?_⟩
 obtain ⟨b, o, h1, h2, h3⟩ := h.2 hn
 exact ⟨b, o, h1, Nat.lt_of_lt_of_le h2 hb.size, fun j hj => bCs hb (h3 j hj)⟩
theorem IsBools.of_owns {w : World} {base : Nat} {v : Value} {n : Nat} {bs : List Bool} (hn : bs.length = n) (h : w.ownsRow base 4 1 v n (bs.map Value.bool)) : ∃ a c, v = .slice a n c ∧ IsBools w a n bs := by
 rcases h.2 with ⟨rfl, rfl⟩ | ⟨g, cap, cur, rfl, _⟩
 ·exact ⟨none, 0, rfl, hn, fun h => by omega⟩
 ·refine ⟨some ⟨g, 0, none⟩, cap, rfl, hn, fun hp => ⟨g, 0, rfl, ?_, fun j hj => ?_⟩⟩
  ·have h0 := h.cellAt 0 (by omega)
   rw [List.getElem?_map, List.getElem?_eq_getElem (by omega : 0 < bs.length)] at h0
   exact World.block_lt_of_cell? w _ h0
  ·have h0 := h.cellAt j (by omega)
   rw [Nat.zero_add, h0, List.getElem?_map, List.getElem?_eq_getElem (by omega : j < bs.length)]
   simp [List.getD, List.getElem?_eq_getElem (by omega : j < bs.length)]
theorem IsInts.of_owns {w : World} {base : Nat} {v : Value} {n : Nat} {zs : List Int} (hn : zs.length = n) (h : w.ownsRow base 3 1 v n (zs.map (Value.int .i64))) : ∃ a c, v = .slice a n c ∧ IsInts w a n zs := by
 rcases h.2 with ⟨rfl, rfl⟩ | ⟨g, cap, cur, rfl, _⟩
 ·exact ⟨none, 0, rfl, hn, fun h => by omega⟩
 ·refine ⟨some ⟨g, 0, none⟩, cap, rfl, hn, fun hp => ⟨g, 0, rfl, ?_, fun j hj => ?_⟩⟩
  ·have h0 := h.cellAt 0 (by omega)
   rw [List.getElem?_map, List.getElem?_eq_getElem (by omega : 0 < zs.length)] at h0
   exact World.block_lt_of_cell? w _ h0
  ·have h0 := h.cellAt j (by omega)
   rw [Nat.zero_add, h0, List.getElem?_map, List.getElem?_eq_getElem (by omega : j < zs.length)]
   simp [List.getD, List.getElem?_eq_getElem (by omega : j < zs.length)]
theorem okBools : ElemOk 31 4 1 1 (.bool false) := ⟨Tryd.underlying31, by kernel_rfl, rfl, by omega⟩
theorem okInts' : ElemOk 23 3 1 8 (.int .i64 0) := ⟨Tryd.underlying23, by kernel_rfl, rfl, by omega⟩
def wrT (W H : Int) (n : Nat) : Int := if W < 0 ∨ 64 < W ∨ H < 0 ∨ 64 < H then 3 else if (n : Int) ≠ W * H then 8 else 0
theorem mul64 {W H : Int} (h : ¬ (W < 0 ∨ 64 < W ∨ H < 0 ∨ 64 < H)) : 0 ≤ W * H ∧ W * H ≤ 4096 := by
 have h1 : 0 ≤ W * H := Int.mul_nonneg (by omega) (by omega)
 have h2 : W * H ≤ 64 * 64 := Int.mul_le_mul (by omega) (by omega) (by omega) (by omega)
 omega
set_option maxRecDepth 100000 in
set_option maxHeartbeats 8000000 in
theorem tWrong_any (W H : Int) (a : Option Addr) (n c : Nat) (w : World) (h1 : (-9223372036854775808 ≤ W ∧ W ≤ 9223372036854775807)) (h2 : (-9223372036854775808 ≤ H ∧ H ≤ 9223372036854775807)) (h3 : n ≤ 9223372036854775807) :
  Calls Tryd.prog 31 #[.agg #[.int .i64 (W), .int .i64 (H), .slice a n c]] w fun e w' => e = .returned (.int .i64 (wrT W H n)) ∧ Below w.heap.size w w' := by
 by_cases hr : W < 0 ∨ 64 < W ∨ H < 0 ∨ 64 < H
 ·have HT : Hid (wrT W H n = 3) := Lib.hid (by simp only [wrT, hr, if_true])
  rcases (show W < 0 ∨ (0 ≤ W ∧ 64 < W) ∨ (0 ≤ W ∧ W ≤ 64 ∧ H < 0) ∨ (0 ≤ W ∧ W ≤ 64 ∧ 0 ≤ H ∧ 64 < H) by omega) with h | ⟨h, h'⟩ | ⟨h, h', h''⟩ | ⟨h, h', h'', h3⟩
  all_goals
   clear hr
   go_enter Tryd.func31, Tryd.ntmps31
   go_wp2
   go_ret
   exact ⟨by rw [HT.out]; rfl, blw⟩
 ·have hm := mul64 hr
  have hr' : 0 ≤ W ∧ W ≤ 64 ∧ 0 ≤ H ∧ H ≤ 64 := by omega
  obtain ⟨r1, r2, r3, r4⟩ := hr'
  by_cases he : (n : Int) = W * H
  ·have HT : Hid (wrT W H n = 0) := Lib.hid (by simp only [wrT, hr, if_false]; simp [he])
   have hb : ((n : Int) != W * H) = false := by simpa using he
   clear hr he
   go_enter Tryd.func31, Tryd.ntmps31
   go_wp2
   go_ret
   exact ⟨by rw [HT.out]; rfl, blw⟩
  ·have HT : Hid (wrT W H n = 8) := Lib.hid (by simp only [wrT, hr, if_false]; simp [he])
   have hb : ((n : Int) != W * H) = true := by simpa using he
   clear hr he
   go_enter Tryd.func31, Tryd.ntmps31
   go_wp2
   go_ret
   exact ⟨by rw [HT.out]; rfl, blw⟩
end
section
open Go.RowKit
def chE (G W H : Int) (n : Nat) (cs : List Int) : Int :=
 if G ≠ 4 ∧ G ≠ 6 then 1 else if W < 1 ∨ 64 < W ∨ H < 1 ∨ 64 < H then 3 else if (n : Int) ≠ W * H then 8 else if ∃ x ∈ cs, x < 0 ∨ 62 ≤ x then 3 else 0
theorem chE_ok {G : Int} {W H n : Nat} {cs : List Int} (hG : G = 4 ∨ G = 6) (hW : 1 ≤ W) (hW2 : W ≤ 64) (hH : 1 ≤ H) (hH2 : H ≤ 64) (hn : n = W * H) (hc : ∀ x ∈ cs, 0 ≤ x ∧ x < 62) : chE G W H n cs = 0 := by
 unfold chE
 rw [if_neg (by omega), if_neg (by omega), if_neg (by rw [hn, Int.natCast_mul]; simp), if_neg (by rintro ⟨x, hx, e⟩; have := hc x hx; omega)]
theorem lfCh11 {P : Prop} (h : P := by
 go_wp2
 go_ret
 exact ⟨by rw [HT.out]; rfl, blw⟩) : P := h
set_option maxRecDepth 100000 in
theorem lfCh10 {P : Prop} (h : P := by
 go_wp2_with fail
 go_loopw [46] (fun i wr => ∃ (k : Nat) (E : Array Obj) (d : Nat), k ≤ n ∧ i = .int .i64 k ∧ Hid (∀ j, j < k → 0 ≤ cs.getD j 0 ∧ cs.getD j 0 < 62) ∧ wr = extW (w.alloc (.cells #[.int .i64 (G), .int .i64 (W), .int .i64 (H), .slice a n c] 25)) E d) (fun i _ => n - (intOf i).toNat)
 case atStart => exact ⟨0, #[], _, by omega, rfl, Lib.hid fun j h => absurd h (by omega), extW_zero _⟩
 case round =>
  obtain ⟨k, E, d, hk, rfl, HK, rfl⟩ := hrel
  by_cases hkn : k < n
  ·obtain ⟨b, o, rfl, hb, hc⟩ := HI.out.2 (by omega)
   have c0 := hc k hkn
   have lb : LtW b w := hb
   have HM : Hid (cs.getD k 0 ∈ cs) := Lib.hid (by
    have hkl : k < cs.length := by rw [HI.out.1]; exact hkn
    rw [List.getD_eq_getElem?_getD, List.getElem?_eq_getElem hkl]
    exact List.getElem_mem hkl)
   obtain ⟨x, hx⟩ : ∃ x, cs.getD k 0 = x := ⟨_, rfl⟩
   rw [hx] at c0 HM
   have HX := Lib.hid hx
   clear hc hb hx
   by_cases h1 : x < 0
   ·have HT := Lib.hid (HBAD.out ⟨x, HM.out, .inl h1⟩)
    exact lfCh11
   ·by_cases h2 : 62 ≤ x
    ·have HT := Lib.hid (HBAD.out ⟨x, HM.out, .inr h2⟩)
     have t1 : decide (x < 0) = false := by simpa using h1
     have t2 : decide (61 < x) = true := by simp; omega
     exact lfCh11
    ·have t1 : decide (x < 0) = false := by simpa using h1
     have t2 : decide (61 < x) = false := by simp; omega
     have t3 : decide (62 ≤ x) = false := by simpa using h2
     go_wp2
     go_roundw
     case rel => exact ⟨k + 1, E, d, by omega, by go_num, Lib.hid fun j hj => (by
      by_cases e : j = k
      ·subst e; rw [HX.out]; omega
      ·exact HK.out j (by omega)), rfl⟩
     case measure => simp [intOf]; omega
  ·have HT := Lib.hid (HGOOD.out (fun x hx => by
    obtain ⟨j, hj, rfl⟩ := List.mem_iff_getElem.1 hx
    have := HK.out j (by have := HI.out.1; omega)
    rw [List.getD_eq_getElem?_getD, List.getElem?_eq_getElem hj] at this
    exact this))
   go_wp2
   go_ret
   exact ⟨by rw [HT.out]; rfl, blw⟩) : P := h
set_option maxRecDepth 100000 in
set_option maxHeartbeats 8000000 in
theorem chWrong_any (G W H : Int) (a : Option Addr) (n c : Nat) (cs : List Int) (w : World) (hI : IsInts w a n cs) (h0 : (-9223372036854775808 ≤ G ∧ G ≤ 9223372036854775807)) (h1 : (-9223372036854775808 ≤ W ∧ W ≤ 9223372036854775807)) (h2 : (-9223372036854775808 ≤ H ∧ H ≤ 9223372036854775807)) (h3 : n ≤ 9223372036854775807) :
  Calls Tryd.prog 40 #[.agg #[.int .i64 (G), .int .i64 (W), .int .i64 (H), .slice a n c]] w fun e w' => e = .returned (.int .i64 (chE G W H n cs)) ∧ Below w.heap.size w w' := by
 by_cases hG : G ≠ 4 ∧ G ≠ 6
 ·have HT : Hid (chE G W H n cs = 1) := Lib.hid (by unfold chE; rw [if_pos hG])
  have g1 : (G != 4) = true := by simpa using hG.1
  have g2 : (G != 6) = true := by simpa using hG.2
  clear hG hI
  go_enter Tryd.func40, Tryd.ntmps40
  exact lfCh11
 ·have hG2 : ((G != 4) = false) ∨ ((G != 4) = true ∧ (G != 6) = false) := by
   by_cases e : G = 4
   ·left; simpa using e
   ·right; exact ⟨by simpa using e, by simp; omega⟩
  by_cases hr : W < 1 ∨ 64 < W ∨ H < 1 ∨ 64 < H
  ·have HT : Hid (chE G W H n cs = 3) := Lib.hid (by unfold chE; rw [if_neg hG, if_pos hr])
   clear hG
   rcases hG2 with g1 | ⟨g1, g2⟩
   all_goals
    rcases (show W < 1 ∨ (1 ≤ W ∧ 64 < W) ∨ (1 ≤ W ∧ W ≤ 64 ∧ H < 1) ∨ (1 ≤ W ∧ W ≤ 64 ∧ 1 ≤ H ∧ 64 < H) by omega) with h | ⟨h, h'⟩ | ⟨h, h', h''⟩ | ⟨h, h', h'', h3⟩
    all_goals
     clear hr hI
     go_enter Tryd.func40, Tryd.ntmps40
     exact lfCh11
  ·have hr' : 1 ≤ W ∧ W ≤ 64 ∧ 1 ≤ H ∧ H ≤ 64 := by omega
   obtain ⟨r1, r2, r3, r4⟩ := hr'
   have hm := mul64 (W := W) (H := H) (by omega)
   obtain ⟨P, hP⟩ : ∃ P, W * H = P := ⟨_, rfl⟩
   by_cases he : (n : Int) = W * H
   ·have HBAD : Hid ((∃ x ∈ cs, x < 0 ∨ 62 ≤ x) → chE G W H n cs = 3) := Lib.hid fun h => by unfold chE; rw [if_neg hG, if_neg hr, if_neg (by simpa using he), if_pos h]
    have HGOOD : Hid ((∀ x ∈ cs, 0 ≤ x ∧ x < 62) → chE G W H n cs = 0) := Lib.hid fun h => by unfold chE; rw [if_neg hG, if_neg hr, if_neg (by simpa using he), if_neg (by rintro ⟨x, hx, e⟩; have := h x hx; omega)]
    rw [hP] at hm he
    have hn4 : n ≤ 4096 := by omega
    have hb : ((n : Int) != P) = false := by simpa using he
    have HI := Lib.hid hI
    clear hr hG he hI
    rcases hG2 with g1 | ⟨g1, g2⟩
    ·skip
     go_enter Tryd.func40, Tryd.ntmps40
     exact lfCh10
    ·skip
     go_enter Tryd.func40, Tryd.ntmps40
     exact lfCh10
   ·have HT : Hid (chE G W H n cs = 8) := Lib.hid (by unfold chE; rw [if_neg hG, if_neg hr, if_pos he])
    rw [hP] at hm he
    have hb : ((n : Int) != P) = true := by simpa using he
    clear hr hG he hI
    rcases hG2 with g1 | ⟨g1, g2⟩
    all_goals
     go_enter Tryd.func40, Tryd.ntmps40
     exact lfCh11
end
section
open Go.RowKit
open Go.Shelf
attribute [local go_sem] Oper.semAt_some
structure TB (tb W H : Nat) (a : Option Addr) (n c : Nat) (bs : List Bool) (w : World) : Prop where
 c0 : w.cell? ⟨tb, 0, none⟩ = some (.int .i64 (W))
 c1 : w.cell? ⟨tb, 1, none⟩ = some (.int .i64 (H))
 c2 : w.cell? ⟨tb, 2, none⟩ = some (.slice a n c)
 bits : IsBools w a n bs
theorem TB.below {tb W H : Nat} {a : Option Addr} {n c : Nat} {bs : List Bool} {w w' : World} (h : TB tb W H a n c bs w) (hb : Below w.heap.size w w') : TB tb W H a n c bs w' :=
 ⟨bCs hb h.c0, bCs hb h.c1, bCs hb h.c2, h.bits.below hb⟩
theorem IsBools.kept {W W' : World} {row : Option Nat} {a : Option Addr} {n : Nat} {bs : List Bool} (h : IsBools W a n bs) (hg : W.grownBy W' row) (hr : ∀ r, row = some r → ∃ o : Obj, W.heap[r]? = some o ∧ o.isCells = false) : IsBools W' a n bs := by
 refine ⟨h.1, fun hn => ?_⟩
 obtain ⟨b, o, h1, h2, h3⟩ := h.2 hn
 exact ⟨b, o, h1, Nat.lt_of_lt_of_le h2 hg.size, fun j hj => cell_kept (h3 j hj) hg hr⟩
theorem TB.kept {tb W H : Nat} {a : Option Addr} {n c : Nat} {bs : List Bool} {w w' : World} {row : Option Nat} (h : TB tb W H a n c bs w) (hg : w.grownBy w' row) (hr : ∀ r, row = some r → ∃ o : Obj, w.heap[r]? = some o ∧ o.isCells = false) : TB tb W H a n c bs w' :=
 ⟨cell_kept h.c0 hg hr, cell_kept h.c1 hg hr, cell_kept h.c2 hg hr, h.bits.kept hg hr⟩
theorem rowIs_kept {W W' : World} {row : Option Nat} {b t n : Nat} {f : Nat → Value} (h : W.rowIs b t n f) (hg : W.grownBy W' row) (hr : ∀ r, row = some r → ∃ o : Obj, W.heap[r]? = some o ∧ o.isCells = false) : W'.rowIs b t n f := by
 have hlt := h.lt
 refine h.of_block (hg.block b hlt fun e => ?_)
 obtain ⟨o, ho, hc⟩ := hr b e.symm
 obtain ⟨cs, hb, _⟩ := h
 rw [hb] at ho; cases ho; cases hc
def rowV (a : Option Addr) (c W y : Nat) : Value := .slice (if c = y * W then a else a.map (·.add (y * W))) W (c - y * W)
theorem rows_in (W H : Int) (a : Option Addr) (n c : Nat) (k : Nat) (w : World) :
  CallsIn Fence.wide k Tryd.prog 33 #[.agg #[.int .i64 (W), .int .i64 (H), .slice a n c]] w fun e w' => e = .returned (.func (.func 57) #[] #[.pointer (some ⟨w.heap.size, 0, none⟩)]) ∧ w' = w.alloc (.cells #[.int .i64 (W), .int .i64 (H), .slice a n c] 33) := by
 refine callsIn_wide.2 ?_
 go_enter Tryd.func33, Tryd.ntmps33
 go_wp2
 go_ret
 exact ⟨rfl, rfl⟩
theorem fin_take {H k : Nat} (hk : k < H) : (List.finRange H).take (k+1) = (List.finRange H).take k ++ [⟨k, hk⟩] := by
 rw [List.take_succ_eq_append_getElem (by simpa using hk)]
 simp
set_option maxRecDepth 100000 in
set_option maxHeartbeats 2000000 in
theorem rows1_in (k0 : Nat) (hn0 : 1 ≤ k0) (l tb W H : Nat) (a : Option Addr) (n c : Nat) (bs : List Bool) (hW : W ≤ 64) (hH : H ≤ 64) (hn : n = W * H) (hc : n ≤ c) (hcm : c ≤ 9223372036854775807) (J Jx : List (Fin H) → World → Prop)
  (hY : ∀ (pre : List (Fin H)) (x : Fin H) (W1 : World), J pre W1 → pre.length < H → YieldAt Fence.wide (k0 - 1) Tryd.prog l #[.int .i64 ((x.val : Nat)), rowV a c W x.val] W1 fun e W' =>
   (e = .returned (.bool true) ∧ J (pre ++ [x]) W' ∧ (TB tb W H a n c bs W1 → TB tb W H a n c bs W')) ∨ (e = .returned (.bool false) ∧ Jx (pre ++ [x]) W'))
  (w : World) (hT : TB tb W H a n c bs w) (h0 : J [] w) :
  CallsIn Fence.wide k0 Tryd.prog 57 #[.func (.yield l) #[] #[], .pointer (some ⟨tb, 0, none⟩)] w fun e W' => (∃ v, e = .returned v) ∧
   ((∃ ys, ys = List.finRange H ∧ J ys W') ∨ (∃ pre, (∃ k, k ≤ H ∧ pre = (List.finRange H).take k) ∧ Jx pre W')) := by
 have HY := Lib.hid hY
 have HT := Lib.hid hT
 have hm0 := hT.c1
 have HN := Lib.hid hn
 clear hY hT hn
 refine callsIn_of_wp Tryd.func57 rfl trivial ?_ rfl
 simp only [Tryd.ntmps57, List.size_toArray, List.length_cons, List.length_nil, Nat.reduceAdd, Nat.reduceSub, Array.replicate_succ, Array.replicate_zero, List.push_toArray, List.append_toArray, List.nil_append, List.cons_append]
 gi_wp2
 gi_loopw [6] (fun i wr => ∃ k : Nat, k ≤ H ∧ i = .int .i64 k ∧ Hid (J ((List.finRange H).take k) wr) ∧ Hid (TB tb W H a n c bs wr))
  (fun i _ => H - (intOf i).toNat)
 case atStart => exact ⟨0, Nat.zero_le _, rfl, Lib.hid h0, HT⟩
 case round =>
  clear hm0 HT h0
  obtain ⟨k, hk, rfl, hJs, hT⟩ := hrel
  by_cases hlt : k < H
  ·obtain ⟨fn, tmps, assign, body, hy, hR⟩ := HY.out _ ⟨k, hlt⟩ wr hJs.out (by simp; omega)
   simp only at hy
   have d0 := hT.out.c0; have d2 := hT.out.c2
   obtain ⟨M, hM⟩ : ∃ M, k * W = M := ⟨_, rfl⟩
   have hM2 : (k + 1) * W = M + W := by rw [Nat.add_mul, Nat.one_mul, hM]
   have hle : M + W ≤ n := by rw [← hM2, HN.out, Nat.mul_comm]; exact Nat.mul_le_mul_left W (by omega)
   have hmul : (k : Int) * (W : Int) = (M : Int) := by rw [← Int.natCast_mul, hM]
   have hmul2 : ((k : Int) + 1) * (W : Int) = (M : Int) + (W : Int) := by rw [Int.add_mul, Int.one_mul, hmul]
   have hm4 : M + W ≤ 4096 := by rw [← hM2]; exact Nat.le_trans (Nat.mul_le_mul (show k + 1 ≤ 64 by omega) hW) (by omega)
   have hsl : ∀ wx, (Instr.slice 31 (.slice a n c) (some (.int .i64 (M))) (some (.int .i64 (M+W))) none).run Tryd.prog wx = .ok (rowV a c W k) wx := by
    intro wx
    have h1 := run_slice_lh (P := Tryd.prog) wx 31 a n c (by kernel_rfl) .i64 .i64 (M : Int) ((M : Int) + (W : Int)) (by omega) (by omega) (by omega)
    rw [h1]
    have e1 : ((M : Int)).toNat = M := by omega
    have e2 : (((M : Int) + (W : Int))).toNat = M + W := by omega
    rw [e1, e2]
    have hsz : (sizeOf (Tryd.prog.elem 31)).run Tryd.prog wx = .ok 1 wx := by go_simp
    rw [hsz]
    simp only [Result.andThen, sliced, rowV, hM, Nat.mul_one, show M + W - M = W by omega]
   clear hM hM2
   gi_wp2
   refine hR.mono ?_
   rintro e W3 (⟨rfl, hJ3, hk3⟩ | ⟨rfl, hJx3⟩)
   ·have HJ := Lib.hid hJ3
    have HT3 := Lib.hid (hk3 hT.out)
    clear hJ3 hk3 hsl
    gi_wp2
    go_roundw
    case rel => exact ⟨k + 1, by omega, by go_num, by rw [fin_take hlt]; exact HJ, HT3⟩
    case measure => simp [intOf]; omega
   ·clear hsl
    gi_wp2
    refine bodyPost_ret (results_none rfl _ _ _) rfl ?_
    exact ⟨⟨_, rfl⟩, .inr ⟨_, ⟨k + 1, by omega, (fin_take hlt).symm⟩, hJx3⟩⟩
  ·obtain rfl : k = H := by omega
   gi_wp2
   go_end0
   exact ⟨⟨_, rfl⟩, .inl ⟨_, by rw [List.take_of_length_le (by simp)], hJs.out⟩⟩
theorem rows_stops (k0 : Nat) (hn0 : 1 ≤ k0) (tb W H : Nat) (a : Option Addr) (n c : Nat) (bs : List Bool) (hW : W ≤ 64) (hH : H ≤ 64) (hn : n = W * H) (hc : n ≤ c) (hcm : c ≤ 9223372036854775807) (w : World) (hT : TB tb W H a n c bs w) :
  SeqStopsK Fence.wide k0 Tryd.prog 57 #[.pointer (some ⟨tb, 0, none⟩)] (fun x : Fin H => #[.int .i64 ((x.val : Nat)), rowV a c W x.val]) (fun A B => TB tb W H a n c bs A → TB tb W H a n c bs B) (fun ys => ys = List.finRange H)
   (fun pre => ∃ k, k ≤ H ∧ pre = (List.finRange H).take k) H w := fun l J Jx W' hW' _ _ hY h0 =>
 rows1_in k0 hn0 l tb W H a n c bs hW hH hn hc hcm J Jx hY W' (hT.below hW') h0
end
section
open Go.RowKit
theorem own_form {w : World} {base e size n : Nat} {v : Value} {xs : List Value} (h : w.ownsRow base e size v n xs) : ∃ A c, v = .slice A n c := by
 rcases h.2 with ⟨rfl, rfl⟩ | ⟨g, cap, cur, rfl, _⟩
 ·exact ⟨_, _, rfl⟩
 ·exact ⟨_, _, rfl⟩
theorem ownBelow {w w' : World} {base e size n : Nat} {v : Value} {xs : List Value} (h : w.ownsRow base e size v n xs) (hb : Below w.heap.size w w') : w'.ownsRow base e size v n xs := by
 obtain ⟨h1, h2⟩ := h
 refine ⟨h1, ?_⟩
 rcases h2 with h2 | ⟨g, cap, cur, e1, e2, e3, e4⟩
 ·exact .inl h2
 ·refine .inr ⟨g, cap, cur, e1, e2, ?_, e4⟩
  rw [hb.block g (by
   rcases Nat.lt_or_ge g w.heap.size with hlt | hge
   ·exact hlt
   ·rw [Array.getElem?_eq_none hge] at e3; cases e3)]
  exact e3
def natV (l : List Nat) : List Value := l.map fun x : Nat => Value.int .i64 (x : Int)
theorem natV_snoc (l : List Nat) (x : Nat) : natV (l ++ [x]) = natV l ++ [.int .i64 (x)] := by simp [natV]
def natI (l : List Nat) : List Int := l.map fun x : Nat => (x : Int)
theorem natI_map (l : List Nat) : (natI l).map (Value.int .i64) = natV l := by simp [natI, natV]
theorem filter_snoc (k : Nat) (f : Nat → Bool) : (List.range (k+1)).filter f = (List.range k).filter f ++ (if f k then [k] else []) := by
 rw [List.range_succ, List.filter_append]
 by_cases h : f k = true <;> simp [h]
theorem IsInts.of_nats {w : World} {base : Nat} {v : Value} {L : List Nat} (h : w.ownsRow base 3 1 v L.length (natV L)) : ∃ a c, v = .slice a L.length c ∧ IsInts w a L.length (natI L) :=
 IsInts.of_owns (zs := natI L) (n := L.length) (by simp [natI]) (by rw [natI_map]; exact h)
end
end Go.Proofs.YtajdoobkfbdgoaaDoor
