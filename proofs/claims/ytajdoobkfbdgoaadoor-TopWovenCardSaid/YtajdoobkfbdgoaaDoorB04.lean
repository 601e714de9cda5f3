/- Lemmas on which the law of this seat rests; each states its own conditions. -/
import Derived.Test.YtajdoobkfbdgoaaDoorB03
import Derived.Test.YtajdoobkfbdgoaaDoorB02
import Derived.IntWalk
set_option linter.unusedVariables false
set_option linter.unusedSimpArgs false
namespace Go.Proofs.YtajdoobkfbdgoaaDoor
section
open Go.RowKit
section
variable {P : Program} {ops : Array Oper} {md : Region.Mode}
def Makes (P : Program) (om : Oper) (a : Act) (mk : Nat → Value) (z : Obj) : Prop := ∀ w : World, (execOp a.eval om).run P w = .ok (.value (mk w.heap.size)) (w.alloc z)
def headB (P : Program) (md : Region.Mode) (ops : Array Oper) (n m : Nat) (om : Oper) (mk : Nat → Value) (z : Obj) (L : Array Bool → Act → World → Prop) : Nat → Array Bool → Act → World → Prop
  | 0, listed, a, W => ∀ E d, L listed a (extW W E d)
  | f + 1, listed, a, W => Region.ready md ops listed ≠ [] ∧ ∀ i ∈ Region.ready md ops listed, i < n ∧
      ((i = m → Makes P om a mk z ∧ ∀ E d, headB P md ops n m om mk z L f (listed.setIfInBounds i true) (a.put om.dst (mk (extW W E d).heap.size)) ((extW W E d).alloc z)) ∧
       (i ≠ m → qOp P ops (fun w => ∃ E d, w = extW W E d) i (fun a' => headB P md ops n m om mk z L f (listed.setIfInBounds i true) a' W) a))
theorem headB_any {n m g : Nat} {om : Oper} {mk : Nat → Value} {z : Obj} {L : Array Bool → Act → World → Prop} {Q : Exit → Act → World → Prop} (hom : ops[m]? = some om) (hgd : om.guard = none)
  (hL : ∀ listed a w, L listed a w → wpAny P md ops Q g listed a w) (f : Nat) :
  ∀ (listed : Array Bool) (a : Act) (W : World), headB P md ops n m om mk z L f listed a W → ∀ E d, wpAny P md ops Q (f + g) listed a (extW W E d) := by
 induction f with
 | zero => intro listed a W h E d; rw [Nat.zero_add]; exact hL _ _ _ (h E d)
 | succ f ih =>
  intro listed a W h E d
  rw [show f + 1 + g = (f + g) + 1 by omega]
  refine ⟨fun h0 => absurd h0 h.1, fun i hi => ?_⟩
  obtain ⟨_, h1, h2⟩ := h.2 i hi
  by_cases him : i = m
  ·subst him
   obtain ⟨hmk, h1⟩ := h1 rfl
   unfold wpOp
   simp only [hom, Region.wanted, hgd, if_true]
   left
   unfold Oper.wp
   rw [hmk]
   have := ih _ _ _ (h1 E d) #[] ((extW W E d).alloc z).drawn
   rwa [extW_self] at this
  ·refine wpOp_of_qOp (C := fun w => ∃ E d, w = extW W E d) ⟨E, d, rfl⟩ (fun a' w' hw' h' => ?_) (h2 him)
   obtain ⟨E', d', rfl⟩ := hw'
   exact ih _ _ _ h' E' d'
theorem headB_first {n m i : Nat} {oi om : Oper} {v : Value} {mk : Nat → Value} {z : Obj} {L : Array Bool → Act → World → Prop} (hi : ops[i]? = some oi) (hom : ops[m]? = some om) (hgm : om.guard = none) (hsel : ∀ (j : Nat) (o : Oper) cs b, ops[j]? = some o → o.op ≠ .select cs b)
  (hs : Region.sinkB md ops n = true) (hc : Region.chainB md ops n = true) (hn : n < ops.size) (hin : i < n) (him : i ≠ m)
  (hdone : ∀ listed a w, L listed a w → ∀ j ∈ Region.ready md ops listed, n ≤ j) (W0 : World) (f : Nat) :
  ∀ (listed : Array Bool) (a : Act) (W : World), (∃ E d, W = extW W0 E d) → HeadInv md ops n listed →
   (∀ j oj, ops[j]? = some oj → j ≠ i → listed.getD j true = false → (∀ e ∈ oj.after, Region.binds md e = true → e.on ≠ i) → oi.apart ops oj = true) →
   i ∈ Region.ready md ops listed → (∀ E d, YieldsIn P ops (fun w => ∃ F e, w = extW (extW W0 E d) F e) oi v a) →
   headB P md ops n m om mk z L f (listed.setIfInBounds i true) (a.put oi.dst v) W → headB P md ops n m om mk z L (f + 1) listed a W := by
 have eat : ∀ E d F e, extW (extW W0 E d) F e = extW W0 (E ++ F) e := fun E d F e => extW_extW W0 E F d e
 induction f with
 | zero =>
  intro listed a W hW inv _ hr hy H
  obtain ⟨E0, d0, rfl⟩ := hW
  refine ⟨List.ne_nil_of_mem hr, fun j hj => ?_⟩
  have hjn : j < n := Nat.lt_of_not_le fun h => tail_waits hs hc hn inv _ i rfl hin (mem_ready.1 hr).1 j h hj
  refine ⟨hjn, ?_⟩
  by_cases hji : j = i
  ·subst hji; exact ⟨fun h => absurd h him, fun _ => (hy E0 d0).qOp hi H⟩
  ·exact absurd (hdone _ _ _ (H #[] 0) j (ready_mono hj hji)) (by omega)
 | succ f ih =>
  intro listed a W hW inv hfree hr hy H
  obtain ⟨E0, d0, rfl⟩ := hW
  refine ⟨List.ne_nil_of_mem hr, fun j hj => ?_⟩
  have hjn : j < n := Nat.lt_of_not_le fun h => tail_waits hs hc hn inv _ i rfl hin (mem_ready.1 hr).1 j h hj
  refine ⟨hjn, ?_⟩
  by_cases hji : j = i
  ·subst hji; exact ⟨fun h => absurd h him, fun _ => (hy E0 d0).qOp hi H⟩
  ·obtain ⟨hjun, oj, hoj, hall⟩ := mem_ready.1 hj
   have hnot : ∀ e ∈ oj.after, Region.binds md e = true → e.on ≠ i := by
    intro e he hb heq
    have h1 := hall e he hb
    rw [heq, getD_both (mem_ready.1 hr).1] at h1
    cases h1
   have hap := hfree j oj hoj hji hjun hnot
   have hfree' : ∀ k ok, ops[k]? = some ok → k ≠ i → (listed.setIfInBounds j true).getD k true = false → (∀ e ∈ ok.after, Region.binds md e = true → e.on ≠ i) → oi.apart ops ok = true := by
    intro k ok hk hki hun hno
    refine hfree k ok hk hki ?_ hno
    by_cases hjk : j = k
    ·subst hjk; exact hjun
    ·rwa [getD_set_ne true hjk] at hun
   obtain ⟨_, H1, H2⟩ := H.2 j (ready_mono hj hji)
   obtain ⟨p1, p2, p3⟩ := Oper.apart_spec hap
   constructor
   ·intro hjm
    have e : oj = om := by subst hjm; exact Option.some.inj (hoj.symm.trans hom)
    subst e
    obtain ⟨hmk, H3'⟩ := H1 hjm
    refine ⟨fun w => ?_, fun E d => ?_⟩
    ·have := hmk w
     rwa [execOp_put oj (fun cs b => hsel j oj cs b hoj) a oi.dst v p1] at this
    ·have H3 := H3' E d
     refine ih _ _ _ ?_ (inv.set hj hjn) hfree' (ready_mono hr (Ne.symm hji)) (fun E' d' => ?_) ?_
     ·rw [eat]
      exact ⟨(E0 ++ E).push z, d, by simp [extW, World.alloc]⟩
     ·exact (hy E' d').of_same (execOp_put oi (fun cs b => hsel i oi cs b hi) a _ _ p3) (wanted_put oi a _ _ p3)
     ·rw [Array.setIfInBounds_comm _ _ hji, Act.put_comm a v _ p2] at *
      exact H3
   ·intro hjm
    have h2 := qOp_put hoj hap (fun cs b => hsel i oi cs b hi) (fun cs b => hsel j oj cs b hoj) (hy E0 d0) (H2 hjm)
    unfold qOp at h2 ⊢
    simp only [hoj] at h2 ⊢
    have keep : ∀ u, ∀ E d, YieldsIn P ops (fun w => ∃ F e, w = extW (extW W0 E d) F e) oi v (a.put oj.dst u) := fun u E d =>
     (hy E d).of_same (execOp_put oi (fun cs b => hsel i oi cs b hi) a oj.dst u p3) (wanted_put oi a oj.dst u p3)
    split
    ·rename_i hw
     simp only [hw, if_true] at h2
     obtain ⟨u, hu, _, h3⟩ := h2
     refine ⟨u, hu, ih _ _ _ ⟨E0, d0, rfl⟩ (inv.set hj hjn) hfree' (ready_mono hr (Ne.symm hji)) (keep u) ?_⟩
     rw [Array.setIfInBounds_comm _ _ hji]
     exact h3
    ·rename_i hw
     simp only [hw] at h2
     refine ih _ _ _ ⟨E0, d0, rfl⟩ (inv.set hj hjn) hfree' (ready_mono hr (Ne.symm hji)) (keep undef) ?_
     rw [Array.setIfInBounds_comm _ _ hji]
     exact h2.2
theorem headB_lex {m : Nat} {g : Nat} {om : Oper} {mk : Nat → Value} {z : Obj} {K : Act → Prop} {W : World} (hom : ops[m]? = some om) (hgm : om.guard = none) (hsel : Region.noSelect ops = true) (hs : Region.sinkB md ops (m+1) = true) (hc : Region.chainB md ops (m+1) = true) (hn : m + 1 < ops.size) (hKm : ∀ a, K a → Makes P om a mk z) (l : List Oper) :
  ∀ (k : Nat) (listed : Array Bool) (a : Act), (∀ j, j < l.length → l[j]? = ops[k + j]?) → k + l.length = m → HeadInv md ops (m+1) listed →
  Region.lexHead md ops (g+1) l.length k listed = true → wpV P ops W K l a →
  headB P md ops (m+1) m om mk z (fun listed' a' w' => Region.seqB md ops g (m+1) listed' = true ∧ ∃ a0 E d E' d', K a0 ∧ a' = a0.put om.dst (mk (extW W E d).heap.size) ∧ w' = extW ((extW W E d).alloc z) E' d') (l.length + 1) listed a W := by
 induction l with
 | nil =>
  intro k listed a _ hk inv hB h
  have hkn : k = m := by simpa using hk
  subst hkn
  simp only [List.length_nil, Region.lexHead, Region.seqB, Bool.and_eq_true, decide_eq_true_eq] at hB
  refine ⟨by rw [hB.1]; simp, fun i hi => ?_⟩
  rw [hB.1] at hi
  have hik : i = k := by simpa using hi
  subst hik
  exact ⟨by omega, fun _ => ⟨hKm a h, fun E d E' d' => ⟨hB.2, a, E, d, E', d', h, rfl, rfl⟩⟩, fun h => absurd rfl h⟩
 | cons o l ih =>
  intro k listed a hl hk inv hB h
  have h0 : ops[k]? = some o := by simpa using (hl 0 (by simp)).symm
  simp only [List.length_cons, Region.lexHead, Bool.and_eq_true] at hB
  obtain ⟨⟨hr, hf⟩, hB'⟩ := hB
  have hkn : k < m := by simp only [List.length_cons] at hk; omega
  have hr' : k ∈ Region.ready md ops listed := by simpa using hr
  have step : ∃ v, (∀ E d, YieldsIn P ops (fun w => ∃ F e, w = extW (extW W E d) F e) o v a) ∧ wpV P ops W K l (a.put o.dst v) := by
   unfold wpV at h
   by_cases hw : Region.wanted o (yielded ops a.tmps) = true
   ·rw [if_pos hw] at h
    obtain ⟨v, h1, h2⟩ := h
    refine ⟨v, fun E d => .inl ⟨hw, fun w hwC => ?_⟩, h2⟩
    obtain ⟨F, e, rfl⟩ := hwC
    rw [extW_extW]
    refine quietAt_mono (fun w' hw' => ?_) (h1 (E ++ F) e)
    obtain ⟨F', e', rfl⟩ := hw'
    exact ⟨F ++ F', e', by rw [extW_extW, extW_extW, Array.append_assoc]⟩
   ·rw [if_neg hw] at h
    exact ⟨undef, fun E d => .inr ⟨by simpa using hw, rfl⟩, h⟩
  obtain ⟨v, hy, hK⟩ := step
  exact headB_first h0 hom hgm (Region.noSelect_spec hsel) hs hc hn (by omega) (by omega) (fun listed' a' w' hL => seqB_ready hL.1) W (l.length + 1) listed a W (extOf_refl W) inv (Region.free_spec h0 hf) hr' hy
   (ih (k + 1) _ _ (fun j hj => by have := hl (j + 1) (by simp; omega); simpa [Nat.add_assoc, Nat.add_comm 1 j] using this) (by simp only [List.length_cons] at hk; omega) (inv.set hr' (by omega)) hB' hK)
end
theorem any_region_ext_build {Q : Exit → Act → World → Prop} {a : Act} {w : World} {l : List Oper} (m : Nat) (om : Oper) (mk : Nat → Value) (z : Obj) (hm : Tryd.prog.follows .mixedOrders = true) (hB' : (Region.noSelect l.toArray && decide (m + 1 < l.length) && Region.sinkB .any l.toArray (m+1) && Region.chainB .any l.toArray (m+1) && Region.lexHead .any l.toArray (l.length - (m+1) + 1) m 0 (Array.replicate l.length false)) = true)
  (hom : l[m]? = some om) (hgm : om.guard = none)
  (h : wpV Tryd.prog l.toArray w (fun a' => Makes Tryd.prog om a' mk z ∧ ∀ E d E' d', wpList Tryd.prog l.toArray Q (l.drop (m+1)) (a'.put om.dst (mk (extW w E d).heap.size)) (extW ((extW w E d).alloc z) E' d')) (l.take m) a) : wpAny Tryd.prog .any l.toArray Q l.toArray.size (Array.replicate l.toArray.size false) a { w with drawn := w.drawn + 1 } := by
 simp only [Bool.and_eq_true, decide_eq_true_eq] at hB'
 obtain ⟨⟨⟨⟨hsel, hn⟩, hs⟩, hc⟩, hlex⟩ := hB'
 have htl : (l.take m).length = m := by simp; omega
 have hdl : (l.drop (m+1)).length = l.length - (m+1) := by simp
 have inv0 : HeadInv .any l.toArray (m+1) (Array.replicate l.length false) :=
  ⟨by simp, fun j oj _ hl => (by rw [getD_replicate_false] at hl; cases hl), fun t _ ht => getD_in (by simpa using ht) (getD_replicate_false _ _)⟩
 have hom2 : l.toArray[m]? = some om := by simpa using hom
 have H := headB_lex (P := Tryd.prog) (md := .any) (g := l.length - (m+1)) (z := z) (mk := mk) (W := w) hom2 hgm hsel hs hc (by simpa using hn) (fun a ha => ha.1) (l.take m) 0 _ a (fun j hj => by
  have hj' : j < m := by rw [htl] at hj; exact hj
  simp [hj']) (by simpa using htl) inv0 (by rw [htl]; exact hlex) h
 have := headB_any (g := l.length - (m+1)) (Q := Q) hom2 hgm (fun listed a' w' hL => by
  obtain ⟨hsq, a0, E, d, E', d', hK, rfl, rfl⟩ := hL
  have := wpAny_of_seq (md := .any) (Q' := Q) (l.drop (m+1)) (m+1) listed (a0.put om.dst (mk (extW w E d).heap.size)) (extW ((extW w E d).alloc z) E' d') (fun j => by simp [List.getElem?_drop]) (by rw [hdl]; exact hsq) (hK.2 E d E' d')
  rwa [hdl] at this) _ _ _ w H #[] (w.drawn + 1)
 rw [htl, extW_self] at this
 have e : m + 1 + (l.length - (m + 1)) = l.length := by omega
 rw [e] at this
 simpa using this
theorem wp_region_ext_build {id : Nat} {Q : Exit → Act → World → Prop} {a : Act} {w : World} {l : List Oper} (m : Nat) (om : Oper) (mk : Nat → Value) (z : Obj) (hm : Tryd.prog.follows .mixedOrders = true) (hB' : (Region.noSelect l.toArray && decide (m + 1 < l.length) && Region.sinkB .any l.toArray (m+1) && Region.chainB .any l.toArray (m+1) && Region.lexHead .any l.toArray (l.length - (m+1) + 1) m 0 (Array.replicate l.length false)) = true)
  (hom : l[m]? = some om) (hgm : om.guard = none)
  (h : wpV Tryd.prog l.toArray w (fun a' => Makes Tryd.prog om a' mk z ∧ ∀ E d E' d', wpList Tryd.prog l.toArray Q (l.drop (m+1)) (a'.put om.dst (mk (extW w E d).heap.size)) (extW ((extW w E d).alloc z) E' d')) (l.take m) a) : (Code.region id l.toArray true).wp Tryd.prog Q a w := wp_region_any hm (any_region_ext_build m om mk z hm hB' hom hgm h)
def mkOne (n : Nat) : Value := .slice (some ⟨n, 0, none⟩) 1 1
theorem built_cell (W : World) (E : Array Obj) (d : Nat) (cs : Array Value) (t : TypeId) (E' : Array Obj) (d' : Nat) (j : Nat) (u : Value) (h : cs[j]? = some u) :
  (extW ((extW W E d).alloc (.cells cs t)) E' d').cell? ⟨(extW W E d).heap.size, j, none⟩ = some u := by
 rw [cell?_extW _ _ (by unfold LtW; rw [World.size_alloc]; omega), World.cell?_alloc_new]
 exact h
theorem built_below (W : World) (E : Array Obj) (d : Nat) (z : Obj) (E' : Array Obj) (d' : Nat) : Below W.heap.size W (extW ((extW W E d).alloc z) E' d') :=
 bExtW ((bExtW (Below.refl _ _) (Nat.le_refl _)).alloc (by simp) _) (by simp; omega)
theorem wpAppB {W : World} {ops : Array Oper} {rest : List Oper} {o : Oper} {a : Act} {Q : Exit → Act → World → Prop} {t e size bytes : Nat} {z : Value} (hE : ElemOk t e size bytes z)
  (hgd : o.guard = none) (s x : Operand) (ho : o.op = .call { callee := .builtin .append, args := #[s, x], argTypes := #[t, t] })
  (base : Nat) (v : Value) (n : Nat) (xs : List Value) (cs : Array Value) (B : Nat) (hs : a.eval s = v) (hown : W.ownsRow base e size v n xs)
  (hx : a.eval x = .slice (some ⟨B, 0, none⟩) 1 1) (hcs : ∀ j u, cs[j]? = some u → W.cell? ⟨B, j, none⟩ = some u) (hl : cs.size = size) (h1 : ∀ u ∈ cs.toList, u.oneCell' = true)
  (hb : bytes ≤ 4096) (hn : n ≤ 1000000000) (hbase : base ≤ W.heap.size)
  (h : ∀ v' w', w'.ownsRow base e size v' (n + 1) (xs ++ cs.toList) → Below base W w' → wpList Tryd.prog ops Q rest (a.put o.dst v') w') : wpList Tryd.prog ops Q (o :: rest) a W := by
 obtain ⟨h2, h3, h4, h5⟩ := hE
 obtain ⟨i0, hi, hz0, hz1, hz2⟩ := info_parts h3
 refine wpList_append_own _ hgd s x t ho base e i0 z size bytes h2 hi hz0 hz1 hz2 h4 h5 v n xs hs hown ⟨B, 0, none⟩ 1 1 cs.toList hx (by simpa using hl) ?_ h1 (by unfold maxLen; omega) ?_ hbase ?_
 ·intro j u hj
  have : (⟨B, 0, none⟩ : Addr).add j = ⟨B, j, none⟩ := by rw [Addr.add_lit]; simp
  rw [this]
  exact hcs j u (by simpa using hj)
 ·calc (n + 1) * bytes ≤ 1000000001 * 4096 := Nat.mul_le_mul (by omega) hb
   _ ≤ 140737488355328 := by omega
 ·intro v' w' hown' hg _
  refine h v' w' hown' ?_
  have hk := hown.lt
  exact belowGrown hg hbase fun k hk' => (hk k hk').1
end
section
open Go.RowKit
open Go.Shelf
attribute [local go_sem] Oper.semAt_some
structure OkT (w : World) (a : Option Addr) (n c : Nat) (bs : List Bool) : Prop where
 bits : IsBools w a n bs
 cap : n ≤ c
 lim : c ≤ 9223372036854775807
theorem OkT.below {w w' : World} {a : Option Addr} {n c : Nat} {bs : List Bool} (h : OkT w a n c bs) (hb : Below w.heap.size w w') : OkT w' a n c bs := ⟨h.bits.below hb, h.cap, h.lim⟩
def tF (W H : Int) (v : Value) : Nat → Value := fun j => if j = 0 then .int .i64 W else if j = 1 then .int .i64 H else v
theorem tF_alloc (w : World) (W H : Int) (v : Value) (h1 : v.cells = #[v]) : (w.alloc (.cells #[.int .i64 W, .int .i64 H, v] 33)).rowIs w.heap.size 33 3 (tF W H v) := by
 refine World.rowIs_alloc w #[.int .i64 W, .int .i64 H, v] 33 (tF W H v) ?_
 intro j hj
 have hj3 : j = 0 ∨ j = 1 ∨ j = 2 := by simp at hj; omega
 rcases hj3 with rfl | rfl | rfl <;> rfl
theorem TB.of_row {tb W H : Nat} {a : Option Addr} {n c : Nat} {bs : List Bool} {w : World} (h : w.rowIs tb 33 3 (tF W H (.slice a n c))) (hi : IsBools w a n bs) : TB tb W H a n c bs w :=
 ⟨h.cell (i := 0) (by omega), h.cell (i := 1) (by omega), h.cell (i := 2) (by omega), hi⟩
def rowL (bs : List Bool) (W y : Nat) : List Bool := (List.range W).map fun x => bs.getD (y * W + x) false
theorem rowL_len (bs : List Bool) (W y : Nat) : (rowL bs W y).length = W := by simp [rowL]
theorem rowL_get (bs : List Bool) {W y x : Nat} (hx : x < W) : (rowL bs W y).getD x false = bs.getD (y * W + x) false := by
 unfold rowL; simp [List.getD, hx]
theorem rowV_bools {a : Option Addr} {n c W H y : Nat} {bs : List Bool} (hcap : n ≤ c) (hn : n = W * H) (hy : y < H) : ∃ A cc, rowV a c W y = .slice A W cc ∧ ∀ w, OkT w a n c bs → OkT w A W cc (rowL bs W y) := by
 have hle : y * W + W ≤ n := by
  have : (y + 1) * W ≤ H * W := Nat.mul_le_mul_right W hy
  rw [Nat.add_mul, Nat.one_mul] at this
  rw [hn, Nat.mul_comm W H]; exact this
 refine ⟨_, _, rfl, fun w h => ⟨⟨rowL_len _ _ _, fun hW => ?_⟩, by omega, by have := h.lim; omega⟩⟩
 obtain ⟨b, o, rfl, hb, hc⟩ := h.bits.2 (by omega)
 refine ⟨b, o + y * W, ?_, hb, fun j hj => ?_⟩
 ·rw [if_neg (by omega)]; simp [Addr.add]
 ·rw [rowL_get _ hj, Nat.add_assoc]
  exact hc _ (by omega)
theorem wrT_ok {W H : Nat} (hW : W ≤ 64) (hH : H ≤ 64) : wrT W H (W * H) = 0 := by
 unfold wrT; rw [if_neg (by omega), if_neg (by rw [Int.natCast_mul]; simp)]
set_option maxRecDepth 100000 in
set_option maxHeartbeats 8000000 in
theorem blank_ok (W H : Nat) (w : World) (hW : W ≤ 64) (hH : H ≤ 64) :
  Calls Tryd.prog 32 #[.int .i64 (W), .int .i64 (H)] w fun e w' => e = .returned (.agg #[.int .i64 (W), .int .i64 (H), .slice (some ⟨w.heap.size+1, 0, none⟩) (W*H) (W*H)]) ∧ w'.rowIs (w.heap.size+1) 4 (W*H) (fun _ => .bool false) ∧ Below w.heap.size w w' := by
 have h4 : W * H ≤ 4096 := Nat.le_trans (Nat.mul_le_mul hW hH) (by omega)
 have hmul : (W : Int) * (H : Int) = ((W * H : Nat) : Int) := by rw [Int.natCast_mul]
 have hmk := makeRow okBools rfl (W * H) (by omega) (by omega)
 generalize W * H = n at *
 go_enter Tryd.func32, Tryd.ntmps32
 go_wp2
 refine bodyPost_ret (v := .agg #[.int .i64 (W), .int .i64 (H), .slice (some ⟨w.heap.size+1, 0, none⟩) n n]) (by simp [results, Tryd.results32, go_sem]) rfl ⟨rfl, ?_, ?_⟩
 ·have h := World.rowIs_made (w.alloc (.cells #[.int .i64 (W), .int .i64 (H), .slice (some ⟨w.heap.size+1, 0, none⟩) n n] 33)) (.bool false) n 4
  rw [World.size_alloc] at h
  exact h
 ·exact blw
def turnL (W H : Nat) (bs : List Bool) : List Bool := (List.range (W * H)).map fun p => bs.getD ((p % H) * W + p / H) false
theorem turnL_len (W H : Nat) (bs : List Bool) : (turnL W H bs).length = W * H := by simp [turnL]
end
section
open Go.RowKit
open Go.Shelf
attribute [local go_sem] Oper.semAt_some
def tC (W H : Nat) (bs : List Bool) (pre : List (Fin H)) (y x : Nat) (p : Nat) : Bool :=
 (decide (p % H ∈ pre.map Fin.val) || (decide (p % H = y) && decide (p / H < x))) && bs.getD ((p % H) * W + p / H) false
theorem tC_step {W H : Nat} {bs : List Bool} {pre : List (Fin H)} {y x p : Nat} (hy : y < H) (hp : p ≠ x * H + y) : tC W H bs pre y (x+1) p = tC W H bs pre y x p := by
 unfold tC
 by_cases e : p % H = y
 ·have hx : p / H ≠ x := by
   intro hx
   apply hp
   have := Nat.div_add_mod p H
   rw [e, hx, Nat.mul_comm] at this
   omega
  have : (p / H < x + 1) ↔ (p / H < x) := by omega
  simp [this]
 ·simp [e]
theorem tC_new {W H : Nat} {bs : List Bool} {pre : List (Fin H)} {y x : Nat} (hy : y < H) : tC W H bs pre y (x+1) (x * H + y) = bs.getD (y * W + x) false := by
 unfold tC
 have h1 : (x * H + y) % H = y := by rw [Nat.mul_comm, Nat.mul_add_mod, Nat.mod_eq_of_lt hy]
 have h2 : (x * H + y) / H = x := by rw [Nat.mul_comm, Nat.mul_add_div (by omega), Nat.div_eq_of_lt hy]; omega
 rw [h1, h2]; simp
theorem tC_row {W H : Nat} {bs : List Bool} {pre : List (Fin H)} {y : Fin H} {p : Nat} (hp : p < W * H) : tC W H bs pre y W p = tC W H bs (pre ++ [y]) 0 0 p := by
 unfold tC
 have h : p / H < W := Nat.div_lt_of_lt_mul (by rw [Nat.mul_comm]; exact hp)
 simp [h, List.mem_append]
theorem tC_zero {W H : Nat} {bs : List Bool} {pre : List (Fin H)} {y p : Nat} : tC W H bs pre y 0 p = tC W H bs pre 0 0 p := by
 unfold tC; simp
theorem tC_all {W H : Nat} {bs : List Bool} {p : Nat} (hp : p < W * H) : tC W H bs (List.finRange H) 0 0 p = (turnL W H bs).getD p false := by
  have hH : 0 < H := by rcases Nat.eq_zero_or_pos H with h | h; · subst h; simp at hp
                        · exact h
  unfold tC turnL
  have h1 : p % H ∈ (List.finRange H).map Fin.val := by
    rw [List.mem_map]; exact ⟨⟨p % H, Nat.mod_lt _ hH⟩, List.mem_finRange _, rfl⟩
  have e : ((List.range (W * H)).map fun p => bs.getD ((p % H) * W + p / H) false).getD p false = bs.getD ((p % H) * W + p / H) false := by
    rw [List.getD_eq_getElem?_getD, List.getElem?_map, List.getElem?_range hp]; rfl
  rw [e, decide_eq_true h1]; simp
structure TI (w : World) (q ob g tb rb W H n : Nat) (a : Option Addr) (c : Nat) (f : Nat → Bool) (W' : World) : Prop where
 rq : W'.rowIs q 33 3 (tF W H (.slice a n c))
 rt : W'.rowIs tb 33 3 (tF W H (.slice a n c))
 ro : W'.rowIs ob 33 3 (tF H W (.slice (some ⟨g, 0, none⟩) n n))
 rr : W'.rowIs rb 33 3 (tF 0 0 (.slice none 0 0))
 rg : W'.rowIs g 4 n (fun p => .bool (f p))
 bel : Below w.heap.size w W'
theorem TI.kept {w : World} {q ob g tb rb W H n : Nat} {a : Option Addr} {c : Nat} {f : Nat → Bool} {A B : World} {row : Option Nat} (h : TI w q ob g tb rb W H n a c f A) (hg : A.grownBy B row) (hr : ∀ r, row = some r → w.heap.size ≤ r ∧ ∃ o : Obj, A.heap[r]? = some o ∧ o.isCells = false) : TI w q ob g tb rb W H n a c f B :=
 have hr' : ∀ r, row = some r → ∃ o : Obj, A.heap[r]? = some o ∧ o.isCells = false := fun r e => (hr r e).2
 ⟨rowIs_kept h.rq hg hr', rowIs_kept h.rt hg hr', rowIs_kept h.ro hg hr', rowIs_kept h.rr hg hr', rowIs_kept h.rg hg hr', h.bel.grown hg h.bel.size (fun k e => (hr k e).1)⟩
theorem TI.set {w : World} {q ob g tb rb W H n : Nat} {a : Option Addr} {c : Nat} {f f' : Nat → Bool} {A : World} (h : TI w q ob g tb rb W H n a c f A) (i : Nat) (v : Bool) (hq : q ≠ g) (ho : ob ≠ g) (ht : tb ≠ g) (hr : rb ≠ g) (hg : w.heap.size ≤ g) (hf : ∀ p, p < n → f' p = if p = i then v else f p) : TI w q ob g tb rb W H n a c f' (A.setCell ⟨g, i, none⟩ (.bool v)) :=
 ⟨h.rq.setOther hq _, h.rt.setOther ht _, h.ro.setOther ho _, h.rr.setOther hr _, (h.rg.set i (.bool v)).congr fun p hp => by rw [hf p hp]; by_cases e : p = i <;> simp [e], h.bel.setCell (p := ⟨g, i, none⟩) hg _⟩
def TurnedPost (W H : Nat) (bs : List Bool) (w : World) (r : Ending) (w' : World) : Prop :=
 ∃ g, r = .returned (.tuple #[.agg #[.int .i64 (H), .int .i64 (W), .slice (some ⟨g, 0, none⟩) (W*H) (W*H)], .int .i64 (0)]) ∧ OkT w' (some ⟨g, 0, none⟩) (W*H) (W*H) (turnL W H bs) ∧ Below w.heap.size w w'
set_option maxRecDepth 100000 in
set_option maxHeartbeats 4000000 in
theorem Turned_ok (W H : Nat) (a : Option Addr) (c : Nat) (bs : List Bool) (w : World) (hT : OkT w a (W * H) c bs) (hW : W ≤ 64) (hH : H ≤ 64) :
  Calls Tryd.prog 30 #[.agg #[.int .i64 (W), .int .i64 (H), .slice a (W*H) c]] w (TurnedPost W H bs w) := by
 have HT := Lib.hid hT
 have h4 : W * H ≤ 4096 := Nat.le_trans (Nat.mul_le_mul hW hH) (by omega)
 have HWr := Lib.hid (fun w => tWrong_any W H a (W * H) c w (by omega) (by omega) (by omega))
 have HW0 := Lib.hid (wrT_ok hW hH)
 have HBk : Hid (∀ w, Calls Tryd.prog 32 #[.int .i64 (H), .int .i64 (W)] w fun e w' => e = .returned (.agg #[.int .i64 (H), .int .i64 (W), .slice (some ⟨w.heap.size+1, 0, none⟩) (W*H) (W*H)]) ∧ w'.rowIs (w.heap.size+1) 4 (W*H) (fun _ => .bool false) ∧ Below w.heap.size w w') := Lib.hid (fun w => by rw [Nat.mul_comm W H]; exact blank_ok H W w hH hW)
 have hcap := hT.cap
 have hlim := hT.lim
 clear hT
 refine (callsIn_wide (n := 9)).1 ?_
 refine callsIn_of_wp_marks Tryd.func30 rfl trivial ?_ rfl
 simp only [Tryd.ntmps30, List.size_toArray, List.length_cons, List.length_nil, Nat.reduceAdd, Nat.reduceSub, Array.replicate_succ, Array.replicate_zero, List.push_toArray, List.append_toArray, List.nil_append, List.cons_append]
 refine wpIn_wide.2 ?_
 generalize hn : W * H = n at *
 have HN := Lib.hid hn
 clear hn
 go_wp2_with fail
 have hrq := tF_alloc w W H (.slice a n c) rfl
 have hrr := tF_alloc (w.alloc (.cells #[.int .i64 (W), .int .i64 (H), .slice a n c] 33)) 0 0 (.slice none 0 0) rfl
 rw [World.size_alloc] at hrr
 replace hrq := hrq.alloc (.cells #[.int .i64 0, .int .i64 0, .slice none 0 0] 33)
 have hB0 : Below w.heap.size w ((w.alloc (.cells #[.int .i64 (W), .int .i64 (H), .slice a n c] 33)).alloc (.cells #[.int .i64 0, .int .i64 0, .slice none 0 0] 33)) := blw
 have hsz : ((w.alloc (.cells #[.int .i64 (W), .int .i64 (H), .slice a n c] 33)).alloc (.cells #[.int .i64 0, .int .i64 0, .slice none 0 0] 33)).heap.size = w.heap.size + 2 := by simp
 generalize (w.alloc (.cells #[.int .i64 (W), .int .i64 (H), .slice a n c] 33)).alloc (.cells #[.int .i64 0, .int .i64 0, .slice none 0 0] 33) = W0 at *
 refine (HWr.out _).mono ?_
 rintro r w1 ⟨rfl, hb⟩
 rw [HW0.out]
 replace hrq := rowBelow hrq hb (by omega)
 have d0 : w1.cell? ⟨w.heap.size, 0, none⟩ = some (.int .i64 (W)) := hrq.cell (i := 0) (by omega)
 have d1 : w1.cell? ⟨w.heap.size, 1, none⟩ = some (.int .i64 (H)) := hrq.cell (i := 1) (by omega)
 have HRQ := Lib.hid hrq
 have HRR := Lib.hid (rowBelow hrr hb (by omega))
 have HB1 := Lib.hid (hB0.trans (hb.mono hB0.size))
 have hsz1 : w.heap.size + 2 ≤ w1.heap.size := by have := hb.size; omega
 clear hrq hrr hB0 hb hsz
 go_wp2_with fail
 refine (HBk.out _).mono ?_
 rintro r w2 ⟨rfl, hrow, hb2⟩
 have hrq := rowBelow HRQ.out hb2 (by omega)
 have hsz2 : w1.heap.size + 2 ≤ w2.heap.size := by have := hrow.lt; omega
 have d0 : w2.cell? ⟨w.heap.size, 0, none⟩ = some (.int .i64 (W)) := hrq.cell (i := 0) (by omega)
 have d1 : w2.cell? ⟨w.heap.size, 1, none⟩ = some (.int .i64 (H)) := hrq.cell (i := 1) (by omega)
 have d2 : w2.cell? ⟨w.heap.size, 2, none⟩ = some (.slice a n c) := hrq.cell (i := 2) (by omega)
 have HRQ := Lib.hid hrq
 have HRR := Lib.hid (rowBelow HRR.out hb2 (by omega))
 have HB2 := Lib.hid (HB1.out.trans (hb2.mono HB1.out.size))
 have HRG := Lib.hid hrow
 have lq : LtW w.heap.size w2 := by unfold LtW; omega
 clear hrq hb2 hrow
 go_wp2_with fail
 refine (callsIn_wide.1 (rows_in W H a n c 9 _)).mono ?_
 rintro r w3 ⟨rfl, rfl⟩
 go_wp2_with fail
 have hW3q := HRQ.out.alloc (.cells #[.int .i64 (H), .int .i64 (W), .slice (some ⟨w1.heap.size+1, 0, none⟩) n n] 33) |>.alloc (.cells #[.int .i64 (W), .int .i64 (H), .slice a n c] 33)
 have hW3r := HRR.out.alloc (.cells #[.int .i64 (H), .int .i64 (W), .slice (some ⟨w1.heap.size+1, 0, none⟩) n n] 33) |>.alloc (.cells #[.int .i64 (W), .int .i64 (H), .slice a n c] 33)
 have hW3g := HRG.out.alloc (.cells #[.int .i64 (H), .int .i64 (W), .slice (some ⟨w1.heap.size+1, 0, none⟩) n n] 33) |>.alloc (.cells #[.int .i64 (W), .int .i64 (H), .slice a n c] 33)
 have hW3o := (tF_alloc w2 H W (.slice (some ⟨w1.heap.size+1, 0, none⟩) n n) rfl).alloc (.cells #[.int .i64 (W), .int .i64 (H), .slice a n c] 33)
 have hW3t := tF_alloc (w2.alloc (.cells #[.int .i64 (H), .int .i64 (W), .slice (some ⟨w1.heap.size+1, 0, none⟩) n n] 33)) W H (.slice a n c) rfl
 rw [World.size_alloc] at hW3t
 have hW3b : Below w.heap.size w ((w2.alloc (.cells #[.int .i64 (H), .int .i64 (W), .slice (some ⟨w1.heap.size+1, 0, none⟩) n n] 33)).alloc (.cells #[.int .i64 (W), .int .i64 (H), .slice a n c] 33)) := (HB2.out.alloc HB2.out.size _).alloc (by simp; have := HB2.out.size; omega) _
 have hsz3 : ((w2.alloc (.cells #[.int .i64 (H), .int .i64 (W), .slice (some ⟨w1.heap.size+1, 0, none⟩) n n] 33)).alloc (.cells #[.int .i64 (W), .int .i64 (H), .slice a n c] 33)).heap.size = w2.heap.size + 2 := by simp
 generalize (w2.alloc (.cells #[.int .i64 (H), .int .i64 (W), .slice (some ⟨w1.heap.size+1, 0, none⟩) n n] 33)).alloc (.cells #[.int .i64 (W), .int .i64 (H), .slice a n c] 33) = W3 at *
 obtain ⟨g, hg⟩ : ∃ g, w1.heap.size + 1 = g := ⟨_, rfl⟩
 obtain ⟨ob, ho⟩ : ∃ ob, w2.heap.size = ob := ⟨_, rfl⟩
 obtain ⟨q, hq⟩ : ∃ q, q = w.heap.size := ⟨_, rfl⟩
 rw [hg] at hW3g hW3o ⊢
 rw [ho] at hW3o hW3t ⊢
 have hord : q + 1 < g ∧ g < ob := by omega
 have hwq : w.heap.size ≤ q := by omega
 have HQ := Lib.hid hq
 have hTI : TI w q ob g (ob+1) (q+1) W H n a c (tC W H bs [] 0 0) W3 := ⟨by rw [hq]; exact hW3q, hW3t, hW3o, by rw [hq]; exact hW3r, hW3g.congr fun p hp => by simp [tC], hW3b⟩
 rw [← hq]
 have hTB : TB (ob+1) W H a n c bs W3 := TB.of_row hW3t (HT.out.bits.below hW3b)
 clear hW3q hW3r hW3g hW3o hW3t hW3b HRQ HRR HRG lq d0 d1 d2 hq hg ho
 refine (wpIn_wide (n := 9)).1 ?_
 refine wpIn_rangeFunc_ownG rfl (by omega) (gf := 57) (lb := #[.pointer (some ⟨ob+1, 0, none⟩)]) rfl trivial (enters_of Tryd.func57 (by kernel_rfl) rfl)
  (rows_stops 8 (by omega) (ob+1) W H a n c bs hW hH HN.out.symm hcap hlim W3 hTB) (fun h k x => k (h x))
  (fun A l o o' _ ho hc _ x => x.kept (grownBy_putObj' A l o') (fun r e => by cases e; exact ⟨o, ho, hc⟩)) (Below.refl _ _) (fun _ => rfl)
  (fun pre W' => TI w q ob g (ob+1) (q+1) W H n a c (tC W H bs pre 0 0) W') (fun _ _ _ => False)
  (fun s A B row hs hg hr => hs.kept hg (fun r e => ⟨by have := (hr r e).1; omega, (hr r e).2⟩)) (fun _ _ _ _ _ hs _ _ => hs) hTI
  (fun x => { tmps := #[.agg #[.int .i64 (W), .int .i64 (H), .slice a n c], .pointer (some ⟨q, 0, none⟩), .pointer (some ⟨q+1, 0, none⟩), .int .i64 (0), .int .i64 (0), .pointer (some ⟨ob, 0, none⟩), .int .i64 ((x.val : Nat)), rowV a c W x.val, undef, undef, .agg #[.int .i64 (W), .int .i64 (H), .slice a n c], .int .i64 (0), .int .i64 (0), .bool false, undef, undef, .pointer (some ⟨q, 1, none⟩), .int .i64 (H), .pointer (some ⟨q, 0, none⟩), .int .i64 (W), .agg #[.int .i64 (H), .int .i64 (W), .slice (some ⟨g, 0, none⟩) n n], .agg #[.int .i64 (W), .int .i64 (H), .slice a n c], .func (.func 57) #[] #[.pointer (some ⟨ob+1, 0, none⟩)], .int .i64 ((x.val : Nat)), rowV a c W x.val, undef, undef, undef, undef, undef, undef, undef, undef, undef, undef, undef, undef, undef, undef, undef, undef, undef, undef, undef], defers := [] }) ?assign ?body ?done ?stop
 case assign =>
  intro l x W' K hK
  gi_wp2
  exact hK
 case body =>
  rintro l pre x W' hTI' _
  obtain ⟨A, cc, hrv, hrow⟩ := rowV_bools (a := a) (bs := bs) hcap HN.out.symm x.isLt
  obtain ⟨y, hy⟩ := x
  have HR := Lib.hid hrow
  simp only at hrv
  simp only [hrv]
  have HTI := Lib.hid hTI'
  clear hTI' hrv hrow
  gi_wp2
  gi_loopw [27] (fun i wr => ∃ k : Nat, k ≤ W ∧ i = .int .i64 k ∧ TI w q ob g (ob+1) (q+1) W H n a c (tC W H bs pre y k) wr ∧ KeepsFrom W3.heap.size W' wr) (fun i _ => W - (intOf i).toNat)
  case atStart => exact ⟨0, Nat.zero_le _, rfl, by rw [show tC W H bs pre y 0 = tC W H bs pre 0 0 from funext fun p => tC_zero]; exact HTI.out, KeepsFrom.refl _ _⟩
  case round =>
   obtain ⟨k, hk, rfl, hT2, hKF⟩ := hrel
   have HT2 := Lib.hid hT2
   have HKF := Lib.hid hKF
   clear hT2 hKF
   by_cases hkW : k < W
   ·obtain ⟨b, o, rfl, hb, hc⟩ := (HR.out _ (HT.out.below HT2.out.bel)).bits.2 (by omega)
    have cb := hc k hkW
    rw [rowL_get bs hkW] at cb
    have co : wr.cell? ⟨ob, 2, none⟩ = some (.slice (some ⟨g, 0, none⟩) n n) := HT2.out.ro.cell (i := 2) (by omega)
    have cq : wr.cell? ⟨q, 1, none⟩ = some (.int .i64 (H)) := HT2.out.rq.cell (i := 1) (by omega)
    obtain ⟨M, hM⟩ : ∃ M, k * H = M := ⟨_, rfl⟩
    have hmul : (k : Int) * (H : Int) = (M : Int) := by rw [← Int.natCast_mul, hM]
    have hlt : M + y < n := by
     rw [← HN.out, ← hM]
     have : (k + 1) * H ≤ W * H := Nat.mul_le_mul_right H hkW
     rw [Nat.add_mul, Nat.one_mul] at this; omega
    have cg := HT2.out.rg.cell (i := M + y) hlt
    have fg := HT2.out.rg.frozen (M + y)
    have HTN : Hid (TI w q ob g (ob+1) (q+1) W H n a c (tC W H bs pre y (k+1)) (wr.setCell ⟨g, M + y, none⟩ (.bool (bs.getD (y * W + k) false)))) := Lib.hid (HT2.out.set (M + y) _ (by omega) (by omega) (by omega) (by omega) (by omega) (fun p hp => by
     by_cases e : p = M + y
     ·subst e; rw [if_pos rfl, ← hM, tC_new hy]
     ·rw [if_neg e, tC_step hy (by rw [hM]; exact e)]))
    have HKN : Hid (KeepsFrom W3.heap.size W' (wr.setCell ⟨g, M + y, none⟩ (.bool (bs.getD (y * W + k) false)))) := Lib.hid (HKF.out.trans ((KeepsOthers.setCell _ _ _).from _))
    generalize bs.getD (y * W + k) false = bit at *
    generalize tC W H bs pre y k (M + y) = old at *
    clear hc hb hM
    gi_wp2
    go_roundw
    case rel => exact ⟨k + 1, by omega, by go_num, HTN.out, HKN.out⟩
    case measure => simp [intOf]; omega
   ·obtain rfl : k = W := by omega
    gi_wp2
    refine ⟨HKF.out, fun _ => TB.of_row HT2.out.rt (HT.out.below HT2.out.bel).bits, ?_⟩
    have := HT2.out
    exact ⟨this.rq, this.rt, this.ro, this.rr, this.rg.congr fun p hp => by rw [tC_row (y := ⟨y, hy⟩) (by rw [HN.out]; exact hp)], this.bel⟩
 case done =>
  rintro D ys W' hD rfl hTI' hK
  have q0 : W'.cell? ⟨ob, 0, none⟩ = some (.int .i64 (H)) := hTI'.ro.cell (i := 0) (by omega)
  have q1 : W'.cell? ⟨ob, 1, none⟩ = some (.int .i64 (W)) := hTI'.ro.cell (i := 1) (by omega)
  have q2 : W'.cell? ⟨ob, 2, none⟩ = some (.slice (some ⟨g, 0, none⟩) n n) := hTI'.ro.cell (i := 2) (by omega)
  have f0 := hTI'.rr.frozen 0; have f1 := hTI'.rr.frozen 1; have f2 := hTI'.rr.frozen 2
  have r0 : W'.cell? ⟨q+1, 0, none⟩ = some (.int .i64 0) := hTI'.rr.cell (i := 0) (by omega)
  have r1 : W'.cell? ⟨q+1, 1, none⟩ = some (.int .i64 0) := hTI'.rr.cell (i := 1) (by omega)
  have r2 : W'.cell? ⟨q+1, 2, none⟩ = some (.slice none 0 0) := hTI'.rr.cell (i := 2) (by omega)
  have HTI := Lib.hid hTI'
  have HKD := Lib.hid hK
  clear hTI' hK
  go_wp2
  have hK1 := (((KeepsOthers.setCell W' ⟨q+1, 0, none⟩ (.int .i64 (H))).trans (KeepsOthers.setCell _ ⟨q+1, 1, none⟩ (.int .i64 (W)))).trans (KeepsOthers.setCell _ ⟨q+1, 2, none⟩ (.slice (some ⟨g, 0, none⟩) n n))).same D _ HKD.out rfl
  have hr4 : (((W'.setCell ⟨q+1, 0, none⟩ (.int .i64 (H))).setCell ⟨q+1, 1, none⟩ (.int .i64 (W))).setCell ⟨q+1, 2, none⟩ (.slice (some ⟨g, 0, none⟩) n n)).rowIs (q+1) 33 3 (tF H W (.slice (some ⟨g, 0, none⟩) n n)) := (((HTI.out.rr.set 0 _).set 1 _).set 2 _).congr fun i hi => by
   have hi3 : i = 0 ∨ i = 1 ∨ i = 2 := by omega
   rcases hi3 with rfl | rfl | rfl <;> rfl
  have hg4 := ((HTI.out.rg.setOther (a := ⟨q+1, 0, none⟩) (by simp; omega) (.int .i64 (H))).setOther (a := ⟨q+1, 1, none⟩) (by simp; omega) (.int .i64 (W))).setOther (a := ⟨q+1, 2, none⟩) (by simp; omega) (.slice (some ⟨g, 0, none⟩) n n)
  have hb4 := ((HTI.out.bel.setCell (p := ⟨q+1, 0, none⟩) (by simp; omega) (.int .i64 (H))).setCell (p := ⟨q+1, 1, none⟩) (by simp; omega) (.int .i64 (W))).setCell (p := ⟨q+1, 2, none⟩) (by simp; omega) (.slice (some ⟨g, 0, none⟩) n n)
  generalize ((W'.setCell ⟨q+1, 0, none⟩ (.int .i64 (H))).setCell ⟨q+1, 1, none⟩ (.int .i64 (W))).setCell ⟨q+1, 2, none⟩ (.slice (some ⟨g, 0, none⟩) n n) = W4 at *
  have hkk : ∀ r, some D = some r → ∃ o : Obj, W4.heap[r]? = some o ∧ o.isCells = false := fun r e => by cases e; exact ⟨_, hK1, rfl⟩
  refine ⟨by simp, .inl ⟨_, _, rfl, run_takeDeferred hK1, ?_⟩⟩
  have hr5 := rowIs_kept hr4 (grownBy_putObj' _ D (.deferred none)) hkk
  have hg5 := rowIs_kept hg4 (grownBy_putObj' _ D (.deferred none)) hkk
  have k0 : (W4.putObj D (.deferred none)).cell? ⟨q+1, 0, none⟩ = some (.int .i64 (H)) := hr5.cell (i := 0) (by omega)
  have k1 : (W4.putObj D (.deferred none)).cell? ⟨q+1, 1, none⟩ = some (.int .i64 (W)) := hr5.cell (i := 1) (by omega)
  have k2 : (W4.putObj D (.deferred none)).cell? ⟨q+1, 2, none⟩ = some (.slice (some ⟨g, 0, none⟩) n n) := hr5.cell (i := 2) (by omega)
  refine ⟨.tuple #[.agg #[.int .i64 (H), .int .i64 (W), .slice (some ⟨g, 0, none⟩) n n], .int .i64 (0)], by simp [results, Tryd.f30, go_sem, k0, k1, k2], ?_⟩
  refine ⟨g, by rw [HN.out], ⟨⟨by rw [turnL_len], fun hn => ⟨g, 0, rfl, hg5.lt, fun p hp => ?_⟩⟩, Nat.le_refl _, by rw [HN.out]; omega⟩, ?_⟩
  ·rw [Nat.zero_add, hg5.cell (by rw [← HN.out]; exact hp), tC_all hp]
  ·exact hb4.trans (belowK_b (w := w) (Nat.le_refl _) W4 D _ _ (by omega) hK1 rfl rfl)
 case stop =>
  rintro D c pre W' _ _ h _
  exact h.elim
end
section
open Go.RowKit
open Go.Shelf
attribute [local go_sem] Oper.semAt_some
def mulB (M W : Nat) (aa bb : List Bool) (Y X : Nat) : Bool := (List.range M).any fun k => aa.getD (Y * M + k) false && bb.getD (k * W + X) false
def prodL (H M W : Nat) (aa bb : List Bool) : List Bool := (List.range (W * H)).map fun p => mulB M W aa bb (p / W) (p % W)
theorem prodL_len (H M W : Nat) (aa bb : List Bool) : (prodL H M W aa bb).length = W * H := by simp [prodL]
def prW (w : World) (W1 H1 : Int) (a1 : Option Addr) (n1 c1 : Nat) (W2 H2 : Int) (a2 : Option Addr) (n2 c2 : Nat) : World :=
 (((w.alloc (.cells #[.int .i64 (W1), .int .i64 (H1), .slice a1 n1 c1] 33)).alloc (.cells #[.int .i64 (W2), .int .i64 (H2), .slice a2 n2 c2] 33)).alloc (.cells #[.int .i64 (0), .int .i64 (0), .slice none 0 0] 33)).alloc (.cells #[.int .i64 (W1), .int .i64 (H1), .slice a1 n1 c1, .int .i64 (W2), .int .i64 (H2), .slice a2 n2 c2] 33)
end
end Go.Proofs.YtajdoobkfbdgoaaDoor
