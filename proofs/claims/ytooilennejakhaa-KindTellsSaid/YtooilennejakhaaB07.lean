/- Lemmas and contracts of functions (what each call returns, and that it changes nothing that was there) that the proof of a law of this seat uses; each lemma states its own conditions. -/
import Derived.Test.YtooilennejakhaaB05
import Derived.Test.YtooilennejakhaaB04
import Derived.Test.YtooilennejakhaaB06
import Derived.IntWalk
import Derived.CallsIn
import Derived.OrdersIn
import Derived.TacticsIn
namespace Go.Proofs.Ytooilennejakhaa
open Go.RowKit
set_option linter.unusedVariables false
set_option linter.unusedSimpArgs false
section
variable {P : Program} {ops : Array Oper} {md : Region.Mode}
/-- Operation om, run in whatever world, makes the block z, and yields what mk says of its number. -/
def Makes (P : Program) (om : Oper) (a : Act) (mk : Nat → Value) (z : Obj) : Prop := ∀ w : World, (execOp a.eval om).run P w = .ok (.value (mk w.heap.size)) (w.alloc z)
def headB (P : Program) (md : Region.Mode) (ops : Array Oper) (n m : Nat) (om : Oper) (mk : Nat → Value) (z : Obj) (L : Array Bool → Act → World → Prop) : Nat → Array Bool → Act → World → Prop
  | 0, listed, a, W => ∀ E d, L listed a (extW W E d)
  | f + 1, listed, a, W => Region.ready md ops listed ≠ [] ∧ ∀ i ∈ Region.ready md ops listed, i < n ∧
      ((i = m → Makes P om a mk z ∧ ∀ E d, headB P md ops n m om mk z L f (listed.setIfInBounds i true) (a.put om.dst (mk (extW W E d).heap.size)) ((extW W E d).alloc z)) ∧
       (i ≠ m → qOp P ops (fun w => ∃ E d, w = extW W E d) i (fun a' => headB P md ops n m om mk z L f (listed.setIfInBounds i true) a' W) a))
theorem headB_any {n m g : Nat} {om : Oper} {mk : Nat → Value} {z : Obj} {L : Array Bool → Act → World → Prop} {Q : Exit → Act → World → Prop} (hom : ops[m]? = some om) (hgd : om.guard = none)
    (hL : ∀ listed a w, L listed a w → wpAny P md ops Q g listed a w) (f : Nat) :
    ∀ (listed : Array Bool) (a : Act) (W : World), headB P md ops n m om mk z L f listed a W → ∀ E d, wpAny P md ops Q (f + g) listed a (extW W E d) := by
  induction f with
  | zero => intro listed a W h E d; rw [Nat.zero_add]; exact hL _ _ _ (h E d)
  | succ f ih =>
    intro listed a W h E d
    rw [show f + 1 + g = (f + g) + 1 by omega]
    refine ⟨fun h0 => absurd h0 h.1, fun i hi => ?_⟩
    obtain ⟨_, h1, h2⟩ := h.2 i hi
    by_cases him : i = m
    · subst him
      obtain ⟨hmk, h1⟩ := h1 rfl
      unfold wpOp
      simp only [hom, Region.wanted, hgd, if_true]
      left
      unfold Oper.wp
      rw [hmk]
      have := ih _ _ _ (h1 E d) #[] ((extW W E d).alloc z).drawn
      rwa [extW_self] at this
    · refine wpOp_of_qOp (C := fun w => ∃ E d, w = extW W E d) ⟨E, d, rfl⟩ (fun a' w' hw' h' => ?_) (h2 him)
      obtain ⟨E', d', rfl⟩ := hw'
      exact ih _ _ _ h' E' d'
theorem headB_first {n m i : Nat} {oi om : Oper} {v : Value} {mk : Nat → Value} {z : Obj} {L : Array Bool → Act → World → Prop} (hi : ops[i]? = some oi) (hom : ops[m]? = some om) (hgm : om.guard = none) (hsel : ∀ (j : Nat) (o : Oper) cs b, ops[j]? = some o → o.op ≠ .select cs b)
    (hs : Region.sinkB md ops n = true) (hc : Region.chainB md ops n = true) (hn : n < ops.size) (hin : i < n) (him : i ≠ m)
    (hdone : ∀ listed a w, L listed a w → ∀ j ∈ Region.ready md ops listed, n ≤ j) (W0 : World) (f : Nat) :
    ∀ (listed : Array Bool) (a : Act) (W : World), (∃ E d, W = extW W0 E d) → HeadInv md ops n listed →
      (∀ j oj, ops[j]? = some oj → j ≠ i → listed.getD j true = false → (∀ e ∈ oj.after, Region.binds md e = true → e.on ≠ i) → oi.apart ops oj = true) →
      i ∈ Region.ready md ops listed → (∀ E d, YieldsIn P ops (fun w => ∃ F e, w = extW (extW W0 E d) F e) oi v a) →
      headB P md ops n m om mk z L f (listed.setIfInBounds i true) (a.put oi.dst v) W → headB P md ops n m om mk z L (f + 1) listed a W := by
  have eat : ∀ E d F e, extW (extW W0 E d) F e = extW W0 (E ++ F) e := fun E d F e => extW_extW W0 E F d e
  induction f with
  | zero =>
    intro listed a W hW inv _ hr hy H
    obtain ⟨E0, d0, rfl⟩ := hW
    refine ⟨List.ne_nil_of_mem hr, fun j hj => ?_⟩
    have hjn : j < n := Nat.lt_of_not_le fun h => tail_waits hs hc hn inv _ i rfl hin (mem_ready.1 hr).1 j h hj
    refine ⟨hjn, ?_⟩
    by_cases hji : j = i
    · subst hji; exact ⟨fun h => absurd h him, fun _ => (hy E0 d0).qOp hi H⟩
    · exact absurd (hdone _ _ _ (H #[] 0) j (ready_mono hj hji)) (by omega)
  | succ f ih =>
    intro listed a W hW inv hfree hr hy H
    obtain ⟨E0, d0, rfl⟩ := hW
    refine ⟨List.ne_nil_of_mem hr, fun j hj => ?_⟩
    have hjn : j < n := Nat.lt_of_not_le fun h => tail_waits hs hc hn inv _ i rfl hin (mem_ready.1 hr).1 j h hj
    refine ⟨hjn, ?_⟩
    by_cases hji : j = i
    · subst hji; exact ⟨fun h => absurd h him, fun _ => (hy E0 d0).qOp hi H⟩
    · obtain ⟨hjun, oj, hoj, hall⟩ := mem_ready.1 hj
      have hnot : ∀ e ∈ oj.after, Region.binds md e = true → e.on ≠ i := by
        intro e he hb heq
        have h1 := hall e he hb
        rw [heq, getD_both (mem_ready.1 hr).1] at h1
        cases h1
      have hap := hfree j oj hoj hji hjun hnot
      have hfree' : ∀ k ok, ops[k]? = some ok → k ≠ i → (listed.setIfInBounds j true).getD k true = false → (∀ e ∈ ok.after, Region.binds md e = true → e.on ≠ i) → oi.apart ops ok = true := by
        intro k ok hk hki hun hno
        refine hfree k ok hk hki ?_ hno
        by_cases hjk : j = k
        · subst hjk; exact hjun
        · rwa [getD_set_ne true hjk] at hun
      obtain ⟨_, H1, H2⟩ := H.2 j (ready_mono hj hji)
      obtain ⟨p1, p2, p3⟩ := Oper.apart_spec hap
      constructor
      · intro hjm
        have e : oj = om := by subst hjm; exact Option.some.inj (hoj.symm.trans hom)
        subst e
        obtain ⟨hmk, H3'⟩ := H1 hjm
        refine ⟨fun w => ?_, fun E d => ?_⟩
        · have := hmk w
          rwa [execOp_put oj (fun cs b => hsel j oj cs b hoj) a oi.dst v p1] at this
        · have H3 := H3' E d
          refine ih _ _ _ ?_ (inv.set hj hjn) hfree' (ready_mono hr (Ne.symm hji)) (fun E' d' => ?_) ?_
          · rw [eat]
            exact ⟨(E0 ++ E).push z, d, by simp [extW, World.alloc]⟩
          · exact (hy E' d').of_same (execOp_put oi (fun cs b => hsel i oi cs b hi) a _ _ p3) (wanted_put oi a _ _ p3)
          · rw [Array.setIfInBounds_comm _ _ hji, Act.put_comm a v _ p2] at *
            exact H3
      · intro hjm
        have h2 := qOp_put hoj hap (fun cs b => hsel i oi cs b hi) (fun cs b => hsel j oj cs b hoj) (hy E0 d0) (H2 hjm)
        unfold qOp at h2 ⊢
        simp only [hoj] at h2 ⊢
        have keep : ∀ u, ∀ E d, YieldsIn P ops (fun w => ∃ F e, w = extW (extW W0 E d) F e) oi v (a.put oj.dst u) := fun u E d =>
          (hy E d).of_same (execOp_put oi (fun cs b => hsel i oi cs b hi) a oj.dst u p3) (wanted_put oi a oj.dst u p3)
        split
        · rename_i hw
          simp only [hw, if_true] at h2
          obtain ⟨u, hu, _, h3⟩ := h2
          refine ⟨u, hu, ih _ _ _ ⟨E0, d0, rfl⟩ (inv.set hj hjn) hfree' (ready_mono hr (Ne.symm hji)) (keep u) ?_⟩
          rw [Array.setIfInBounds_comm _ _ hji]
          exact h3
        · rename_i hw
          simp only [hw] at h2
          refine ih _ _ _ ⟨E0, d0, rfl⟩ (inv.set hj hjn) hfree' (ready_mono hr (Ne.symm hji)) (keep undef) ?_
          rw [Array.setIfInBounds_comm _ _ hji]
          exact h2.2
theorem headB_lex {m : Nat} {g : Nat} {om : Oper} {mk : Nat → Value} {z : Obj} {K : Act → Prop} {W : World} (hom : ops[m]? = some om) (hgm : om.guard = none) (hsel : Region.noSelect ops = true) (hs : Region.sinkB md ops (m+1) = true) (hc : Region.chainB md ops (m+1) = true) (hn : m + 1 < ops.size) (hKm : ∀ a, K a → Makes P om a mk z) (l : List Oper) :
    ∀ (k : Nat) (listed : Array Bool) (a : Act), (∀ j, j < l.length → l[j]? = ops[k + j]?) → k + l.length = m → HeadInv md ops (m+1) listed →
    Region.lexHead md ops (g+1) l.length k listed = true → wpV P ops W K l a →
    headB P md ops (m+1) m om mk z (fun listed' a' w' => Region.seqB md ops g (m+1) listed' = true ∧ ∃ a0 E d E' d', K a0 ∧ a' = a0.put om.dst (mk (extW W E d).heap.size) ∧ w' = extW ((extW W E d).alloc z) E' d') (l.length + 1) listed a W := by
  induction l with
  | nil =>
    intro k listed a _ hk inv hB h
    have hkn : k = m := by simpa using hk
    subst hkn
    simp only [List.length_nil, Region.lexHead, Region.seqB, Bool.and_eq_true, decide_eq_true_eq] at hB
    refine ⟨by rw [hB.1]; simp, fun i hi => ?_⟩
    rw [hB.1] at hi
    have hik : i = k := by simpa using hi
    subst hik
    exact ⟨by omega, fun _ => ⟨hKm a h, fun E d E' d' => ⟨hB.2, a, E, d, E', d', h, rfl, rfl⟩⟩, fun h => absurd rfl h⟩
  | cons o l ih =>
    intro k listed a hl hk inv hB h
    have h0 : ops[k]? = some o := by simpa using (hl 0 (by simp)).symm
    simp only [List.length_cons, Region.lexHead, Bool.and_eq_true] at hB
    obtain ⟨⟨hr, hf⟩, hB'⟩ := hB
    have hkn : k < m := by simp only [List.length_cons] at hk; omega
    have hr' : k ∈ Region.ready md ops listed := by simpa using hr
    have step : ∃ v, (∀ E d, YieldsIn P ops (fun w => ∃ F e, w = extW (extW W E d) F e) o v a) ∧ wpV P ops W K l (a.put o.dst v) := by
      unfold wpV at h
      by_cases hw : Region.wanted o (yielded ops a.tmps) = true
      · rw [if_pos hw] at h
        obtain ⟨v, h1, h2⟩ := h
        refine ⟨v, fun E d => .inl ⟨hw, fun w hwC => ?_⟩, h2⟩
        obtain ⟨F, e, rfl⟩ := hwC
        rw [extW_extW]
        refine quietAt_mono (fun w' hw' => ?_) (h1 (E ++ F) e)
        obtain ⟨F', e', rfl⟩ := hw'
        exact ⟨F ++ F', e', by rw [extW_extW, extW_extW, Array.append_assoc]⟩
      · rw [if_neg hw] at h
        exact ⟨undef, fun E d => .inr ⟨by simpa using hw, rfl⟩, h⟩
    obtain ⟨v, hy, hK⟩ := step
    exact headB_first h0 hom hgm (Region.noSelect_spec hsel) hs hc hn (by omega) (by omega) (fun listed' a' w' hL => seqB_ready hL.1) W (l.length + 1) listed a W (extOf_refl W) inv (Region.free_spec h0 hf) hr' hy
      (ih (k + 1) _ _ (fun j hj => by have := hl (j + 1) (by simp; omega); simpa [Nat.add_assoc, Nat.add_comm 1 j] using this) (by simp only [List.length_cons] at hk; omega) (inv.set hr' (by omega)) hB' hK)
end
/-- The first m operations read, or call what only adds blocks; number m makes a block; the others come behind them, in one forced order. -/
theorem any_region_ext_build {Q : Exit → Act → World → Prop} {a : Act} {w : World} {l : List Oper} (m : Nat) (om : Oper) (mk : Nat → Value) (z : Obj) (hm : Try.prog.follows .mixedOrders = true) (hB' : (Region.noSelect l.toArray && decide (m + 1 < l.length) && Region.sinkB .any l.toArray (m+1) && Region.chainB .any l.toArray (m+1) && Region.lexHead .any l.toArray (l.length - (m+1) + 1) m 0 (Array.replicate l.length false)) = true)
    (hom : l[m]? = some om) (hgm : om.guard = none)
    (h : wpV Try.prog l.toArray w (fun a' => Makes Try.prog om a' mk z ∧ ∀ E d E' d', wpList Try.prog l.toArray Q (l.drop (m+1)) (a'.put om.dst (mk (extW w E d).heap.size)) (extW ((extW w E d).alloc z) E' d')) (l.take m) a) : wpAny Try.prog .any l.toArray Q l.toArray.size (Array.replicate l.toArray.size false) a { w with drawn := w.drawn + 1 } := by
  simp only [Bool.and_eq_true, decide_eq_true_eq] at hB'
  obtain ⟨⟨⟨⟨hsel, hn⟩, hs⟩, hc⟩, hlex⟩ := hB'
  have htl : (l.take m).length = m := by simp; omega
  have hdl : (l.drop (m+1)).length = l.length - (m+1) := by simp
  have inv0 : HeadInv .any l.toArray (m+1) (Array.replicate l.length false) :=
    ⟨by simp, fun j oj _ hl => (by rw [getD_replicate_false] at hl; cases hl), fun t _ ht => getD_in (by simpa using ht) (getD_replicate_false _ _)⟩
  have hom2 : l.toArray[m]? = some om := by simpa using hom
  have H := headB_lex (P := Try.prog) (md := .any) (g := l.length - (m+1)) (z := z) (mk := mk) (W := w) hom2 hgm hsel hs hc (by simpa using hn) (fun a ha => ha.1) (l.take m) 0 _ a (fun j hj => by
    have hj' : j < m := by rw [htl] at hj; exact hj
    simp [hj']) (by simpa using htl) inv0 (by rw [htl]; exact hlex) h
  have := headB_any (g := l.length - (m+1)) (Q := Q) hom2 hgm (fun listed a' w' hL => by
    obtain ⟨hsq, a0, E, d, E', d', hK, rfl, rfl⟩ := hL
    have := wpAny_of_seq (md := .any) (Q' := Q) (l.drop (m+1)) (m+1) listed (a0.put om.dst (mk (extW w E d).heap.size)) (extW ((extW w E d).alloc z) E' d') (fun j => by simp [List.getElem?_drop]) (by rw [hdl]; exact hsq) (hK.2 E d E' d')
    rwa [hdl] at this) _ _ _ w H #[] (w.drawn + 1)
  rw [htl, extW_self] at this
  have e : m + 1 + (l.length - (m + 1)) = l.length := by omega
  rw [e] at this
  simpa using this
theorem wp_region_ext_build {id : Nat} {Q : Exit → Act → World → Prop} {a : Act} {w : World} {l : List Oper} (m : Nat) (om : Oper) (mk : Nat → Value) (z : Obj) (hm : Try.prog.follows .mixedOrders = true) (hB' : (Region.noSelect l.toArray && decide (m + 1 < l.length) && Region.sinkB .any l.toArray (m+1) && Region.chainB .any l.toArray (m+1) && Region.lexHead .any l.toArray (l.length - (m+1) + 1) m 0 (Array.replicate l.length false)) = true)
    (hom : l[m]? = some om) (hgm : om.guard = none)
    (h : wpV Try.prog l.toArray w (fun a' => Makes Try.prog om a' mk z ∧ ∀ E d E' d', wpList Try.prog l.toArray Q (l.drop (m+1)) (a'.put om.dst (mk (extW w E d).heap.size)) (extW ((extW w E d).alloc z) E' d')) (l.take m) a) : (Code.region id l.toArray true).wp Try.prog Q a w := wp_region_any hm (any_region_ext_build m om mk z hm hB' hom hgm h)
/-- A slice of one element made in place. -/
def mkOne (n : Nat) : Value := .slice (some ⟨n, 0, none⟩) 1 1
theorem built_cell (W : World) (E : Array Obj) (d : Nat) (cs : Array Value) (t : TypeId) (E' : Array Obj) (d' : Nat) (j : Nat) (u : Value) (h : cs[j]? = some u) :
    (extW ((extW W E d).alloc (.cells cs t)) E' d').cell? ⟨(extW W E d).heap.size, j, none⟩ = some u := by
  rw [cell?_extW _ _ (by unfold LtW; rw [World.size_alloc]; omega), World.cell?_alloc_new]
  exact h
theorem built_below (W : World) (E : Array Obj) (d : Nat) (z : Obj) (E' : Array Obj) (d' : Nat) : Below W.heap.size W (extW ((extW W E d).alloc z) E' d') :=
  bExtW ((bExtW (Below.refl _ _) (Nat.le_refl _)).alloc (by simp) _) (by simp; omega)
/-- 'append(s, x)' of one element, which lies in block B. -/
theorem wpAppB {W : World} {ops : Array Oper} {rest : List Oper} {o : Oper} {a : Act} {Q : Exit → Act → World → Prop} {t e size bytes : Nat} {z : Value} (hE : ElemOk t e size bytes z)
    (hgd : o.guard = none) (s x : Operand) (ho : o.op = .call { callee := .builtin .append, args := #[s, x], argTypes := #[t, t] })
    (base : Nat) (v : Value) (n : Nat) (xs : List Value) (cs : Array Value) (B : Nat) (hs : a.eval s = v) (hown : W.ownsRow base e size v n xs)
    (hx : a.eval x = .slice (some ⟨B, 0, none⟩) 1 1) (hcs : ∀ j u, cs[j]? = some u → W.cell? ⟨B, j, none⟩ = some u) (hl : cs.size = size) (h1 : ∀ u ∈ cs.toList, u.oneCell' = true)
    (hb : bytes ≤ 4096) (hn : n ≤ 1000000000) (hbase : base ≤ W.heap.size)
    (h : ∀ v' w', w'.ownsRow base e size v' (n + 1) (xs ++ cs.toList) → Below base W w' → wpList Try.prog ops Q rest (a.put o.dst v') w') : wpList Try.prog ops Q (o :: rest) a W := by
  obtain ⟨h2, h3, h4, h5⟩ := hE
  obtain ⟨i0, hi, hz0, hz1, hz2⟩ := info_parts h3
  refine wpList_append_own _ hgd s x t ho base e i0 z size bytes h2 hi hz0 hz1 hz2 h4 h5 v n xs hs hown ⟨B, 0, none⟩ 1 1 cs.toList hx (by simpa using hl) ?_ h1 (by unfold maxLen; omega) ?_ hbase ?_
  · intro j u hj
    have : (⟨B, 0, none⟩ : Addr).add j = ⟨B, j, none⟩ := by rw [Addr.add_lit]; simp
    rw [this]
    exact hcs j u (by simpa using hj)
  · calc (n + 1) * bytes ≤ 1000000001 * 4096 := Nat.mul_le_mul (by omega) hb
      _ ≤ 140737488355328 := by omega
  · intro v' w' hown' hg _
    refine h v' w' hown' ?_
    have hk := hown.lt
    exact belowGrown hg hbase fun k hk' => (hk k hk').1
end Go.Proofs.Ytooilennejakhaa

namespace Go.Proofs.Ytooilennejakhaa
open Go.RowKit
set_option linter.unusedVariables false
set_option linter.unusedSimpArgs false
open Go.Shelf
attribute [local go_sem] Oper.semAt_some
/-- A list of truths with room for c. -/
structure OkT (w : World) (a : Option Addr) (n c : Nat) (bs : List Bool) : Prop where
  bits : IsBools w a n bs
  cap : n ≤ c
  lim : c ≤ 9223372036854775807
theorem OkT.below {w w' : World} {a : Option Addr} {n c : Nat} {bs : List Bool} (h : OkT w a n c bs) (hb : Below w.heap.size w w') : OkT w' a n c bs := ⟨h.bits.below hb, h.cap, h.lim⟩
theorem OkT.kept {W W' : World} {row : Option Nat} {a : Option Addr} {n c : Nat} {bs : List Bool} (h : OkT W a n c bs) (hg : W.grownBy W' row) (hr : ∀ r, row = some r → ∃ o : Obj, W.heap[r]? = some o ∧ o.isCells = false) : OkT W' a n c bs := ⟨h.bits.kept hg hr, h.cap, h.lim⟩
/-- The cells of a truth in a block. -/
def tF (W H : Int) (v : Value) : Nat → Value := fun j => if j = 0 then .int .i64 W else if j = 1 then .int .i64 H else v
/-- The bits of row y. -/
def rowL (bs : List Bool) (W y : Nat) : List Bool := (List.range W).map fun x => bs.getD (y * W + x) false
theorem rowL_len (bs : List Bool) (W y : Nat) : (rowL bs W y).length = W := by simp [rowL]
theorem rowL_get (bs : List Bool) {W y x : Nat} (hx : x < W) : (rowL bs W y).getD x false = bs.getD (y * W + x) false := by
  unfold rowL; simp [List.getD, hx]
theorem rowV_bools {a : Option Addr} {n c W H y : Nat} {bs : List Bool} (hcap : n ≤ c) (hn : n = W * H) (hy : y < H) : ∃ A cc, rowV a c W y = .slice A W cc ∧ ∀ w, OkT w a n c bs → OkT w A W cc (rowL bs W y) := by
  have hle : y * W + W ≤ n := by
    have : (y + 1) * W ≤ H * W := Nat.mul_le_mul_right W hy
    rw [Nat.add_mul, Nat.one_mul] at this
    rw [hn, Nat.mul_comm W H]; exact this
  refine ⟨_, _, rfl, fun w h => ⟨⟨rowL_len _ _ _, fun hW => ?_⟩, by omega, by have := h.lim; omega⟩⟩
  obtain ⟨b, o, rfl, hb, hc⟩ := h.bits.2 (by omega)
  refine ⟨b, o + y * W, ?_, hb, fun j hj => ?_⟩
  · rw [if_neg (by omega)]; simp [Addr.add]
  · rw [rowL_get _ hj, Nat.add_assoc]
    exact hc _ (by omega)
theorem wrT_ok {W H : Nat} (hW : W ≤ 64) (hH : H ≤ 64) : wrT W H (W * H) = 0 := by
  unfold wrT; rw [if_neg (by omega), if_neg (by rw [Int.natCast_mul]; simp)]
/-- Rows for columns. -/
def turnL (W H : Nat) (bs : List Bool) : List Bool := (List.range (W * H)).map fun p => bs.getD ((p % H) * W + p / H) false
theorem turnL_len (W H : Nat) (bs : List Bool) : (turnL W H bs).length = W * H := by simp [turnL]
end Go.Proofs.Ytooilennejakhaa

namespace Go.Proofs.Ytooilennejakhaa
open Go.RowKit
set_option linter.unusedVariables false
set_option linter.unusedSimpArgs false
open Go.Shelf
attribute [local go_sem] Oper.semAt_some
/-- What has been turned when these rows, and of row y the first x, are done. -/
def tC (W H : Nat) (bs : List Bool) (pre : List (Fin H)) (y x : Nat) (p : Nat) : Bool :=
  (decide (p % H ∈ pre.map Fin.val) || (decide (p % H = y) && decide (p / H < x))) && bs.getD ((p % H) * W + p / H) false
theorem tC_step {W H : Nat} {bs : List Bool} {pre : List (Fin H)} {y x p : Nat} (hy : y < H) (hp : p ≠ x * H + y) : tC W H bs pre y (x+1) p = tC W H bs pre y x p := by
  unfold tC
  by_cases e : p % H = y
  · have hx : p / H ≠ x := by
      intro hx
      apply hp
      have := Nat.div_add_mod p H
      rw [e, hx, Nat.mul_comm] at this
      omega
    have : (p / H < x + 1) ↔ (p / H < x) := by omega
    simp [this]
  · simp [e]
theorem tC_new {W H : Nat} {bs : List Bool} {pre : List (Fin H)} {y x : Nat} (hy : y < H) : tC W H bs pre y (x+1) (x * H + y) = bs.getD (y * W + x) false := by
  unfold tC
  have h1 : (x * H + y) % H = y := by rw [Nat.mul_comm, Nat.mul_add_mod, Nat.mod_eq_of_lt hy]
  have h2 : (x * H + y) / H = x := by rw [Nat.mul_comm, Nat.mul_add_div (by omega), Nat.div_eq_of_lt hy]; omega
  rw [h1, h2]; simp
theorem tC_row {W H : Nat} {bs : List Bool} {pre : List (Fin H)} {y : Fin H} {p : Nat} (hp : p < W * H) : tC W H bs pre y W p = tC W H bs (pre ++ [y]) 0 0 p := by
  unfold tC
  have h : p / H < W := Nat.div_lt_of_lt_mul (by rw [Nat.mul_comm]; exact hp)
  simp [h, List.mem_append]
theorem tC_zero {W H : Nat} {bs : List Bool} {pre : List (Fin H)} {y p : Nat} : tC W H bs pre y 0 p = tC W H bs pre 0 0 p := by
  unfold tC; simp
theorem tC_all {W H : Nat} {bs : List Bool} {p : Nat} (hp : p < W * H) : tC W H bs (List.finRange H) 0 0 p = (turnL W H bs).getD p false := by
  have hH : 0 < H := by rcases Nat.eq_zero_or_pos H with h | h; · subst h; simp at hp
                        · exact h
  unfold tC turnL
  have h1 : p % H ∈ (List.finRange H).map Fin.val := by
    rw [List.mem_map]; exact ⟨⟨p % H, Nat.mod_lt _ hH⟩, List.mem_finRange _, rfl⟩
  have e : ((List.range (W * H)).map fun p => bs.getD ((p % H) * W + p / H) false).getD p false = bs.getD ((p % H) * W + p / H) false := by
    rw [List.getD_eq_getElem?_getD, List.getElem?_map, List.getElem?_range hp]; rfl
  rw [e, decide_eq_true h1]; simp
def TurnedPost (W H : Nat) (bs : List Bool) (w : World) (r : Ending) (w' : World) : Prop :=
  ∃ g, r = .returned (.tuple #[.agg #[.int .i64 (H), .int .i64 (W), .slice (some ⟨g, 0, none⟩) (W*H) (W*H)], .int .i64 (0)]) ∧ OkT w' (some ⟨g, 0, none⟩) (W*H) (W*H) (turnL W H bs) ∧ Below w.heap.size w w'
end Go.Proofs.Ytooilennejakhaa

namespace Go.Proofs.Ytooilennejakhaa
open Go.RowKit
set_option linter.unusedVariables false
set_option linter.unusedSimpArgs false
open Go.Shelf
attribute [local go_sem] Oper.semAt_some
/-- What is wrong with a product. -/
def prE (W1 H1 : Int) (n1 : Nat) (W2 H2 : Int) (n2 : Nat) : Int := if wrT W1 H1 n1 ≠ 0 then wrT W1 H1 n1 else if wrT W2 H2 n2 ≠ 0 then wrT W2 H2 n2 else if W1 ≠ H2 then 8 else 0
def mulB (M W : Nat) (aa bb : List Bool) (Y X : Nat) : Bool := (List.range M).any fun k => aa.getD (Y * M + k) false && bb.getD (k * W + X) false
/-- The product: H rows of W. -/
def prodL (H M W : Nat) (aa bb : List Bool) : List Bool := (List.range (W * H)).map fun p => mulB M W aa bb (p / W) (p % W)
theorem prodL_len (H M W : Nat) (aa bb : List Bool) : (prodL H M W aa bb).length = W * H := by simp [prodL]
end Go.Proofs.Ytooilennejakhaa

namespace Go.Proofs.Ytooilennejakhaa
open Go.RowKit
set_option linter.unusedVariables false
set_option linter.unusedSimpArgs false
open Go.Shelf
attribute [local go_sem] Oper.semAt_some
/-- What holds in the product when these rows are done, and of row y these of the middle, and of the next one (k) the first x. -/
def pC (H M W : Nat) (aa bb : List Bool) (pre : List (Fin H)) (y : Nat) (pre2 : List (Fin M)) (k x : Nat) (p : Nat) : Bool :=
  (decide (p / W ∈ pre.map Fin.val) && mulB M W aa bb (p / W) (p % W)) ||
  (decide (p / W = y) && ((pre2.any fun k' => aa.getD (p / W * M + k'.val) false && bb.getD (k'.val * W + p % W) false) || (decide (p % W < x) && (aa.getD (p / W * M + k) false && bb.getD (k * W + p % W) false))))
section
variable {H M W : Nat} {aa bb : List Bool} {pre : List (Fin H)} {y : Nat} {pre2 : List (Fin M)} {k x p : Nat}
theorem pC_zero : pC H M W aa bb pre y [] 0 0 p = pC H M W aa bb pre 0 [] 0 0 p := by unfold pC; simp
theorem pC_x0 : pC H M W aa bb pre y pre2 k 0 p = pC H M W aa bb pre y pre2 0 0 p := by unfold pC; simp
theorem pC_row (k : Fin M) (hW : 0 < W) : pC H M W aa bb pre y pre2 k W p = pC H M W aa bb pre y (pre2 ++ [k]) 0 0 p := by
  unfold pC
  have : p % W < W := Nat.mod_lt _ hW
  simp [this, List.any_append]
theorem any_fin (f : Nat → Bool) : ((List.finRange M).any fun k => f k.val) = (List.range M).any f := by
  rw [Bool.eq_iff_iff]
  simp only [List.any_eq_true, List.mem_finRange, true_and, List.mem_range]
  exact ⟨fun ⟨k, h⟩ => ⟨k.val, k.isLt, h⟩, fun ⟨k, hk, h⟩ => ⟨⟨k, hk⟩, h⟩⟩
theorem pC_outer (y : Fin H) : pC H M W aa bb pre y (List.finRange M) 0 0 p = pC H M W aa bb (pre ++ [y]) 0 [] 0 0 p := by
  unfold pC
  rw [any_fin (M := M) (fun k' => aa.getD (p / W * M + k') false && bb.getD (k' * W + p % W) false)]
  simp only [List.map_append, List.mem_append, List.map_cons, List.map_nil, List.mem_singleton]
  unfold mulB
  by_cases h1 : p / W ∈ pre.map Fin.val <;> by_cases h2 : p / W = y.val <;> simp [h1, h2]
  all_goals (intros; simp_all)
theorem pC_step (hW : 0 < W) (hx : x < W) (hp : p ≠ y * W + x ∨ (aa.getD (y * M + k) false && bb.getD (k * W + x) false) = false) : pC H M W aa bb pre y pre2 k (x+1) p = pC H M W aa bb pre y pre2 k x p := by
  unfold pC
  by_cases e : p / W = y
  · by_cases ex : p % W = x
    · have hpe : p = y * W + x := by
        have := Nat.div_add_mod p W
        rw [e, ex, Nat.mul_comm] at this; omega
      rcases hp with hp | hp
      · exact absurd hpe hp
      · rw [e, ex, hp]; simp
    · have : (p % W < x + 1) ↔ (p % W < x) := by omega
      simp [this]
  · simp [e]
theorem pC_new (hW : 0 < W) (hx : x < W) (h : (aa.getD (y * M + k) false && bb.getD (k * W + x) false) = true) : pC H M W aa bb pre y pre2 k (x+1) (y * W + x) = true := by
  unfold pC
  have h1 : (y * W + x) / W = y := by rw [Nat.mul_comm, Nat.mul_add_div hW, Nat.div_eq_of_lt hx]; omega
  have h2 : (y * W + x) % W = x := by rw [Nat.mul_comm, Nat.mul_add_mod, Nat.mod_eq_of_lt hx]
  rw [h1, h2, h]; simp
theorem pC_all (hp : p < W * H) : pC H M W aa bb (List.finRange H) 0 [] 0 0 p = (prodL H M W aa bb).getD p false := by
  have hW : 0 < W := by rcases Nat.eq_zero_or_pos W with h | h; · subst h; simp at hp
                        · exact h
  have hd : p / W < H := Nat.div_lt_of_lt_mul hp
  have h1 : p / W ∈ (List.finRange H).map Fin.val := by
    rw [List.mem_map]; exact ⟨⟨p / W, hd⟩, List.mem_finRange _, rfl⟩
  have e : (prodL H M W aa bb).getD p false = mulB M W aa bb (p / W) (p % W) := by
    unfold prodL
    rw [List.getD_eq_getElem?_getD, List.getElem?_map, List.getElem?_range hp]; rfl
  rw [e]
  unfold pC
  rw [decide_eq_true h1]; simp
end
theorem grownBy_setCellAt (W : World) (b i : Nat) (v : Value) : W.grownBy (W.setCell ⟨b, i, none⟩ v) (some b) :=
  ⟨rfl, rfl, rfl, (KeepsWalks.setCell W _ v).size, fun k _ hk => Below.heap_setCell _ _ _ k (fun e => hk (by rw [e]))⟩
section
variable {w : World} {qb ob g ta rb M H W n1 n2 n : Nat} {a1 : Option Addr} {c1 : Nat} {a2 : Option Addr} {c2 : Nat} {f f' : Nat → Bool} {A B : World}
end
def ProductPost (H M W : Nat) (aa bb : List Bool) (w : World) (r : Ending) (w' : World) : Prop :=
  ∃ g, r = .returned (.tuple #[.agg #[.int .i64 (W), .int .i64 (H), .slice (some ⟨g, 0, none⟩) (W*H) (W*H)], .int .i64 (0)]) ∧ OkT w' (some ⟨g, 0, none⟩) (W*H) (W*H) (prodL H M W aa bb) ∧ Below w.heap.size w w'
end Go.Proofs.Ytooilennejakhaa

namespace Go.Proofs.Ytooilennejakhaa
open Go.RowKit
set_option linter.unusedVariables false
set_option linter.unusedSimpArgs false
theorem getD_map_range {n p : Nat} (f : Nat → Bool) (hp : p < n) : ((List.range n).map f).getD p false = f p := by
  rw [List.getD_eq_getElem?_getD, List.getElem?_map, List.getElem?_range hp]; rfl
theorem turnL_get {W H x y : Nat} {bs : List Bool} (hx : x < W) (hy : y < H) : (turnL W H bs).getD (x * H + y) false = bs.getD (y * W + x) false := by
  unfold turnL
  have hlt : x * H + y < W * H := by
    have : (x + 1) * H ≤ W * H := Nat.mul_le_mul_right H hx
    rw [Nat.add_mul, Nat.one_mul] at this; omega
  rw [getD_map_range _ hlt]
  have h1 : (x * H + y) % H = y := by rw [Nat.mul_comm, Nat.mul_add_mod, Nat.mod_eq_of_lt hy]
  have h2 : (x * H + y) / H = x := by rw [Nat.mul_comm, Nat.mul_add_div (by omega), Nat.div_eq_of_lt hy]; omega
  rw [h1, h2]
theorem prodL_get {H M W X Y : Nat} {aa bb : List Bool} (hx : X < W) (hy : Y < H) : (prodL H M W aa bb).getD (Y * W + X) false = mulB M W aa bb Y X := by
  unfold prodL
  have hlt : Y * W + X < W * H := by
    have : (Y + 1) * W ≤ H * W := Nat.mul_le_mul_right W hy
    rw [Nat.add_mul, Nat.one_mul, Nat.mul_comm H W] at this; omega
  rw [getD_map_range _ hlt]
  have h1 : (Y * W + X) % W = X := by rw [Nat.mul_comm, Nat.mul_add_mod, Nat.mod_eq_of_lt hx]
  have h2 : (Y * W + X) / W = Y := by rw [Nat.mul_comm, Nat.mul_add_div (by omega), Nat.div_eq_of_lt hx]; omega
  rw [h1, h2]
/-- Two lists of H rows of W are one if they are so place by place. -/
theorem grid_ext {W H : Nat} {l m : List Bool} (h1 : l.length = W * H) (h2 : m.length = W * H) (h : ∀ y x, y < H → x < W → l.getD (y * W + x) false = m.getD (y * W + x) false) : l = m := by
  apply List.ext_getElem (by omega)
  intro p hp hp2
  have hW : 0 < W := by rcases Nat.eq_zero_or_pos W with e | e
                        · subst e; simp at h1; omega
                        · exact e
  have := h (p / W) (p % W) (Nat.div_lt_of_lt_mul (by omega)) (Nat.mod_lt _ hW)
  have e : p / W * W + p % W = p := by rw [Nat.mul_comm]; exact Nat.div_add_mod p W
  rw [e, List.getD_eq_getElem?_getD, List.getD_eq_getElem?_getD, List.getElem?_eq_getElem hp, List.getElem?_eq_getElem hp2] at this
  simpa using this
theorem turn_turn {W H : Nat} {bs : List Bool} (h : bs.length = W * H) : turnL H W (turnL W H bs) = bs := by
  refine grid_ext (W := W) (H := H) (by rw [turnL_len, Nat.mul_comm]) h fun y x hy hx => ?_
  rw [turnL_get hy hx, turnL_get hx hy]
theorem turn_prod {H M W : Nat} {aa bb : List Bool} : prodL W M H (turnL W M bb) (turnL M H aa) = turnL W H (prodL H M W aa bb) := by
  refine grid_ext (W := H) (H := W) (by rw [prodL_len]) (by rw [turnL_len, Nat.mul_comm]) fun x y hx hy => ?_
  rw [prodL_get hy hx, turnL_get hx hy, prodL_get hx hy]
  unfold mulB
  rw [Bool.eq_iff_iff]
  simp only [List.any_eq_true, List.mem_range]
  constructor
  · rintro ⟨k, hk, h⟩
    refine ⟨k, hk, ?_⟩
    rw [turnL_get hx hk, turnL_get hk hy] at h
    rw [Bool.and_comm]; exact h
  · rintro ⟨k, hk, h⟩
    refine ⟨k, hk, ?_⟩
    rw [turnL_get hx hk, turnL_get hk hy, Bool.and_comm]; exact h
theorem prod_assoc {H M W X : Nat} {aa bb cc : List Bool} : prodL H W X (prodL H M W aa bb) cc = prodL H M X aa (prodL M W X bb cc) := by
  refine grid_ext (W := X) (H := H) (by rw [prodL_len]) (by rw [prodL_len]) fun y x hy hx => ?_
  rw [prodL_get hx hy, prodL_get hx hy]
  unfold mulB
  rw [Bool.eq_iff_iff]
  simp only [List.any_eq_true, List.mem_range, Bool.and_eq_true]
  constructor
  · rintro ⟨k, hk, h1, h2⟩
    rw [prodL_get hk hy] at h1
    unfold mulB at h1
    simp only [List.any_eq_true, List.mem_range, Bool.and_eq_true] at h1
    obtain ⟨m, hm, h3, h4⟩ := h1
    refine ⟨m, hm, h3, ?_⟩
    rw [prodL_get hx hm]
    unfold mulB
    simp only [List.any_eq_true, List.mem_range, Bool.and_eq_true]
    exact ⟨k, hk, h4, h2⟩
  · rintro ⟨m, hm, h1, h2⟩
    rw [prodL_get hx hm] at h2
    unfold mulB at h2
    simp only [List.any_eq_true, List.mem_range, Bool.and_eq_true] at h2
    obtain ⟨k, hk, h3, h4⟩ := h2
    refine ⟨k, hk, ?_, h4⟩
    rw [prodL_get hk hy]
    unfold mulB
    simp only [List.any_eq_true, List.mem_range, Bool.and_eq_true]
    exact ⟨m, hm, h1, h3⟩
/-- What a call on right truths hands back. -/
def TPost (W H n : Nat) (bs : List Bool) (w : World) (r : Ending) (w' : World) : Prop :=
  ∃ g, r = .returned (.tuple #[.agg #[.int .i64 (W), .int .i64 (H), .slice (some ⟨g, 0, none⟩) n n], .int .i64 (0)]) ∧ OkT w' (some ⟨g, 0, none⟩) n n bs ∧ Below w.heap.size w w'
end Go.Proofs.Ytooilennejakhaa

namespace Go.Proofs.Ytooilennejakhaa
open Go.RowKit
set_option linter.unusedVariables false
set_option linter.unusedSimpArgs false
theorem eq_of_getD {α : Type} {d : α} {l m : List α} {n : Nat} (h1 : l.length = n) (h2 : m.length = n) (h : ∀ j, j < n → l.getD j d = m.getD j d) : l = m := by
  apply List.ext_getElem (by omega)
  intro i hi hi2
  have := h i (by omega)
  rw [List.getD_eq_getElem?_getD, List.getD_eq_getElem?_getD, List.getElem?_eq_getElem hi, List.getElem?_eq_getElem hi2] at this
  simpa using this
end Go.Proofs.Ytooilennejakhaa

namespace Go.Proofs.Ytooilennejakhaa
open Go.RowKit
set_option linter.unusedVariables false
set_option linter.unusedSimpArgs false
/-- Slices of truths, each of W. -/
structure RowsAt (w : World) (a : Option Addr) (n W : Nat) (rs : List (List Bool)) : Prop where
  len : rs.length = n
  rows : 0 < n → ∃ b o, a = some ⟨b, o, none⟩ ∧ b < w.heap.size ∧ ∀ j, j < n → ∃ A c, w.cell? ⟨b, o + j, none⟩ = some (.slice A W c) ∧ IsBools w A W (rs.getD j [])
theorem RowsAt.below {w w' : World} {a : Option Addr} {n W : Nat} {rs : List (List Bool)} (h : RowsAt w a n W rs) (hb : Below w.heap.size w w') : RowsAt w' a n W rs := by
  refine ⟨h.len, fun hn => ?_⟩
  obtain ⟨b, o, h1, h2, h3⟩ := h.rows hn
  refine ⟨b, o, h1, Nat.lt_of_lt_of_le h2 hb.size, fun j hj => ?_⟩
  obtain ⟨A, c, h4, h5⟩ := h3 j hj
  exact ⟨A, c, bCs hb h4, h5.below hb⟩
/-- The first place at which a row stands; their number, if it is none of them. -/
def fIdx (rs : List (List Bool)) (r : List Bool) : Nat := rs.findIdx fun l => decide (l = r)
theorem fIdx_at {rs : List (List Bool)} {r : List Bool} {k : Nat} (hk : k < rs.length) (h1 : ∀ j, j < k → rs.getD j [] ≠ r) (h2 : rs.getD k [] = r) : fIdx rs r = k := by
  unfold fIdx
  rw [List.findIdx_eq hk]
  refine ⟨?_, fun j hj => ?_⟩
  · rw [List.getD_eq_getElem?_getD, List.getElem?_eq_getElem hk] at h2
    simpa using h2
  · have := h1 j hj
    rw [List.getD_eq_getElem?_getD, List.getElem?_eq_getElem (by omega)] at this
    simpa using this
theorem fIdx_none {rs : List (List Bool)} {r : List Bool} (h1 : ∀ j, j < rs.length → rs.getD j [] ≠ r) : fIdx rs r = rs.length := by
  unfold fIdx
  rw [List.findIdx_eq_length]
  intro x hx
  obtain ⟨j, hj, rfl⟩ := List.getElem_of_mem hx
  have := h1 j hj
  rw [List.getD_eq_getElem?_getD, List.getElem?_eq_getElem hj] at this
  simpa using this
/-- What Go's search tells. -/
def idxV (n i : Nat) : Int := if i < n then i else -1
theorem fIdx_le (rs : List (List Bool)) (r : List Bool) : fIdx rs r ≤ rs.length := List.findIdx_le_length
end Go.Proofs.Ytooilennejakhaa

namespace Go.Proofs.Ytooilennejakhaa
open Go.RowKit
set_option linter.unusedVariables false
set_option linter.unusedSimpArgs false
section
variable {P : Program} {n l : Nat}
theorem wpIn_of_wp {o : Oper} {a : Act} {w : World} {K : Act → World → Prop} {Q : Exit → Act → World → Prop} (hd : ∀ c, o.op ≠ .defer c) (h : o.wp P a w K Q) : o.wpIn (Fence.wide.inRound l) n P a w K Q := by
  refine ⟨fun _ _ => trivial, ?_⟩
  have e : (o.semAt (Fence.wide.inRound l).round a.eval) = execOp a.eval o := Oper.semAt_some l a.eval o hd
  rw [e]
  unfold Oper.wp at h
  generalize (execOp a.eval o).run P w = r at *
  cases r with
  | ok x w' =>
    cases x <;> simp only [Oper.upon, Oper.uponIn] at h ⊢
    all_goals first
      | exact h
      | exact h.elim
      | exact ⟨(fun hh => by cases hh), callsIn_wide.2 h⟩
      | (refine ⟨(fun hh => by cases hh), fun c cs _ => ?_⟩; obtain ⟨v, w'', hr, hs⟩ := h c cs; exact ⟨v, w'', hr, stepsIn_wide.2 hs⟩)
  | halt x w' => cases x <;> exact h
theorem wpAnyIn_of_wpAny {md : Region.Mode} {ops : Array Oper} {Q : Exit → Act → World → Prop} (hd : ∀ (i : Nat) (o : Oper), ops[i]? = some o → ∀ c, o.op ≠ .defer c) (hQ : ∀ a w, ¬ Q .outgrown a w) (f : Nat) :
    ∀ (listed : Array Bool) (a : Act) (w : World), wpAny P md ops Q f listed a w → wpAnyIn (Fence.wide.inRound l) n P md ops Q f listed a w := by
  induction f with
  | zero => intro listed a w h; exact h
  | succ f ih =>
    intro listed a w h
    refine ⟨h.1, fun i hi => ?_⟩
    have h2 := h.2 i hi
    unfold wpOp at h2
    unfold wpOpIn
    cases ho : ops[i]? with
    | none => rw [ho] at h2; exact ih _ _ _ h2
    | some o =>
      rw [ho] at h2
      simp only at h2 ⊢
      by_cases hw : Region.wanted o (yielded ops a.tmps) = true
      · rw [if_pos hw] at h2 ⊢
        rcases h2 with h2 | ⟨_, a0, w0, hq⟩
        · exact Oper.wpIn_mono (fun a' w' hk => ih _ _ _ hk) (wpIn_of_wp (hd i o ho) h2)
        · exact absurd hq (hQ _ _)
      · rw [if_neg hw] at h2 ⊢
        exact ⟨fun _ _ => trivial, ih _ _ _ h2⟩
theorem region_inRound {id : Nat} {ops : Array Oper} {Q : Exit → Act → World → Prop} {a : Act} {w : World} (hm : P.follows .mixedOrders = true) (hd : ops.all (fun o => match o.op with | .defer _ => false | _ => true) = true) (hQ : ∀ a w, ¬ Q .outgrown a w)
    (h : wpAny P .any ops Q ops.size (Array.replicate ops.size false) a { w with drawn := w.drawn + 1 }) : (Code.region id ops true).wpIn (Fence.wide.inRound l) n P Q a w := by
  refine wpIn_region_any hm (wpAnyIn_of_wpAny (fun i o ho c e => ?_) hQ _ _ _ _ h)
  rw [Array.all_eq_true'] at hd
  have := hd o (Array.mem_of_getElem? ho)
  rw [e] at this
  cases this
end
end Go.Proofs.Ytooilennejakhaa
