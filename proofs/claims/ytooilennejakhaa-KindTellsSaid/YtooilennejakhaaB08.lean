/- Lemmas and contracts of functions (what each call returns, and that it changes nothing that was there) that the proof of a law of this seat uses; each lemma states its own conditions. -/
import Derived.Test.YtooilennejakhaaB07
import Derived.OrdersHeld
import Derived.Laws.AppendOwnNone
import Derived.Maps.AppendAt
namespace Go.Proofs.Ytooilennejakhaa
open Go.RowKit
set_option linter.unusedVariables false
set_option linter.unusedSimpArgs false
open Go.Shelf
def aStep (H W : Nat) (bs : List Bool) (st : List (Fin H) × List Nat) (y : Fin H) : List (Fin H) × List Nat :=
  (if fIdx (st.1.map fun z => rowL bs W z.val) (rowL bs W y.val) < st.1.length then st.1 else st.1 ++ [y], st.2 ++ [fIdx (st.1.map fun z => rowL bs W z.val) (rowL bs W y.val)])
def aFold (H W : Nat) (bs : List Bool) (pre : List (Fin H)) : List (Fin H) × List Nat := pre.foldl (aStep H W bs) ([], [])
theorem aFold_snoc (H W : Nat) (bs : List Bool) (pre : List (Fin H)) (y : Fin H) : aFold H W bs (pre ++ [y]) = aStep H W bs (aFold H W bs pre) y := by simp [aFold]
theorem aFold_len' (H W : Nat) (bs : List Bool) (l : List (Fin H)) : ∀ st : List (Fin H) × List Nat, (l.foldl (aStep H W bs) st).2.length = st.2.length + l.length ∧ (l.foldl (aStep H W bs) st).1.length ≤ st.1.length + l.length := by
  induction l with
  | nil => intro st; simp
  | cons y l ih =>
    intro st
    have h := ih (aStep H W bs st y)
    have h1 : (aStep H W bs st y).2.length = st.2.length + 1 := by simp [aStep]
    have h2 : (aStep H W bs st y).1.length ≤ st.1.length + 1 := by unfold aStep; simp only; split <;> simp
    simp only [List.foldl_cons, List.length_cons]
    omega
theorem aFold_len (H W : Nat) (bs : List Bool) (pre : List (Fin H)) : (aFold H W bs pre).2.length = pre.length ∧ (aFold H W bs pre).1.length ≤ pre.length := by
  have := aFold_len' H W bs pre ([], [])
  simpa [aFold] using this
/-- The numbers of the rows. -/
def alikeL (W H : Nat) (bs : List Bool) : List Nat := (aFold H W bs (List.finRange H)).2
theorem alikeL_len (W H : Nat) (bs : List Bool) : (alikeL W H bs).length = H := by unfold alikeL; rw [(aFold_len _ _ _ _).1]; simp
def IntsPost (L : List Nat) (w : World) (r : Ending) (w' : World) : Prop :=
  ∃ A c, r = .returned (.tuple #[.slice A L.length c, .int .i64 (0)]) ∧ IsInts w' A L.length (natI L) ∧ Below w.heap.size w w'
/-- 'append(s, x)' of one element within a round. -/
theorem wpAppIn {l N : Nat} {W : World} {ops : Array Oper} {rest : List Oper} {o : Oper} {a : Act} {Q : Exit → Act → World → Prop} {t e size bytes : Nat} {z : Value} (hE : ElemOk t e size bytes z)
    (hgd : o.guard = none) (s x : Operand) (ho : o.op = .call { callee := .builtin .append, args := #[s, x], argTypes := #[t, t] })
    (base : Nat) (v : Value) (n : Nat) (xs : List Value) (cs : Array Value) (hs : a.eval s = v) (hown : W.ownsRow base e size v n xs)
    (hx : a.eval x = .slice (some ⟨W.heap.size, 0, none⟩) 1 1) (hl : cs.size = size) (h1 : ∀ u ∈ cs.toList, u.oneCell' = true)
    (hb : bytes ≤ 4096) (hn : n ≤ 1000000000) (hbase : base ≤ W.heap.size)
    (h : ∀ v' w', w'.ownsRow base e size v' (n + 1) (xs ++ cs.toList) → (W.alloc (.cells cs e)).grownBy w' v.ownBlock → wpListIn (Fence.wide.inRound l) N Try.prog ops Q rest (a.put o.dst v') w') : wpListIn (Fence.wide.inRound l) N Try.prog ops Q (o :: rest) a (W.alloc (.cells cs e)) := by
  obtain ⟨h2, h3, h4, h5⟩ := hE
  obtain ⟨i0, hi, hz0, hz1, hz2⟩ := info_parts h3
  have hw : Region.wanted o (yielded ops a.tmps) = true := by simp [Region.wanted, hgd]
  simp only [wpListIn, hw, if_true]
  refine wpIn_of_wp (fun c e => by rw [ho] at e; cases e) ?_
  refine wp_append_own _ s x t ho base e i0 z size bytes h2 hi hz0 hz1 hz2 h4 h5 v n xs hs (hown.alloc _) ⟨W.heap.size, 0, none⟩ 1 1 cs.toList hx (by simpa using hl) ?_ h1 (by unfold maxLen; omega) ?_ (by simp; omega) ?_
  · intro j u hj
    have : (⟨W.heap.size, 0, none⟩ : Addr).add j = ⟨W.heap.size, j, none⟩ := by rw [Addr.add_lit]; simp
    rw [this, World.cell?_alloc_new]
    simpa using hj
  · calc (n + 1) * bytes ≤ 1000000001 * 4096 := Nat.mul_le_mul (by omega) hb
      _ ≤ 140737488355328 := by omega
  · intro v' w' hown' hg _
    exact h v' w' hown' hg
/-- 'append(s, x)' of one element, which lies in block B. -/
theorem wpAppBg {W : World} {ops : Array Oper} {rest : List Oper} {o : Oper} {a : Act} {Q : Exit → Act → World → Prop} {t e size bytes : Nat} {z : Value} (hE : ElemOk t e size bytes z)
    (hgd : o.guard = none) (s x : Operand) (ho : o.op = .call { callee := .builtin .append, args := #[s, x], argTypes := #[t, t] })
    (base : Nat) (v : Value) (n : Nat) (xs : List Value) (cs : Array Value) (B : Nat) (hs : a.eval s = v) (hown : W.ownsRow base e size v n xs)
    (hx : a.eval x = .slice (some ⟨B, 0, none⟩) 1 1) (hcs : ∀ j u, cs[j]? = some u → W.cell? ⟨B, j, none⟩ = some u) (hl : cs.size = size) (h1 : ∀ u ∈ cs.toList, u.oneCell' = true)
    (hb : bytes ≤ 4096) (hn : n ≤ 1000000000) (hbase : base ≤ W.heap.size)
    (h : ∀ v' w', w'.ownsRow base e size v' (n + 1) (xs ++ cs.toList) → W.grownBy w' v.ownBlock → wpList Try.prog ops Q rest (a.put o.dst v') w') : wpList Try.prog ops Q (o :: rest) a W := by
  obtain ⟨h2, h3, h4, h5⟩ := hE
  obtain ⟨i0, hi, hz0, hz1, hz2⟩ := info_parts h3
  refine wpList_append_own _ hgd s x t ho base e i0 z size bytes h2 hi hz0 hz1 hz2 h4 h5 v n xs hs hown ⟨B, 0, none⟩ 1 1 cs.toList hx (by simpa using hl) ?_ h1 (by unfold maxLen; omega) ?_ hbase ?_
  · intro j u hj
    have : (⟨B, 0, none⟩ : Addr).add j = ⟨B, j, none⟩ := by rw [Addr.add_lit]; simp
    rw [this]
    exact hcs j u (by simpa using hj)
  · calc (n + 1) * bytes ≤ 1000000001 * 4096 := Nat.mul_le_mul (by omega) hb
      _ ≤ 140737488355328 := by omega
  · intro v' w' hown' hg _
    exact h v' w' hown' hg
theorem opApp {W : World} {o : Oper} {a : Act} {K : Act → World → Prop} {Q : Exit → Act → World → Prop} {t e size bytes : Nat} {z : Value} (hE : ElemOk t e size bytes z)
    (s x : Operand) (ho : o.op = .call { callee := .builtin .append, args := #[s, x], argTypes := #[t, t] })
    (base : Nat) (v : Value) (n : Nat) (xs : List Value) (cs : Array Value) (B : Nat) (hs : a.eval s = v) (hown : W.ownsRow base e size v n xs)
    (hx : a.eval x = .slice (some ⟨B, 0, none⟩) 1 1) (hcs : ∀ j u, cs[j]? = some u → W.cell? ⟨B, j, none⟩ = some u) (hl : cs.size = size) (h1 : ∀ u ∈ cs.toList, u.oneCell' = true)
    (hb : bytes ≤ 4096) (hn : n ≤ 1000000000) (hbase : base ≤ W.heap.size)
    (h : ∀ v' w', w'.ownsRow base e size v' (n + 1) (xs ++ cs.toList) → W.grownBy w' v.ownBlock → K (a.put o.dst v') w') : o.wp Try.prog a W K Q := by
  obtain ⟨h2, h3, h4, h5⟩ := hE
  obtain ⟨i0, hi, hz0, hz1, hz2⟩ := info_parts h3
  refine wp_append_own _ s x t ho base e i0 z size bytes h2 hi hz0 hz1 hz2 h4 h5 v n xs hs hown ⟨B, 0, none⟩ 1 1 cs.toList hx (by simpa using hl) ?_ h1 (by unfold maxLen; omega) ?_ hbase ?_
  · intro j u hj
    have : (⟨B, 0, none⟩ : Addr).add j = ⟨B, j, none⟩ := by rw [Addr.add_lit]; simp
    rw [this]
    exact hcs j u (by simpa using hj)
  · calc (n + 1) * bytes ≤ 1000000001 * 4096 := Nat.mul_le_mul (by omega) hb
      _ ≤ 140737488355328 := by omega
  · intro v' w' hown' hg _
    exact h v' w' hown' hg
/-- Own rows of cells of two types do not meet. -/
theorem own_ne {W : World} {b1 b2 e1 e2 s1 s2 n1 n2 : Nat} {v1 v2 : Value} {x1 x2 : List Value} (h1 : W.ownsRow b1 e1 s1 v1 n1 x1) (h2 : W.ownsRow b2 e2 s2 v2 n2 x2) (he : e1 ≠ e2) : v1 = .slice none 0 0 ∨ v1.ownBlock ≠ v2.ownBlock := by
  rcases h1.2 with ⟨rfl, _⟩ | ⟨g, cap, cur, rfl, _, hg, _⟩
  · exact .inl rfl
  · refine .inr fun e => ?_
    rcases h2.2 with ⟨rfl, _⟩ | ⟨g', cap', cur', rfl, _, hg', _⟩
    · simp [Value.ownBlock] at e
    · have e' : g = g' := by simpa [Value.ownBlock] using e
      subst e'
      rw [hg] at hg'
      injection hg' with hg'
      injection hg' with _ h5
      exact he h5
end Go.Proofs.Ytooilennejakhaa

namespace Go.Proofs.Ytooilennejakhaa
open Go.RowKit
set_option linter.unusedVariables false
set_option linter.unusedSimpArgs false
section
variable {P : Program} {ops : Array Oper} {Q : Exit → Act → World → Prop} {md : Region.Mode} {S : World → Prop} {stop : Nat → Bool}
def anyT (P : Program) (md : Region.Mode) (ops : Array Oper) (Q : Exit → Act → World → Prop) (S : World → Prop) (stop : Nat → Bool) : Nat → Array Bool → Act → World → Prop
  | 0, listed, a, w => Region.ready md ops listed = [] ∧ Q .normal a w
  | f + 1, listed, a, w => (Region.ready md ops listed = [] → Q .normal a w) ∧
      ∀ i ∈ Region.ready md ops listed, wpOp P ops Q i (fun a' w' => (stop i = false → S w') ∧ anyT P md ops Q S stop f (listed.setIfInBounds i true) a' w') a w
theorem anyT_any (f : Nat) : ∀ (listed : Array Bool) (a : Act) (w : World), anyT P md ops Q S stop f listed a w → wpAny P md ops Q f listed a w := by
  induction f with
  | zero => intro listed a w h; exact h
  | succ f ih => intro listed a w h; exact ⟨h.1, fun i hi => wpOp_mono (fun a' w' h' => ih _ a' w' h'.2) (h.2 i hi)⟩
theorem anyT_first {i : Nat} {oi : Oper} {v : Value} (hi : ops[i]? = some oi) (hsel : ∀ (j : Nat) (o : Oper) cs b, ops[j]? = some o → o.op ≠ .select cs b)
    (hst : ∀ j oj, ops[j]? = some oj → stop j = true → ∃ e ∈ oj.after, Region.binds md e = true ∧ e.on = i) (hQ : ∀ c a w, ¬ Q (.panic c) a w) (f : Nat) :
    ∀ (listed : Array Bool) (a : Act) (w : World),
      (∀ j oj, ops[j]? = some oj → j ≠ i → listed.getD j true = false → (∀ e ∈ oj.after, Region.binds md e = true → e.on ≠ i) → oi.apart ops oj = true) →
      i ∈ Region.ready md ops listed → YieldsIf P ops S oi v a → S w → stop i = false →
      anyT P md ops Q S stop f (listed.setIfInBounds i true) (a.put oi.dst v) w → anyT P md ops Q S stop (f + 1) listed a w := by
  induction f with
  | zero =>
    intro listed a w _ hr hy hS hs H
    refine ⟨fun h => (by rw [h] at hr; cases hr), fun j hj => ?_⟩
    rcases Nat.decEq j i with hji | hji
    · exact absurd (ready_mono hj hji) (by rw [H.1]; simp)
    · subst hji; exact hy.wpOp hi hS ⟨fun _ => hS, H⟩
  | succ f ih =>
    intro listed a w hfree hr hy hS hs H
    refine ⟨fun h => (by rw [h] at hr; cases hr), fun j hj => ?_⟩
    rcases Nat.decEq j i with hji | hji
    · obtain ⟨hjun, oj, hoj, hall⟩ := mem_ready.1 hj
      have hnot : ∀ e ∈ oj.after, Region.binds md e = true → e.on ≠ i := by
        intro e he hb heq
        have h1 := hall e he hb
        rw [heq, getD_both (mem_ready.1 hr).1] at h1
        cases h1
      have hsj : stop j = false := by
        cases h : stop j with
        | false => rfl
        | true =>
          obtain ⟨e, he, hb, heq⟩ := hst j oj hoj h
          exact absurd heq (hnot e he hb)
      have hap := hfree j oj hoj hji hjun hnot
      have h2 := wpOp_putIf (S := S) hoj hap (fun cs b => hsel i oi cs b hi) (fun cs b => hsel j oj cs b hoj) (fun c a w h => absurd h (hQ c _ _)) hy (H.2 j (ready_mono hj hji))
      refine wpOp_mono (fun a' w' h3 => ?_) h2
      have hSw := h3.2.1 hsj
      refine ⟨fun _ => hSw, ih _ a' w' (fun k ok hk hki hun hno => ?_) (ready_mono hr (Ne.symm hji)) h3.1 hSw hs ?_⟩
      · refine hfree k ok hk hki ?_ hno
        by_cases hjk : j = k
        · subst hjk; exact hjun
        · rwa [getD_set_ne true hjk] at hun
      · rw [Array.setIfInBounds_comm _ _ hji]; exact h3.2.2
    · subst hji; exact hy.wpOp hi hS ⟨fun _ => hS, H⟩
/-- All that stop wait for i. -/
def stopB (md : Region.Mode) (ops : Array Oper) (stop : Nat → Bool) (i : Nat) : Bool :=
  !stop i && (List.range ops.size).all fun j => !stop j || (match ops[j]? with | some o => o.after.any (fun e => Region.binds md e && e.on == i) | none => true)
theorem anyT_take {i : Nat} {oi : Oper} (v : Value) {f : Nat} {listed : Array Bool} {a : Act} {w : World} (hi : ops[i]? = some oi)
    (hb : (Region.noSelect ops && Region.free md ops listed i && (Region.ready md ops listed).contains i && stopB md ops stop i) = true)
    (hQ : ∀ c a w, ¬ Q (.panic c) a w) (hy : YieldsIf P ops S oi v a) (hS : S w)
    (h : anyT P md ops Q S stop f (listed.setIfInBounds i true) (a.put oi.dst v) w) : anyT P md ops Q S stop (f + 1) listed a w := by
  simp only [Bool.and_eq_true] at hb
  obtain ⟨⟨⟨h1, h2⟩, h3⟩, h4⟩ := hb
  unfold stopB at h4
  simp only [Bool.and_eq_true, Bool.not_eq_true'] at h4
  refine anyT_first hi (Region.noSelect_spec h1) (fun j oj hoj hs => ?_) hQ f listed a w (Region.free_spec hi h2) (by simpa using h3) hy hS h4.1 h
  have hlt : j < ops.size := (Array.getElem?_eq_some_iff.1 hoj).1
  have h5 := List.all_eq_true.1 h4.2 j (List.mem_range.2 hlt)
  rw [hoj, hs] at h5
  simp only [Bool.not_true, Bool.false_or] at h5
  rw [Array.any_eq_true'] at h5
  obtain ⟨e, he, h6⟩ := h5
  simp only [Bool.and_eq_true, beq_iff_eq] at h6
  exact ⟨e, he, h6.1, h6.2⟩
theorem anyT_one {i : Nat} {oi : Oper} {f : Nat} {listed : Array Bool} {a : Act} {w : World} (hr : Region.ready md ops listed = [i]) (hi : ops[i]? = some oi) (hg : oi.guard = none)
    (h : oi.wp P a w (fun a' w' => (stop i = false → S w') ∧ anyT P md ops Q S stop f (listed.setIfInBounds i true) a' w') Q) : anyT P md ops Q S stop (f + 1) listed a w := by
  refine ⟨fun h0 => absurd (hr.symm.trans h0) (by simp), fun j hj => ?_⟩
  rw [hr] at hj
  have : j = i := by simpa using hj
  subst this
  unfold wpOp
  simp only [hi, Region.wanted, hg, if_true]
  exact .inl h
theorem anyT_done {f : Nat} {listed : Array Bool} {a : Act} {w : World} (hr : Region.ready md ops listed = []) (h : Q .normal a w) : anyT P md ops Q S stop f listed a w := by
  cases f with
  | zero => exact ⟨hr, h⟩
  | succ f => exact ⟨fun _ => h, by rw [hr]; simp⟩
end
end Go.Proofs.Ytooilennejakhaa

namespace Go.Proofs.Ytooilennejakhaa
open Go.RowKit
set_option linter.unusedVariables false
set_option linter.unusedSimpArgs false
open Go.Shelf
attribute [local go_sem] Oper.semAt_some
theorem keepsOthers_of_below {W W' : World} (h : Below W.heap.size W W') : KeepsOthers W W' :=
  ⟨h.size, fun k o hk _ => by rw [h.block k (Array.getElem?_eq_some_iff.1 hk).1]; exact hk⟩
theorem Boxed.below {W W' : World} {B : Nat} {t : TypeId} {v : Value} (h : Boxed W B t v) (hb : Below W.heap.size W W') : Boxed W' B t v := (hb.block B h.lt).trans h
theorem own_kept {A B : World} {base e size k : Nat} {v : Value} {xs : List Value} {row : Option Nat} (h : A.ownsRow base e size v k xs) (hg : A.grownBy B row) (hr : ∀ r, row = some r → ∃ o : Obj, A.heap[r]? = some o ∧ o.isCells = false) : B.ownsRow base e size v k xs := by
  refine h.kept hg ?_
  rcases h.2 with ⟨rfl, _⟩ | ⟨g, cap, cur, rfl, _, hgb, _⟩
  · exact .inl rfl
  · refine .inr fun e' => ?_
    obtain ⟨o, ho, hc⟩ := hr g (by simpa [Value.ownBlock] using e'.symm)
    rw [hgb] at ho; cases ho; cases hc
theorem box_kept {A B : World} {b : Nat} {t : TypeId} {v : Value} {row : Option Nat} (h : Boxed A b t v) (hg : A.grownBy B row) (hr : ∀ r, row = some r → ∃ o : Obj, A.heap[r]? = some o ∧ o.isCells = false) : Boxed B b t v :=
  h.kept hg (fun e' => by obtain ⟨o, ho, hc⟩ := hr b e'.symm; rw [show A.heap[b]? = _ from h] at ho; cases ho; cases hc)
theorem rowIs_not_own {A : World} {b t n base e size k : Nat} {f : Nat → Value} {v : Value} {xs : List Value} (hr : A.rowIs b t n f) (h : A.ownsRow base e size v k xs) (hne : t ≠ e) : some b ≠ v.ownBlock := by
  rcases h.2 with ⟨rfl, _⟩ | ⟨g, cap, cur, rfl, _, hg, _⟩
  · simp [Value.ownBlock]
  · intro e'
    have e2 : b = g := by simpa [Value.ownBlock] using e'
    subst e2
    obtain ⟨cs, hb, _⟩ := hr
    rw [hb] at hg
    injection hg with hg
    injection hg with _ h5
    exact hne h5
theorem rowIs_grown {A B : World} {b t n : Nat} {f : Nat → Value} {row : Option Nat} (hr : A.rowIs b t n f) (hg : A.grownBy B row) (hne : some b ≠ row) : B.rowIs b t n f := hr.of_block (hg.block b hr.lt hne)
theorem own_nil_or {v : Value} : v = .slice none 0 0 → v.ownBlock = none := fun e => by subst e; rfl
section
variable {w : World} {kb ob tb W H n : Nat} {a : Option Addr} {c : Nat} {vk vo : Value} {ks : List (Fin H)} {os : List Nat} {st : List (Fin H) × List Nat} {A B : World}
end
theorem rows_of_own {w : World} {base W H n : Nat} {a : Option Addr} {c : Nat} {bs : List Bool} {ks : List (Fin H)} {A0 : Option Addr} {c0 : Nat} (h : w.ownsRow base 89 1 (.slice A0 ks.length c0) ks.length (ks.map fun z => rowV a c W z.val)) (hT : OkT w a n c bs) (hn : n = W * H) : RowsAt w A0 ks.length W (ks.map fun z => rowL bs W z.val) := by
  refine ⟨by simp, fun hk => ?_⟩
  rcases h.2 with ⟨e, h0⟩ | ⟨g, cap, cur, e, _⟩
  · omega
  · injection e with e1 e2 e3
    subst e1
    have hlt : g < w.heap.size := by
      have := h.cellAt 0 (by omega)
      rw [List.getElem?_map, List.getElem?_eq_getElem hk] at this
      exact World.block_lt_of_cell? w _ this
    refine ⟨g, 0, rfl, hlt, fun j hj => ?_⟩
    obtain ⟨A, cc, hv, hb⟩ := rowV_bools (a := a) (bs := bs) hT.cap hn (ks[j]).isLt
    refine ⟨A, cc, ?_, ?_⟩
    · rw [Nat.zero_add, h.cellAt j (by omega), List.getElem?_map, List.getElem?_eq_getElem hj]
      simp only [Option.map_some]
      rw [hv]
    · have := (hb w hT).bits
      rwa [show (ks.map fun z => rowL bs W z.val).getD j [] = rowL bs W (ks[j]).val by simp [List.getD, hj]]
theorem IsInts.of_natsB {w : World} {base : Nat} {v : Value} {L : List Nat} (h : w.ownsRow base 3 1 v L.length (natV L)) : ∃ a c, v = .slice a L.length c ∧ IsInts w a L.length (natI L) ∧ ∀ b o, a = some ⟨b, o, none⟩ → base ≤ b := by
  obtain ⟨a, c, rfl, hi⟩ := IsInts.of_nats h
  refine ⟨a, c, rfl, hi, fun b o hb' => ?_⟩
  rcases h.2 with ⟨e, e0⟩ | ⟨g, cap, cur, e, hb, _⟩
  · injection e with e1 e2 e3
    rw [e1] at hb'; cases hb'
  · injection e with e1 e2 e3
    rw [e1] at hb'; cases hb'; exact hb
/-- As IntsPost; the numbers lie in a block of the call's own. -/
def IntsPostG (L : List Nat) (w : World) (r : Ending) (w' : World) : Prop :=
  ∃ A c, r = .returned (.tuple #[.slice A L.length c, .int .i64 (0)]) ∧ IsInts w' A L.length (natI L) ∧ Below w.heap.size w w' ∧ ∀ b o, A = some ⟨b, o, none⟩ → w.heap.size ≤ b
end Go.Proofs.Ytooilennejakhaa

namespace Go.Proofs.Ytooilennejakhaa
open Go.RowKit
set_option linter.unusedVariables false
set_option linter.unusedSimpArgs false
theorem prE_zero {W1 H1 : Int} {n1 : Nat} {W2 H2 : Int} {n2 : Nat} (h : prE W1 H1 n1 W2 H2 n2 = 0) : wrT W1 H1 n1 = 0 ∧ wrT W2 H2 n2 = 0 ∧ W1 = H2 := by
  unfold prE at h
  split at h
  · rename_i h1; exact absurd h h1
  · split at h
    · rename_i h2; exact absurd h h2
    · split at h
      · omega
      · rename_i h1 h2 h3
        exact ⟨by simpa using h1, by simpa using h2, by simpa using h3⟩
theorem wrT_zero' {W H : Int} {n : Nat} (h : wrT W H n = 0) : ∃ W' H' : Nat, W = W' ∧ H = H' ∧ W' ≤ 64 ∧ H' ≤ 64 ∧ n = W' * H' := wrT_zero h
theorem mul64n {W H : Nat} (hW : W ≤ 64) (hH : H ≤ 64) : W * H ≤ 4096 := Nat.le_trans (Nat.mul_le_mul hW hH) (by omega)
end Go.Proofs.Ytooilennejakhaa

namespace Go.Proofs.Ytooilennejakhaa
open Go.RowKit
set_option linter.unusedVariables false
set_option linter.unusedSimpArgs false
namespace Ef
/-- What is to be seen where two strands cross: ends from 0 on, picks behind them. -/
def crs (W : Nat) (cs : List Int) (a b : Nat) : Option Int :=
  if a < W ∧ W ≤ b then some (cs.getD ((b - W) * W + a) 0)
  else if b < W ∧ W ≤ a then some (cs.getD ((a - W) * W + b) 0) else none
theorem crs_symm (W : Nat) (cs : List Int) (a b : Nat) : crs W cs a b = crs W cs b a := by
  unfold crs
  by_cases h1 : a < W ∧ W ≤ b
  · rw [if_pos h1, if_neg (by omega), if_pos h1]
  · by_cases h2 : b < W ∧ W ≤ a
    · rw [if_neg h1, if_pos h2, if_pos h2]
    · rw [if_neg h1, if_neg h2, if_neg h2, if_neg h1]
/-- The colour of a strand; below 0: none yet. -/
def g (p : List Int) (i : Nat) : Int := p.getD i (-1)
def ClosedAt (W : Nat) (cs p : List Int) (a : Nat) : Prop := ∀ b v, b < p.length → crs W cs a b = some v → g p a = v ∨ g p b = v
def Closed (W : Nat) (cs p : List Int) : Prop := ∀ a, a < p.length → 0 ≤ g p a → ClosedAt W cs p a
def Extd (p q : List Int) : Prop := q.length = p.length ∧ ∀ i, i < p.length → 0 ≤ g p i → g q i = g p i
def Good (p : List Int) : Prop := ∀ i, i < p.length → -1 ≤ g p i ∧ g p i < 62
def Least (W : Nat) (cs p r : List Int) : Prop := Extd p r ∧ Closed W cs r ∧ Good r ∧ ∀ q, Good q → Extd p q → Closed W cs q → Extd r q
def Never (W : Nat) (cs p : List Int) : Prop := ∀ q, Good q → Extd p q → ¬ Closed W cs q
theorem Extd.refl (p : List Int) : Extd p p := ⟨rfl, fun _ _ _ => rfl⟩
theorem Extd.trans {p q r : List Int} (h : Extd p q) (k : Extd q r) : Extd p r :=
  ⟨k.1.trans h.1, fun i hi h0 => by
    have e := h.2 i hi h0
    exact (k.2 i (by rw [h.1]; exact hi) (by rw [e]; exact h0)).trans e⟩
theorem ext_g {p q : List Int} (h : p.length = q.length) (hg : ∀ i, i < p.length → g p i = g q i) : p = q := by
  apply List.ext_getElem h
  intro i hi hj
  have := hg i hi
  unfold g at this
  simpa [List.getD, hi, hj] using this
theorem Extd.anti {p q : List Int} (h : Extd p q) (k : Extd q p) (gp : Good p) (gq : Good q) : p = q := by
  refine ext_g h.1.symm fun i hi => ?_
  have hq : i < q.length := by rw [h.1]; exact hi
  have a := h.2 i hi; have b := k.2 i hq; have c := gp i hi; have d := gq i hq
  by_cases e : 0 ≤ g p i
  · exact (a e).symm
  · by_cases f : 0 ≤ g q i
    · exact b f
    · omega
theorem Least.uniq {W : Nat} {cs p r s : List Int} (h : Least W cs p r) (k : Least W cs p s) : r = s :=
  (h.2.2.2 s k.2.2.1 k.1 k.2.1).anti (k.2.2.2 r h.2.2.1 h.1 h.2.1) h.2.2.1 k.2.2.1
theorem Least.never {W : Nat} {cs p r : List Int} (h : Least W cs p r) : ¬ Never W cs p := fun k => k r h.2.2.1 h.1 h.2.1
theorem set_len (p : List Int) (i : Nat) (k : Int) : (p.set i k).length = p.length := by simp
theorem g_set (p : List Int) (i j : Nat) (k : Int) (h : i < p.length) : g (p.set i k) j = if j = i then k else g p j := by
  unfold g
  rw [List.getD_eq_getElem?_getD, List.getElem?_set, List.getD_eq_getElem?_getD]
  by_cases e : i = j
  · subst e; simp [h]
  · rw [if_neg e, if_neg (fun x => e x.symm)]
/-- The states ahead of each strand. -/
inductive Str (W : Nat) (cs : List Int) (N : Nat) : Nat → List Int → Prop
  | zero : Str W cs N 0 (List.replicate N (-1))
  | keep {i : Nat} {p : List Int} : Str W cs N i p → i < N → 0 ≤ g p i → Str W cs N (i + 1) p
  | tie {i : Nat} {p r : List Int} {k : Nat} : Str W cs N i p → i < N → g p i < 0 → k < 62 → (∀ j : Nat, j < k → Never W cs (p.set i j)) → Least W cs (p.set i k) r → Str W cs N (i + 1) r
theorem g_rep (N i : Nat) : g (List.replicate N (-1)) i = -1 := by
  unfold g
  rw [List.getD_eq_getElem?_getD, List.getElem?_replicate]
  split <;> rfl
theorem Str.inv {W : Nat} {cs : List Int} {N i : Nat} {p : List Int} (h : Str W cs N i p) : p.length = N ∧ Good p ∧ Closed W cs p ∧ i ≤ N ∧ ∀ j, j < i → 0 ≤ g p j := by
  induction h with
  | zero =>
    refine ⟨by simp, fun j _ => by rw [g_rep]; omega, fun a _ h => ?_, by omega, fun j h => by omega⟩
    rw [g_rep] at h; omega
  | @keep i p _ hi h0 ih =>
    obtain ⟨a, b, c, d, e⟩ := ih
    refine ⟨a, b, c, hi, fun j hj => ?_⟩
    by_cases h : j = i
    · rw [h]; exact h0
    · exact e j (by omega)
  | @tie i p r k _ hi h0 hk hn hl ih =>
    obtain ⟨a, b, c, d, e⟩ := ih
    have hlen : r.length = N := by rw [hl.1.1, set_len, a]
    refine ⟨hlen, hl.2.2.1, hl.2.1, hi, fun j hj => ?_⟩
    have h1 := hl.1.2 j (by rw [set_len, a]; omega)
    rw [g_set p i j k (by omega)] at h1
    by_cases h : j = i
    · rw [if_pos h] at h1; rw [h1 (by omega)]; omega
    · rw [if_neg h] at h1; rw [h1 (e j (by omega))]; exact e j (by omega)
theorem Str.det {W : Nat} {cs : List Int} {N i : Nat} {p : List Int} (h : Str W cs N i p) : ∀ {q}, Str W cs N i q → p = q := by
  induction h with
  | zero => intro q k; cases k; rfl
  | @keep i p _ hi h0 ih =>
    intro q k
    cases k with
    | keep k _ _ => exact ih k
    | tie k _ h1 _ _ _ => have := ih k; subst this; omega
  | @tie i p r k _ hi h0 hk hn hl ih =>
    intro q h2
    cases h2 with
    | keep k2 _ h1 => have := ih k2; subst this; omega
    | @tie _ _ _ k' k2 _ _ _ hn' hl' =>
      have := ih k2; subst this
      rcases Nat.lt_trichotomy k k' with h | h | h
      · exact absurd (hn' k h) hl.never
      · subst h; exact hl.uniq hl'
      · exact absurd (hn k' h) hl'.never
/-- There is no colour for strand i. -/
def Stuck (W : Nat) (cs : List Int) (N : Nat) : Prop := ∃ i p, Str W cs N i p ∧ i < N ∧ g p i < 0 ∧ ∀ k : Nat, k < 62 → Never W cs (p.set i k)
theorem Str.grow {W : Nat} {cs : List Int} {N n : Nat} {t : List Int} (h : Str W cs N n t) : ∀ i, i ≤ n → ∃ p, Str W cs N i p ∧ Extd p t := by
  induction h with
  | zero => intro i hi; obtain rfl : i = 0 := by omega
            exact ⟨_, .zero, Extd.refl _⟩
  | @keep n p hp hn h0 ih =>
    intro i hi
    by_cases e : i = n + 1
    · subst e; exact ⟨p, .keep hp hn h0, Extd.refl _⟩
    · exact ih i (by omega)
  | @tie n p r k hp hn h0 hk hv hl ih =>
    intro i hi
    by_cases e : i = n + 1
    · subst e; exact ⟨r, .tie hp hn h0 hk hv hl, Extd.refl _⟩
    · obtain ⟨q, h1, h2⟩ := ih i (by omega)
      obtain ⟨a, _⟩ := hp.inv
      refine ⟨q, h1, h2.trans ⟨by rw [hl.1.1, set_len], fun j hj hj0 => ?_⟩⟩
      have h3 := hl.1.2 j (by rw [set_len]; exact hj)
      rw [g_set p n j k (by omega)] at h3
      by_cases e : j = n
      · subst e; omega
      · rw [if_neg e] at h3; exact h3 hj0
theorem Str.not_stuck {W : Nat} {cs : List Int} {N : Nat} {t : List Int} (h : Str W cs N N t) : ¬ Stuck W cs N := by
  rintro ⟨i, p, h1, h2, h3, h4⟩
  obtain ⟨q, h5, h6⟩ := h.grow (i + 1) (by omega)
  cases h5 with
  | keep k _ h7 => have := k.det h1; subst this; omega
  | tie k _ _ hk _ hl => have := k.det h1; subst this; exact hl.never (h4 _ hk)
/-- Threads that can show the picture. -/
def Soln (W : Nat) (cs : List Int) (N : Nat) (q : List Int) : Prop := q.length = N ∧ Good q ∧ (∀ i, i < N → 0 ≤ g q i) ∧ Closed W cs q
theorem merge {W : Nat} {cs p q : List Int} {N : Nat} (hl : p.length = N) (hc : Closed W cs p) (hg : Good p) (hq : Soln W cs N q) : ∃ m, m.length = N ∧ (∀ i, i < N → g m i = if 0 ≤ g p i then g p i else g q i) ∧ Good m ∧ Closed W cs m := by
  obtain ⟨q1, q2, q3, q4⟩ := hq
  have hm : ∀ i, i < N → g ((List.range N).map fun i => if 0 ≤ g p i then g p i else g q i) i = if 0 ≤ g p i then g p i else g q i := fun i hi => by
    conv => lhs; unfold g
    rw [List.getD_eq_getElem?_getD, List.getElem?_map, List.getElem?_range hi]; rfl
  refine ⟨(List.range N).map fun i => if 0 ≤ g p i then g p i else g q i, by simp, hm, fun i hi => ?_, fun a ha h0 b v hb hx => ?_⟩
  · have hi' : i < N := by simpa using hi
    rw [hm i hi']
    have := hg i (by omega); have := q2 i (by omega)
    split <;> omega
  · have ha' : a < N := by simpa using ha
    have hb' : b < N := by simpa using hb
    rw [hm a ha', hm b hb']
    by_cases ea : 0 ≤ g p a
    · rcases hc a (by omega) ea b v (by omega) hx with h | h
      · left; rw [if_pos ea, h]
      · by_cases eb : 0 ≤ g p b
        · right; rw [if_pos eb, h]
        · -- a tied strand's cell is its own colour, where the other is not tied
          right
          have h5 := hg b (by omega)
          rw [if_neg eb]
          rcases q4 a (by omega) (q3 a ha') b v (by omega) hx with h6 | h6
          · have h7 := q3 a ha'
            omega
          · exact h6
    · by_cases eb : 0 ≤ g p b
      · have hx2 : crs W cs b a = some v := by rw [crs_symm]; exact hx
        rcases hc b (by omega) eb a v (by omega) hx2 with h | h
        · right; rw [if_pos eb, h]
        · left
          rw [if_neg ea]
          have h5 := hg a (by omega)
          rcases q4 a (by omega) (q3 a ha') b v (by omega) hx with h6 | h6
          · exact h6
          · have h7 := q3 b hb'
            omega
      · rw [if_neg ea, if_neg eb]
        exact q4 a (by omega) (q3 a ha') b v (by omega) hx
theorem Soln.not_stuck {W : Nat} {cs q : List Int} {N : Nat} (hq : Soln W cs N q) : ¬ Stuck W cs N := by
  rintro ⟨i, p, h1, h2, h3, h4⟩
  obtain ⟨a, b, c, _, _⟩ := h1.inv
  obtain ⟨m, m1, m2, m3, m4⟩ := merge a c b hq
  have h5 := hq.2.2.1 i h2
  have h6 := (hq.2.1 i (by rw [hq.1]; exact h2)).2
  refine h4 (g q i).toNat (by omega) m m3 ⟨by rw [set_len, m1, a], fun j hj hj0 => ?_⟩ m4
  rw [set_len, a] at hj
  rw [g_set p i j _ (by omega)] at hj0 ⊢
  rw [m2 j hj]
  by_cases e : j = i
  · subst e; rw [if_pos rfl] at hj0 ⊢; rw [if_neg (by omega)]; omega
  · rw [if_neg e] at hj0 ⊢; rw [if_pos hj0]
/-- All states that agree with threads that can show it so far are below them. -/
theorem Str.agree {W : Nat} {cs q : List Int} {N i : Nat} {p : List Int} (h : Str W cs N i p) (hq : Soln W cs N q) : (∀ j, j < i → g p j = g q j) → Extd p q := by
  induction h with
  | zero => intro _; exact ⟨by rw [hq.1]; simp, fun j _ h => by rw [g_rep] at h; omega⟩
  | @keep i p hp hi h0 ih => intro hj; exact ih fun j h => hj j (by omega)
  | @tie i p r k hp hi h0 hk hv hl ih =>
    intro hj
    obtain ⟨a, b, c, d, e⟩ := hp.inv
    have hr : ∀ j, j < N → 0 ≤ g (p.set i k) j → g r j = g (p.set i k) j := fun j h => hl.1.2 j (by rw [set_len, a]; exact h)
    have h1 := ih fun j h => by
      have h2 := hr j (by omega)
      rw [g_set p i j k (by omega), if_neg (by omega)] at h2
      rw [← h2 (e j h)]
      exact hj j (by omega)
    refine hl.2.2.2 q hq.2.1 ⟨by rw [set_len, hq.1, a], fun j hjl hj0 => ?_⟩ hq.2.2.2
    rw [set_len, a] at hjl
    rw [g_set p i j k (by omega)] at hj0 ⊢
    by_cases ej : j = i
    · subst ej
      rw [if_pos rfl]
      have h2 := hr j hjl
      rw [g_set p j j k (by omega), if_pos rfl] at h2
      rw [← h2 (by omega)]
      exact (hj j (by omega)).symm
    · rw [if_neg ej] at hj0 ⊢
      exact h1.2 j (by omega) hj0
/-- They come first. -/
theorem Str.first {W : Nat} {cs q t : List Int} {N i : Nat} (h : Str W cs N N t) (hq : Soln W cs N q) (hi : i < N) (hj : ∀ j, j < i → g t j = g q j) (hne : g t i ≠ g q i) : g t i < g q i := by
  obtain ⟨p, h1, h2⟩ := h.grow i (by omega)
  obtain ⟨p1, h3, h4⟩ := h.grow (i + 1) (by omega)
  obtain ⟨a, b, c, d, e⟩ := h1.inv
  have hag := h1.agree hq fun j h5 => by rw [← hj j h5, h2.2 j (by omega) (e j h5)]
  cases h3 with
  | keep k _ h7 =>
    have := k.det h1; subst this
    exact absurd ((h4.2 i (by omega) h7).trans (hag.2 i (by omega) h7).symm) hne
  | @tie _ _ _ k kp _ h7 hk hv hl =>
    have := kp.det h1; subst this
    have h8 := hl.1.2 i (by rw [set_len]; omega)
    rw [g_set _ i i _ (by omega), if_pos rfl] at h8
    have h9 := h8 (by omega)
    have h10 : g t i = k := by rw [h4.2 i (by rw [hl.1.1, set_len]; omega) (by omega), h9]
    rw [h10] at hne ⊢
    have h11 := hq.2.2.1 i hi
    rcases Nat.lt_or_ge (g q i).toNat k with h12 | h12
    · exfalso
      refine hv _ h12 q hq.2.1 ⟨by rw [set_len, hq.1, a], fun j hjl hj0 => ?_⟩ hq.2.2.2
      rw [set_len, a] at hjl
      rw [g_set _ i j _ (by omega)] at hj0 ⊢
      by_cases ej : j = i
      · subst ej; rw [if_pos rfl]; omega
      · rw [if_neg ej] at hj0 ⊢; exact hag.2 j (by omega) hj0
    · omega
end Ef
end Go.Proofs.Ytooilennejakhaa

namespace Go.Proofs.Ytooilennejakhaa
open Go.RowKit
set_option linter.unusedVariables false
set_option linter.unusedSimpArgs false
theorem own_none {w : World} {base e size n k c : Nat} {xs : List Value} (h : w.ownsRow base e size (.slice none k c) n xs) : c = 0 := by
  rcases h.2 with ⟨e1, _⟩ | ⟨g, cap, cur, e1, _⟩
  · injection e1
  · cases e1
theorem wpAppV {W : World} {ops : Array Oper} {rest : List Oper} {o : Oper} {a : Act} {Q : Exit → Act → World → Prop} {t e bytes : Nat} {z : Value} (hE : ElemOk t e 1 bytes z)
    (hgd : o.guard = none) (s x : Operand) (ho : o.op = .call { callee := .builtin .append, args := #[s, x], argTypes := #[t, t] })
    (base : Nat) (v : Value) (n : Nat) (xs : List Value) (A : Option Addr) (m c : Nat) (news : List Value) (hs : a.eval s = v) (hown : W.ownsRow base e 1 v n xs)
    (hx : a.eval x = .slice A m c) (hc : A = none → c = 0) (hl : news.length = m) (hI : 0 < m → ∃ b of, A = some ⟨b, of, none⟩ ∧ ∀ j u, news[j]? = some u → W.cell? ⟨b, of + j, none⟩ = some u)
    (h1 : ∀ u ∈ news, u.oneCell' = true) (hb : bytes ≤ 4096) (hn : n + m ≤ 1000000000) (hbase : base ≤ W.heap.size)
    (h : ∀ v' w', w'.ownsRow base e 1 v' (n + m) (xs ++ news) → W.grownBy w' v.ownBlock → (v'.ownBlock = v.ownBlock ∨ v'.ownBlock = some W.heap.size) → wpList Try.prog ops Q rest (a.put o.dst v') w') : wpList Try.prog ops Q (o :: rest) a W := by
  obtain ⟨h2, h3, h4, h5⟩ := hE
  obtain ⟨i0, hi, hz0, hz1, hz2⟩ := info_parts h3
  rcases A with _ | ad
  · have hm : m = 0 := by
      rcases Nat.eq_zero_or_pos m with h0 | h0
      · exact h0
      · obtain ⟨_, _, e, _⟩ := hI h0; cases e
    subst hm
    have hc0 := hc rfl
    subst hc0
    have hnn : news = [] := List.length_eq_zero_iff.1 hl
    subst hnn
    refine wpList_append_own_none hgd s x t ho base e i0 1 h2 hi v n xs hs hown hx (h v W ?_ (World.grownBy.refl _ _) (.inl rfl))
    simpa using hown
  · refine wpList_append_own_at _ hgd s x t ho base e i0 z 1 bytes h2 hi hz0 hz1 hz2 h4 h5 v n xs hs hown ad m c news hx (by simpa using hl) ?_ h1 (by unfold maxLen; omega) ?_ hbase ?_
    · intro j u hj
      have hjm : j < m := by rw [← hl]; exact (List.getElem?_eq_some_iff.1 hj).1
      obtain ⟨b, of, e, hcell⟩ := hI (by omega)
      cases e
      rw [Addr.add_lit]
      exact hcell j u hj
    · calc (n + m) * bytes ≤ 1000000001 * 4096 := Nat.mul_le_mul (by omega) hb
        _ ≤ 140737488355328 := by omega
    · intro v' w' hown' hg _ hat
      exact h v' w' hown' hg hat
end Go.Proofs.Ytooilennejakhaa
