/- Lemmas and contracts of functions (what each call returns, and that it changes nothing that was there) that the proof of a law of this seat uses; each lemma states its own conditions. -/
import Derived.Test.YtooilennejakhaaB13
import Derived.Test.YtooilennejakhaaB14
import Derived.Test.YtooilennejakhaaB09
import Derived.Lib.AppendZeros
import Derived.Test.YtooilennejakhaaB12
import Derived.Deep.DeepCutAuto
namespace Go.Proofs.Ytooilennejakhaa
open Go.RowKit
set_option linter.unusedVariables false
set_option linter.unusedSimpArgs false
open Ef
theorem map_set {p : List Int} {i : Nat} {k : Int} : (p.set i k).map i64v = (p.map i64v).set i (i64v k) := by rw [List.map_set]
theorem g_at {p : List Int} {i : Nat} (hi : i < p.length) : (p.map i64v)[i]? = some (.int .i64 (g p i)) := by
  rw [List.getElem?_map, List.getElem?_eq_getElem hi]
  simp [g, List.getD, hi, i64v]
/-- The untied strands, read off the world. -/
def wcnt (w : World) (tb N : Nat) : Nat := (List.range N).countP fun i => decide (cellInt w tb i < 0)
theorem wcnt_eq {w : World} {base tb N cap : Nat} {p : List Int} (hp : p.length = N) (h : w.ownsRow base 3 1 (.slice (some ⟨tb, 0, none⟩) N cap) N (p.map i64v)) : wcnt w tb N = cnt p N := by
  unfold wcnt cnt
  refine List.countP_congr fun i hi => ?_
  rw [List.mem_range] at hi
  rw [cellInt_of (by rw [(own_cell h hi).1, g_at (by omega)])]
def lenOf : Value → Nat
  | .slice _ n _ => n
  | _ => 0
def natS (T : List Nat) : List Value := T.map fun x : Nat => i64v (x : Int)
theorem BelowX.trans {base mb : Nat} {W w w' : World} (h : BelowX base mb W w) (k : BelowX base mb w w') : BelowX base mb W w' :=
  ⟨k.os.trans h.os, k.tape.trans h.tape, k.output.trans h.output, k.size, fun b h1 h2 => (k.block b h1 h2).trans (h.block b h1 h2)⟩
theorem BelowX.of_below {base mb : Nat} {W w : World} (hb : base ≤ W.heap.size) (h : Below base W w) : BelowX base mb W w :=
  ⟨h.os, h.tape, h.output, Nat.le_trans hb h.size, fun b h1 _ => h.block b h1⟩
theorem BelowX.to_other {base base' mb mb' : Nat} {W w : World} (h : BelowX base' mb' W w) (hb : base ≤ base') (hm : base ≤ mb') : BelowX base mb W w :=
  ⟨h.os, h.tape, h.output, Nat.le_trans hb h.size, fun b h1 _ => h.block b (by omega) (by omega)⟩
theorem BelowX.growE {base mb : Nat} {W w : World} (h : BelowX base mb W w) (E : Array Obj) (d : Nat) : BelowX base mb W (extW w E d) :=
  h.trans (BelowX.of_below h.size (bExtW (Below.refl base w) h.size))
theorem BelowX.ints {base mb : Nat} {W w : World} {a : Option Addr} {n : Nat} {zs : List Int} (h : BelowX base mb W w) (hi : IsInts W a n zs) (hW : ∀ b o, a = some ⟨b, o, none⟩ → b < base ∧ b ≠ mb) : IsInts w a n zs := by
  refine ⟨hi.1, fun hn => ?_⟩
  obtain ⟨b, o, h1, h2, h3⟩ := hi.2 hn
  obtain ⟨h4, h5⟩ := hW b o h1
  exact ⟨b, o, h1, Nat.lt_of_lt_of_le h4 h.size, fun j hj => (World.cell?_of_block (h.block b h4 h5)).trans (h3 j hj)⟩
theorem ints_of_own {w : World} {base n c gb : Nat} {l : List Int} (h : w.ownsRow base 3 1 (.slice (some ⟨gb, 0, none⟩) n c) n (l.map i64v)) : IsInts w (some ⟨gb, 0, none⟩) n l := by
  have hl : l.length = n := by have := (own_parts h).1; simpa using this
  refine ⟨hl, fun _ => ⟨gb, 0, rfl, own_lt h, fun j hj => ?_⟩⟩
  rw [Nat.zero_add, (own_cell h hj).1, List.getElem?_map, List.getElem?_eq_getElem (by omega)]
  simp [List.getD, hl, hj, i64v]
theorem slice_pop (tg m cp : Nat) (h : m ≤ cp) (w : World) : (Instr.slice 22 (.slice (some ⟨tg, 0, none⟩) (m + 1) cp) none (some (.int .i64 (m))) none).run Try.prog w = .ok (.slice (some ⟨tg, 0, none⟩) m cp) w := by
  have h1 := run_slice_h (P := Try.prog) w 22 (some ⟨tg, 0, none⟩) (m + 1) cp (by kernel_rfl) .i64 (m : Int) (by omega) (by omega)
  rw [h1]
  have hsz : (sizeOf (Try.prog.elem 22)).run Try.prog w = .ok 1 w := by go_simp
  rw [hsz]
  have e2 : ((m : Int)).toNat = m := by omega
  rw [e2]
  simp [Result.andThen, sliced, Addr.add_lit]
end Go.Proofs.Ytooilennejakhaa

namespace Go.Proofs.Ytooilennejakhaa
open Go.RowKit
set_option linter.unusedVariables false
set_option linter.unusedSimpArgs false
section
variable {P : Program} {l : List Oper} {n : Nat} {Q : Exit → Act → World → Prop}
def wpN (P : Program) (l : List Oper) (n : Nat) (Q : Exit → Act → World → Prop) : Nat → Array Bool → Act → World → Prop
  | 0, listed, a, W => Region.seqB .any l.toArray (l.length - n) n listed = true ∧ ∀ E d, wpList P l.toArray Q (l.drop n) a (extW W E d)
  | f + 1, listed, a, W => Region.ready .any l.toArray listed ≠ [] ∧
      ∀ i ∈ Region.ready .any l.toArray listed, i < n ∧ ∀ E d, wpOp P l.toArray Q i (fun a' w' => ExtOf (extW W E d) w' ∧ wpN P l n Q f (listed.setIfInBounds i true) a' w') a (extW W E d)
theorem wpN_grow : ∀ (f : Nat) (listed : Array Bool) (a : Act) (W : World) (E : Array Obj) (d : Nat), wpN P l n Q f listed a W → wpN P l n Q f listed a (extW W E d)
  | 0, listed, a, W, E, d, h => ⟨h.1, fun F e => by rw [extW_extW]; exact h.2 _ _⟩
  | f + 1, listed, a, W, E, d, h => ⟨h.1, fun i hi => ⟨(h.2 i hi).1, fun F e => by
      rw [extW_extW]
      exact (h.2 i hi).2 (E ++ F) e⟩⟩
theorem wpN_ext {f : Nat} {listed : Array Bool} {a : Act} {W w : World} (h : wpN P l n Q f listed a W) (hw : ExtOf W w) : wpN P l n Q f listed a w := by
  obtain ⟨E, d, rfl⟩ := hw
  exact wpN_grow f listed a W E d h
theorem wpAny_of_N : ∀ (f : Nat) (listed : Array Bool) (a : Act) (W : World), wpN P l n Q f listed a W → wpAny P .any l.toArray Q (f + (l.length - n)) listed a W
  | 0, listed, a, W, h => by
    have h2 := h.2 #[] W.drawn
    rw [extW_self] at h2
    have := wpAny_of_seq (P := P) (md := .any) (Q' := Q) (l.drop n) n listed a W (fun j => by simp [List.getElem?_drop]) (by rw [List.length_drop]; exact h.1) h2
    rw [List.length_drop] at this
    rwa [Nat.zero_add]
  | f + 1, listed, a, W, h => by
    rw [show f + 1 + (l.length - n) = (f + (l.length - n)) + 1 by omega]
    refine ⟨fun h0 => absurd h0 h.1, fun i hi => ?_⟩
    have := (h.2 i hi).2 #[] W.drawn
    rw [extW_self] at this
    exact wpOp_mono (fun a' w' h' => wpAny_of_N f _ a' w' h'.2) this
theorem wpN_first {i : Nat} {oi : Oper} {v : Value} (hi : l.toArray[i]? = some oi) (hsel : ∀ (j : Nat) (o : Oper) cs b, l.toArray[j]? = some o → o.op ≠ .select cs b)
    (hs : Region.sinkB .any l.toArray n = true) (hc : Region.chainB .any l.toArray n = true) (hn : n < l.toArray.size) (hin : i < n)
    (hQ : ∀ c a w, Q (.panic c) (a.put oi.dst v) w → Q (.panic c) a w) (f : Nat) :
    ∀ (listed : Array Bool) (a : Act) (W : World), HeadInv .any l.toArray n listed →
      (∀ j oj, l.toArray[j]? = some oj → j ≠ i → listed.getD j true = false → (∀ e ∈ oj.after, Region.binds .any e = true → e.on ≠ i) → oi.apart l.toArray oj = true) →
      i ∈ Region.ready .any l.toArray listed → YieldsE P l.toArray oi v a W →
      wpN P l n Q f (listed.setIfInBounds i true) (a.put oi.dst v) W → wpN P l n Q (f + 1) listed a W := by
  induction f with
  | zero =>
    intro listed a W inv _ hr hy H
    refine ⟨List.ne_nil_of_mem hr, fun j hj => ?_⟩
    have hjn : j < n := Nat.lt_of_not_le fun h => tail_waits hs hc hn inv _ i rfl hin (mem_ready.1 hr).1 j h hj
    refine ⟨hjn, fun E d => ?_⟩
    by_cases hji : j = i
    · subst hji; exact hy.wpOp hi E d fun w' hw' => ⟨hw', wpN_ext H hw'.trans'⟩
    · exact absurd (seqB_ready H.1 j (ready_mono hj hji)) (by omega)
  | succ f ih =>
    intro listed a W inv hfree hr hy H
    refine ⟨List.ne_nil_of_mem hr, fun j hj => ?_⟩
    have hjn : j < n := Nat.lt_of_not_le fun h => tail_waits hs hc hn inv _ i rfl hin (mem_ready.1 hr).1 j h hj
    refine ⟨hjn, fun E d => ?_⟩
    by_cases hji : j = i
    · subst hji; exact hy.wpOp hi E d fun w' hw' => ⟨hw', wpN_ext H hw'.trans'⟩
    · have h1 := (H.2 j (ready_mono hj hji)).2 E d
      obtain ⟨hjun, oj, hoj, hall⟩ := mem_ready.1 hj
      have hnot : ∀ e ∈ oj.after, Region.binds .any e = true → e.on ≠ i := by
        intro e he hb heq
        have h1 := hall e he hb
        rw [heq, getD_both (mem_ready.1 hr).1] at h1
        cases h1
      have h2 := wpOp_putY (Y := fun a' => YieldsE P l.toArray oi v a' W) (fun a a' e1 e2 hY E d => (hY E d).of_same e1 e2) hoj (hfree j oj hoj hji hjun hnot) (fun cs b => hsel i oi cs b hi) (fun cs b => hsel j oj cs b hoj) hQ hy h1
      have hfree' : ∀ k ok, l.toArray[k]? = some ok → k ≠ i → (listed.setIfInBounds j true).getD k true = false → (∀ e ∈ ok.after, Region.binds .any e = true → e.on ≠ i) → oi.apart l.toArray ok = true := by
        intro k ok hk hki hun hno
        refine hfree k ok hk hki ?_ hno
        by_cases hjk : j = k
        · subst hjk; exact hjun
        · rwa [getD_set_ne true hjk] at hun
      refine wpOp_mono (fun a' w' h3 => ⟨h3.2.1, ih (listed.setIfInBounds j true) a' w' (inv.set hj hjn) hfree' (ready_mono hr (Ne.symm hji)) (h3.1.grow h3.2.1.trans') ?_⟩) h2
      rw [Array.setIfInBounds_comm _ _ hji]
      exact h3.2.2
/-- What is asked of the region: the last operations wait for all others, one for the other. -/
def statN (l : List Oper) (n : Nat) : Bool := Region.noSelect l.toArray && Region.sinkB .any l.toArray n && Region.chainB .any l.toArray n && decide (n < l.length)
def wpM (P : Program) (l : List Oper) (n : Nat) (Q : Exit → Act → World → Prop) (f : Nat) (listed : Array Bool) (a : Act) (W : World) : Prop := statN l n = true → HeadInv .any l.toArray n listed → wpN P l n Q f listed a W
theorem statN_parts (h : statN l n = true) : Region.noSelect l.toArray = true ∧ Region.sinkB .any l.toArray n = true ∧ Region.chainB .any l.toArray n = true ∧ n < l.toArray.size := by
  unfold statN at h
  simp only [Bool.and_eq_true, decide_eq_true_eq] at h
  exact ⟨h.1.1.1, h.1.1.2, h.1.2, by simpa using h.2⟩
/-- Number i is taken first. -/
theorem wpM_take {i : Nat} {o : Oper} {f : Nat} {listed : Array Bool} {a : Act} {W : World} (hi : l.toArray[i]? = some o)
    (hf : (Region.free .any l.toArray listed i && (Region.ready .any l.toArray listed).contains i && decide (i < n)) = true)
    (hQ : ∀ v c a w, Q (.panic c) (a.put o.dst v) w → Q (.panic c) a w)
    (h : ∀ K : Act → Prop, (∀ a, wpM P l n Q f (listed.setIfInBounds i true) a W → K a) →
      if Region.wanted o (yielded l.toArray a.tmps) then ∃ v, (∀ E d, Oper.quietAt P o a (fun w' => ∃ F e, w' = extW (extW W E d) F e) (extW W E d) v) ∧ K (a.put o.dst v) else K (a.put o.dst undef)) : wpM P l n Q (f + 1) listed a W := by
  intro hst inv
  obtain ⟨s1, s2, s3, s4⟩ := statN_parts hst
  simp only [Bool.and_eq_true, decide_eq_true_eq] at hf
  obtain ⟨⟨h2, h3⟩, hin⟩ := hf
  have hr : i ∈ Region.ready .any l.toArray listed := by simpa using h3
  have h4 := h _ fun _ h => h
  by_cases hw : Region.wanted o (yielded l.toArray a.tmps) = true
  · rw [if_pos hw] at h4
    obtain ⟨v, hv, h5⟩ := h4
    refine wpN_first hi (Region.noSelect_spec s1) s2 s3 s4 hin (hQ v) f listed a W inv (Region.free_spec hi h2) hr (fun E d => .inl ⟨hw, fun w hwC => ?_⟩) (h5 hst (inv.set hr hin))
    obtain ⟨F, e, rfl⟩ := hwC
    rw [extW_extW]
    refine quietAt_mono (fun w' hw' => ?_) (hv (E ++ F) e)
    obtain ⟨F', e', rfl⟩ := hw'
    exact ⟨F ++ F', e', by rw [extW_extW, extW_extW, Array.append_assoc]⟩
  · rw [if_neg hw] at h4
    exact wpN_first hi (Region.noSelect_spec s1) s2 s3 s4 hin (hQ undef) f listed a W inv (Region.free_spec hi h2) hr (fun E d => .inr ⟨by simpa using hw, rfl⟩) (h4 hst (inv.set hr hin))
/-- Number i alone can come up. Behind it: the worlds that have grown since then. -/
theorem wpM_step {i : Nat} {o : Oper} {f : Nat} {listed : Array Bool} {a : Act} {W : World} (hi : l.toArray[i]? = some o) (hr : (decide (Region.ready .any l.toArray listed = [i]) && decide (i < n)) = true)
    (h : ∀ E d, ∀ K : Act → World → Prop, (∀ a' w', ExtOf (extW W E d) w' → wpM P l n Q f (listed.setIfInBounds i true) a' w' → K a' w') →
      if Region.wanted o (yielded l.toArray a.tmps) then Oper.wp P o a (extW W E d) K Q else K (a.put o.dst undef) (extW W E d)) : wpM P l n Q (f + 1) listed a W := by
  intro hst inv
  simp only [Bool.and_eq_true, decide_eq_true_eq] at hr
  obtain ⟨hr, hin⟩ := hr
  refine ⟨by rw [hr]; simp, fun j hj => ?_⟩
  have hji : j = i := by rw [hr] at hj; simpa using hj
  subst hji
  refine ⟨hin, fun E d => ?_⟩
  have h1 := h E d (fun a' w' => ExtOf (extW W E d) w' ∧ wpN P l n Q f (listed.setIfInBounds j true) a' w') (fun a w' he h' => ⟨he, h' hst (inv.set hj hin)⟩)
  unfold wpOp
  simp only [hi]
  by_cases hw : Region.wanted o (yielded l.toArray a.tmps) = true
  · rw [if_pos hw] at h1 ⊢
    exact .inl h1
  · rw [if_neg hw] at h1 ⊢
    exact h1
/-- The last operations. -/
theorem wpM_tail {listed : Array Bool} {a : Act} {W : World} (hs : Region.seqB .any l.toArray (l.length - n) n listed = true) (h : ∀ E d, wpList P l.toArray Q (l.drop n) a (extW W E d)) : wpM P l n Q 0 listed a W := fun _ _ => ⟨hs, h⟩
/-- The beginning. -/
theorem wp_region_M (n : Nat) {id : Nat} {a : Act} {W : World} (hm : P.follows .mixedOrders = true) (hst : statN l n = true) (h : wpM P l n Q n (Array.replicate l.length false) a W) : (Code.region id l.toArray true).wp P Q a W := by
  obtain ⟨_, _, _, s4⟩ := statN_parts hst
  have inv0 : HeadInv .any l.toArray n (Array.replicate l.length false) :=
    ⟨by simp, fun j oj _ hl => (by rw [getD_replicate_false] at hl; cases hl), fun t _ ht => getD_in (by simpa using ht) (getD_replicate_false _ _)⟩
  have h1 := wpN_grow _ _ _ _ #[] (W.drawn + 1) (h hst inv0)
  rw [extW_self] at h1
  have h2 := wpAny_of_N _ _ _ _ h1
  rw [show n + (l.length - n) = l.length by have : n < l.length := by simpa using s4
                                            omega] at h2
  exact wp_region_any hm (by simpa using h2)
end
end Go.Proofs.Ytooilennejakhaa

namespace Go.Proofs.Ytooilennejakhaa
open Go.RowKit
set_option linter.unusedVariables false
set_option linter.unusedSimpArgs false
open Ef
/-- The threads that are told. -/
def StrPostE (W H N : Nat) (cs : List Int) (w : World) (r : Ending) (w' : World) : Prop :=
  ((Stuck W cs N ∧ r = .returned (.tuple #[.agg #[.slice none 0 0, .slice none 0 0], .int .i64 (6)])) ∨ ∃ p A C B D, Str W cs N N p ∧ r = .returned (.tuple #[.agg #[.slice A W C, .slice B H D], .int .i64 (0)]) ∧ IsInts w' A W (p.take W) ∧ IsInts w' B H (p.drop W)) ∧ Below w.heap.size w w'
/-- Where the trying of colours for strand s stands. -/
def KInv (W : Nat) (cs : List Int) (s : Nat) (p : List Int) (k : Nat) (p2 : List Int) : Prop :=
  (p2 = p ∧ (0 ≤ g p s → k = 0) ∧ ∀ j : Nat, j < k → Never W cs (p.set s j)) ∨ (∃ k' : Nat, k = k' + 1 ∧ g p s < 0 ∧ k' < 62 ∧ (∀ j : Nat, j < k' → Never W cs (p.set s j)) ∧ Least W cs (p.set s k') p2)
theorem KInv.exit {W N s k : Nat} {cs p p2 : List Int} (h : KInv W cs s p k p2) (hs : Str W cs N s p) (hsN : s < N) (h0 : 0 ≤ g p2 s) : Str W cs N (s + 1) p2 := by
  rcases h with ⟨rfl, _, _⟩ | ⟨k', _, h1, h2, h3, h4⟩
  · exact .keep hs hsN h0
  · exact .tie hs hsN h1 h2 h3 h4
theorem KInv.open {W N s k : Nat} {cs p p2 : List Int} (h : KInv W cs s p k p2) (hs : Str W cs N s p) (hsN : s < N) (h0 : g p2 s < 0) : p2 = p ∧ ∀ j : Nat, j < k → Never W cs (p.set s j) := by
  rcases h with ⟨rfl, _, h⟩ | ⟨k', _, h1, h2, h3, h4⟩
  · exact ⟨rfl, h⟩
  · have hl := hs.inv.1
    have h5 := h4.1.2 s (by rw [set_len]; omega)
    rw [g_set p s s _ (by omega), if_pos rfl] at h5
    rw [h5 (by omega)] at h0
    omega
def chF (W H : Nat) (ca : Option Addr) (cn cc : Nat) : Nat → Value := fun j => if j = 0 then .int .i64 4 else if j = 1 then .int .i64 (W : Int) else if j = 2 then .int .i64 (H : Int) else .slice ca cn cc
theorem slice_3 (tb n W cap : Nat) (h : W ≤ n) (h2 : n ≤ cap) : ∀ w, (Instr.slice 22 (.slice (some ⟨tb, 0, none⟩) n cap) none (some (.int .i64 (W))) (some (.int .i64 (W)))).run Try.prog w = .ok (.slice (some ⟨tb, 0, none⟩) W W) w := by
  intro w
  rw [run_slice_hm (P := Try.prog) w 22 (some ⟨tb, 0, none⟩) n cap (by kernel_rfl) .i64 .i64 (W : Int) (W : Int) (by omega) (by omega) (by omega)]
  have hsz : (sizeOf (Try.prog.elem 22)).run Try.prog w = .ok 1 w := by go_simp
  rw [hsz]
  have e2 : ((W : Int)).toNat = W := by omega
  rw [e2]
  simp [Result.andThen, sliced, Addr.add_lit]
theorem slice_fr (tb n W H cap : Nat) (h : W + H = n) (h1 : 1 ≤ H) (h2 : n ≤ cap) : ∀ w, (Instr.slice 22 (.slice (some ⟨tb, 0, none⟩) n cap) (some (.int .i64 (W))) none none).run Try.prog w = .ok (.slice (some ⟨tb, W, none⟩) H (cap - W)) w := by
  intro w
  rw [run_slice_l (P := Try.prog) w 22 (some ⟨tb, 0, none⟩) n cap (by kernel_rfl) .i64 (W : Int) (by omega) (by omega)]
  have hsz : (sizeOf (Try.prog.elem 22)).run Try.prog w = .ok 1 w := by go_simp
  rw [hsz]
  have e2 : ((W : Int)).toNat = W := by omega
  rw [e2]
  have e3 : n - W = H := by omega
  simp [Result.andThen, sliced, Addr.add_lit, e3]
  omega
theorem ints_from {w : World} {b o n W H : Nat} {l : List Int} (h : IsInts w (some ⟨b, o, none⟩) n l) (hn : W + H = n) : IsInts w (some ⟨b, o + W, none⟩) H (l.drop W) := by
  refine ⟨by rw [List.length_drop, h.1]; omega, fun hH => ?_⟩
  obtain ⟨b', o', e, hlt, hc⟩ := h.2 (by omega)
  cases e
  refine ⟨b, o + W, rfl, hlt, fun j hj => ?_⟩
  rw [Nat.add_assoc, hc (W + j) (by omega)]
  rw [List.getD_eq_getElem?_getD, List.getD_eq_getElem?_getD, List.getElem?_drop]
theorem ints_upto {w : World} {b o n m : Nat} {l : List Int} (h : IsInts w (some ⟨b, o, none⟩) n l) (hm : m ≤ n) : IsInts w (some ⟨b, o, none⟩) m (l.take m) := by
  refine ⟨by rw [List.length_take, h.1]; omega, fun hH => ?_⟩
  obtain ⟨b', o', e, hlt, hc⟩ := h.2 (by omega)
  cases e
  refine ⟨b, o, rfl, hlt, fun j hj => ?_⟩
  rw [hc j (by omega)]
  rw [List.getD_eq_getElem?_getD, List.getD_eq_getElem?_getD, List.getElem?_take_of_lt hj]
theorem belowX7 {w w4 : World} {E : Array Obj} {d : Nat} (h : Below (extW w E d).heap.size (extW w E d) w4) : Below w.heap.size w w4 := by
  have h1 : Below w.heap.size w (extW w E d) := bExtW (Below.refl _ _) (Nat.le_refl _)
  exact h1.trans (h.mono h1.size)
theorem ints_set {w : World} {a : Option Addr} {n q i : Nat} {l : List Int} {v : Value} (h : IsInts w a n l) (hm : ∀ b o, a = some ⟨b, o, none⟩ → b ≠ q) : IsInts (w.setCell ⟨q, i, none⟩ v) a n l := by
  refine ⟨h.1, fun hn => ?_⟩
  obtain ⟨b, o, e, hlt, hc⟩ := h.2 hn
  refine ⟨b, o, e, by rw [World.size_setCell]; exact hlt, fun j hj => ?_⟩
  rw [← hc j hj]
  exact World.cell?_of_block (Below.heap_setCell _ _ _ b (fun e2 => hm b o e (by simpa using e2)))
end Go.Proofs.Ytooilennejakhaa

namespace Go.Proofs.Ytooilennejakhaa
open Go.RowKit
set_option linter.unusedVariables false
set_option linter.unusedSimpArgs false
/-- slices.Grow of nil. -/
def GrowPost (w : World) (r : Ending) (w' : World) : Prop := ∃ C, r = .returned (.slice (some ⟨w.heap.size, 0, none⟩) 0 C) ∧ w'.ownsRow w.heap.size 3 1 (.slice (some ⟨w.heap.size, 0, none⟩) 0 C) 0 [] ∧ Below w.heap.size w w'
theorem own_zeros (w : World) (n : Nat) (hn : n ≤ 1000) : (w.drew.alloc (.cells (Builtin.zeroCells (Value.cells (.int .i64 0)) n ++ Builtin.zeroCells (Value.cells (.int .i64 0)) (grownCap w n 0 3 - n)) 3)).ownsRow w.heap.size 3 1 (.slice (some ⟨w.heap.size, 0, none⟩) 0 (grownCap w n 0 3)) 0 [] := by
  have hge := grownCap_ge w n 0 3
  have hcm := grownCap_le_maxLen w n 0 3 (by unfold maxLen; omega)
  refine own_mk rfl (Nat.le_refl _) (Nat.zero_le _) hcm (heap_alloc_new w.drew _) ?_ rfl
  rw [Array.size_append, size_zeroCells, size_zeroCells]
  show n * 1 + (grownCap w n 0 3 - n) * 1 = _
  omega
theorem slice_nil0 : ∀ w, (Instr.slice 22 (.slice none 0 0) none (some (.int .i64 (0))) none).run Try.prog w = .ok (.slice none 0 0) w := by
  intro w
  rw [run_slice_h (P := Try.prog) w 22 none 0 0 (by kernel_rfl) .i64 0 (by omega) (by omega)]
  have hsz : (sizeOf (Try.prog.elem 22)).run Try.prog w = .ok 1 w := by go_simp
  rw [hsz]
  rfl
theorem slice_to0 (g n c : Nat) : ∀ w, (Instr.slice 22 (.slice (some ⟨g, 0, none⟩) n c) none (some (.int .i64 (0))) none).run Try.prog w = .ok (.slice (some ⟨g, 0, none⟩) 0 c) w := by
  intro w
  rw [run_slice_h (P := Try.prog) w 22 (some ⟨g, 0, none⟩) n c (by kernel_rfl) .i64 0 (by omega) (by omega)]
  have hsz : (sizeOf (Try.prog.elem 22)).run Try.prog w = .ok 1 w := by go_simp
  rw [hsz]
  simp [Result.andThen, sliced, Addr.add_lit]
end Go.Proofs.Ytooilennejakhaa

namespace Go.Proofs.Ytooilennejakhaa
open Go.RowKit
set_option linter.unusedVariables false
set_option linter.unusedSimpArgs false
/-- What is wrong with threads. -/
def stE (en pn : Nat) (es ps : List Int) : Int := if en = 0 ∨ 64 < en ∨ pn = 0 ∨ 64 < pn then 5 else if ∃ x ∈ es ++ ps, x < 0 ∨ 62 ≤ x then 3 else 0
theorem stE_zero {en pn : Nat} {es ps : List Int} (h : stE en pn es ps = 0) : 1 ≤ en ∧ en ≤ 64 ∧ 1 ≤ pn ∧ pn ≤ 64 ∧ ∀ x ∈ es ++ ps, 0 ≤ x ∧ x < 62 := by
  unfold stE at h
  split at h
  · omega
  · split at h
    · omega
    · rename_i h1 h2
      refine ⟨by omega, by omega, by omega, by omega, fun x hx => ?_⟩
      by_cases e : x < 0 ∨ 62 ≤ x
      · exact absurd ⟨x, hx, e⟩ h2
      · omega
theorem stE_ok {en pn : Nat} {es ps : List Int} (h1 : 1 ≤ en) (h2 : en ≤ 64) (h3 : 1 ≤ pn) (h4 : pn ≤ 64) (h : ∀ x ∈ es ++ ps, 0 ≤ x ∧ x < 62) : stE en pn es ps = 0 := by
  unfold stE
  rw [if_neg (by omega), if_neg (by rintro ⟨x, hx, e⟩; have := h x hx; omega)]
theorem ints_of_any {w : World} {base n c : Nat} {A : Option Addr} {l : List Int} (hl : l.length = n) (h : w.ownsRow base 3 1 (.slice A n c) n (l.map i64v)) : IsInts w A n l := by
  subst hl
  obtain ⟨a, c', e, h1, _⟩ := ints_owns h
  injection e with e1 _ _
  subst e1
  exact h1
end Go.Proofs.Ytooilennejakhaa

namespace Go.Proofs.Ytooilennejakhaa
open Go.RowKit
set_option linter.unusedVariables false
set_option linter.unusedSimpArgs false
/-- Threads that lie in memory. -/
structure SArg (ea : Option Addr) (en ec : Nat) (es : List Int) (pa : Option Addr) (pn pc : Nat) (ps : List Int) (w : World) : Prop where
  e : IsInts w ea en es
  p : IsInts w pa pn ps
theorem SArg.below {ea : Option Addr} {en ec : Nat} {es : List Int} {pa : Option Addr} {pn pc : Nat} {ps : List Int} {w w' : World} (h : SArg ea en ec es pa pn pc ps w) (hb : Below w.heap.size w w') : SArg ea en ec es pa pn pc ps w' := ⟨h.e.below hb, h.p.below hb⟩
/-- What is seen of a cloth. -/
def shL (W : Nat) (es ps : List Int) (bs : List Bool) (k : Nat) : List Int := (List.range k).map fun i => if bs.getD i false then es.getD (i % W) 0 else ps.getD (i / W) 0
theorem shL_succ (W : Nat) (es ps : List Int) (bs : List Bool) (k : Nat) : shL W es ps bs (k + 1) = shL W es ps bs k ++ [if bs.getD k false then es.getD (k % W) 0 else ps.getD (k / W) 0] := by
  unfold shL
  rw [List.range_succ, List.map_append]; rfl
theorem shL_len (W : Nat) (es ps : List Int) (bs : List Bool) (k : Nat) : (shL W es ps bs k).length = k := by simp [shL]
/-- The cells of a chart. -/
def chG (G W H : Int) (v : Value) : Nat → Value := fun j => if j = 0 then .int .i64 G else if j = 1 then .int .i64 W else if j = 2 then .int .i64 H else v
theorem chG_alloc (w : World) (G W H : Int) (v : Value) : (w.alloc (.cells #[.int .i64 G, .int .i64 W, .int .i64 H, v] 24)).rowIs w.heap.size 24 4 (chG G W H v) :=
  World.rowIs_alloc w #[.int .i64 G, .int .i64 W, .int .i64 H, v] 24 _ (by
    intro i hi
    have hi4 : i = 0 ∨ i = 1 ∨ i = 2 ∨ i = 3 := by simp at hi; omega
    rcases hi4 with rfl | rfl | rfl | rfl <;> rfl)
def sF (a b : Value) : Nat → Value := fun j => if j = 0 then a else b
structure CB (G W H : Int) (mb base : Nat) (W3 : World) (n : Nat) (p : List Int) (v : Value) (w : World) : Prop where
  row : w.rowIs mb 24 4 (chG G W H v)
  own : w.ownsRow base 3 1 v n (p.map i64v)
  bel : BelowX base mb W3 w
theorem CB.app {G W H : Int} {mb base n : Nat} {W3 w w2 : World} {p : List Int} {v v' : Value} {x : Int} (h : CB G W H mb base W3 n p v w) (hp : mb < base) (hown : w2.ownsRow base 3 1 v' (n + 1) (p.map i64v ++ [i64v x])) (hb : Below base w w2) :
    CB G W H mb base W3 (n + 1) (p ++ [x]) v' (w2.setCell ⟨mb, 3, none⟩ v') := by
  refine ⟨?_, ?_, ?_⟩
  · refine ((rowBelow h.row hb hp).set 3 _).congr fun i hi => ?_
    have hi4 : i = 0 ∨ i = 1 ∨ i = 2 ∨ i = 3 := by omega
    rcases hi4 with rfl | rfl | rfl | rfl <;> rfl
  · rw [List.map_append]
    exact ownsRow_setCell_below hown (a := ⟨mb, 3, none⟩) hp _
  · exact (h.bel.trans (BelowX.of_below h.bel.size hb)).set 3 _
/-- A chart and an error. -/
def ChPost (G W H : Int) (n : Nat) (L : List Int) (e : Int) (w : World) (r : Ending) (w' : World) : Prop := ∃ A C, r = .returned (.tuple #[.agg #[.int .i64 (G), .int .i64 (W), .int .i64 (H), .slice A n C], .int .i64 (e)]) ∧ IsInts w' A n L ∧ (A = none → C = 0) ∧ Below w.heap.size w w'
end Go.Proofs.Ytooilennejakhaa
