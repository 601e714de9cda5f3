/- Lemmas and contracts of functions (what each call returns, and that it changes nothing that was there) that the proof of a law of this seat uses; each lemma states its own conditions. -/
import Derived.Test.YtoooihoaapfjeaaB02
import Derived.Deep.RegionHeld3
import Derived.Test.YtoooihoaapfjeaaB03
import Derived.IntWalk
import Derived.Test.YtoooihoaapfjeaaB05
import Derived.Test.YtoooihoaapfjeaaB01
namespace Go.Proofs.Ytoooihoaapfjeaa
open Go.RowKit
set_option linter.unusedVariables false
set_option linter.unusedSimpArgs false
section
variable {P : Program} {ops : Array Oper} {md : Region.Mode} {Q : Exit → Act → World → Prop}
/-- One operation oj, apart from oi: it goes likewise whether oi's value is there already, and nothing that is said of oi changes. -/
theorem wpOp_putY {Y : Act → Prop} {j : Nat} {oi oj : Oper} {v : Value} (hYs : ∀ a a' : Act, execOp a'.eval oi = execOp a.eval oi → Region.wanted oi (yielded ops a'.tmps) = Region.wanted oi (yielded ops a.tmps) → Y a → Y a')
    (hj : ops[j]? = some oj) (hap : oi.apart ops oj = true) (hsi : ∀ cs b, oi.op ≠ .select cs b) (hsj : ∀ cs b, oj.op ≠ .select cs b)
    (hQ : ∀ c a w, Q (.panic c) (a.put oi.dst v) w → Q (.panic c) a w) {K : Act → World → Prop} {a : Act} {w : World}
    (hy : Y a) (h : wpOp P ops Q j K (a.put oi.dst v) w) : wpOp P ops Q j (fun a' w' => Y a' ∧ K (a'.put oi.dst v) w') a w := by
  obtain ⟨p1, p2, p3⟩ := Oper.apart_spec hap
  have kp : ∀ (b : Act), Y b → ∀ u, Y (b.put oj.dst u) := fun b hb u => hYs b _ (execOp_put oi hsi b oj.dst u p3) (wanted_put oi b oj.dst u p3) hb
  unfold wpOp at *
  simp only [hj] at *
  rw [wanted_put oj a oi.dst v p1] at h
  by_cases hw : Region.wanted oj (yielded ops a.tmps) = true
  · rw [if_pos hw] at h ⊢
    have he := execOp_put oj hsj a oi.dst v p1
    rcases h with h | ⟨h1, h2⟩
    · left
      unfold Oper.wp at *
      rw [he] at h
      cases hr : (execOp a.eval oj).run P w with
      | ok n w' =>
        rw [hr] at h
        cases n with
        | value u => exact ⟨kp a hy u, by rw [← Act.put_comm a v u p2]; exact h⟩
        | skip => exact ⟨kp a hy _, by rw [← Act.put_comm a v undef p2]; exact h⟩
        | defer d =>
          refine ⟨kp { a with defers := d :: a.defers } (hYs a _ rfl rfl hy) _, ?_⟩
          rw [← Act.put_comm _ v undef p2, ← Act.put_defers]
          exact h
        | enter f args =>
          refine Calls.mono h fun e w'' hh => ?_
          cases e with
          | returned u => exact ⟨kp a hy u, by rw [← Act.put_comm a v u p2]; exact hh⟩
          | panicked c => exact hQ _ _ _ hh
          | outgrown => exact hh
        | row r args => exact Rows.mono h fun u w'' hh => ⟨kp a hy u, by rw [← Act.put_comm a v u p2]; exact hh⟩
        | _ => exact h
      | halt x w' =>
        rw [hr] at h
        cases x with
        | panic u => exact hQ _ _ _ h
        | _ => exact h
    · right
      exact ⟨by unfold Oper.asks at *; rw [he] at h1; exact h1, h2⟩
  · rw [if_neg hw] at h ⊢
    exact ⟨kp a hy _, by rw [← Act.put_comm a v undef p2]; exact h⟩
theorem ExtOf.trans' {W : World} {E : Array Obj} {d : Nat} {w : World} (h : ExtOf (extW W E d) w) : ExtOf W w := by
  obtain ⟨F, e, rfl⟩ := h
  exact ⟨E ++ F, e, extW_extW W E F d e⟩
/-- Whatever order is picked from here on, in every world that has grown since W. -/
def wpE (P : Program) (md : Region.Mode) (ops : Array Oper) (Q : Exit → Act → World → Prop) : Nat → Array Bool → Act → World → Prop
  | 0, listed, a, W => Region.ready md ops listed = [] ∧ ∀ E d, Q .normal a (extW W E d)
  | f + 1, listed, a, W => (Region.ready md ops listed = [] → ∀ E d, Q .normal a (extW W E d)) ∧
      ∀ i ∈ Region.ready md ops listed, ∀ E d, wpOp P ops Q i (fun a' w' => ExtOf (extW W E d) w' ∧ wpE P md ops Q f (listed.setIfInBounds i true) a' w') a (extW W E d)
theorem wpE_grow : ∀ (f : Nat) (listed : Array Bool) (a : Act) (W : World) (E : Array Obj) (d : Nat), wpE P md ops Q f listed a W → wpE P md ops Q f listed a (extW W E d)
  | 0, listed, a, W, E, d, h => ⟨h.1, fun F e => by rw [extW_extW]; exact h.2 _ _⟩
  | f + 1, listed, a, W, E, d, h => ⟨fun hr F e => by rw [extW_extW]; exact h.1 hr _ _, fun i hi F e => by
      rw [extW_extW]
      exact h.2 i hi (E ++ F) e⟩
theorem wpE_ext {f : Nat} {listed : Array Bool} {a : Act} {W w : World} (h : wpE P md ops Q f listed a W) (hw : ExtOf W w) : wpE P md ops Q f listed a w := by
  obtain ⟨E, d, rfl⟩ := hw
  exact wpE_grow f listed a W E d h
theorem wpAny_of_E : ∀ (f : Nat) (listed : Array Bool) (a : Act) (W : World), wpE P md ops Q f listed a W → wpAny P md ops Q f listed a W
  | 0, listed, a, W, h => ⟨h.1, by have := h.2 #[] W.drawn; rwa [extW_self] at this⟩
  | f + 1, listed, a, W, h => ⟨fun hr => by have := h.1 hr #[] W.drawn; rwa [extW_self] at this, fun i hi => by
      have := h.2 i hi #[] W.drawn
      rw [extW_self] at this
      exact wpOp_mono (fun a' w' h' => wpAny_of_E f _ a' w' h'.2) this⟩
/-- Operation o yields v in every world that has grown since W, and adds blocks at most. -/
def YieldsE (P : Program) (ops : Array Oper) (o : Oper) (v : Value) (a : Act) (W : World) : Prop := ∀ E d, YieldsIn P ops (fun w => ∃ F e, w = extW (extW W E d) F e) o v a
theorem YieldsE.grow {o : Oper} {v : Value} {a : Act} {W w : World} (h : YieldsE P ops o v a W) (hw : ExtOf W w) : YieldsE P ops o v a w := by
  obtain ⟨E, d, rfl⟩ := hw
  intro F e
  rw [extW_extW]
  exact h _ _
theorem YieldsE.wpOp {i : Nat} {o : Oper} {v : Value} {a : Act} {W : World} {K : Act → World → Prop} (hi : ops[i]? = some o) (h : YieldsE P ops o v a W) (E : Array Obj) (d : Nat)
    (hK : ∀ w', ExtOf (extW W E d) w' → K (a.put o.dst v) w') : wpOp P ops Q i K a (extW W E d) :=
  wpOp_of_qOp (K := fun a' => a' = a.put o.dst v) (C := fun w => ∃ F e, w = extW (extW W E d) F e) (extOf_refl _) (fun a' w' hw' h' => by
    subst h'
    exact hK w' hw') ((h E d).qOp hi rfl)
theorem wpE_first {i : Nat} {oi : Oper} {v : Value} (hi : ops[i]? = some oi) (hsel : ∀ (j : Nat) (o : Oper) cs b, ops[j]? = some o → o.op ≠ .select cs b)
    (hQ : ∀ c a w, Q (.panic c) (a.put oi.dst v) w → Q (.panic c) a w) (f : Nat) :
    ∀ (listed : Array Bool) (a : Act) (W : World),
      (∀ j oj, ops[j]? = some oj → j ≠ i → listed.getD j true = false → (∀ e ∈ oj.after, Region.binds md e = true → e.on ≠ i) → oi.apart ops oj = true) →
      i ∈ Region.ready md ops listed → YieldsE P ops oi v a W →
      wpE P md ops Q f (listed.setIfInBounds i true) (a.put oi.dst v) W → wpE P md ops Q (f + 1) listed a W := by
  induction f with
  | zero =>
    intro listed a W _ hr hy H
    refine ⟨fun h => (by rw [h] at hr; cases hr), fun j hj E d => ?_⟩
    by_cases hji : j = i
    · subst hji; exact hy.wpOp hi E d fun w' hw' => ⟨hw', wpE_ext H hw'.trans'⟩
    · have := ready_mono hj hji
      rw [H.1] at this
      cases this
  | succ f ih =>
    intro listed a W hfree hr hy H
    refine ⟨fun h => (by rw [h] at hr; cases hr), fun j hj E d => ?_⟩
    by_cases hji : j = i
    · subst hji; exact hy.wpOp hi E d fun w' hw' => ⟨hw', wpE_ext H hw'.trans'⟩
    · have h1 := H.2 j (ready_mono hj hji) E d
      obtain ⟨hjun, oj, hoj, hall⟩ := mem_ready.1 hj
      have hnot : ∀ e ∈ oj.after, Region.binds md e = true → e.on ≠ i := by
        intro e he hb heq
        have h1 := hall e he hb
        rw [heq, getD_both (mem_ready.1 hr).1] at h1
        cases h1
      have h2 := wpOp_putY (Y := fun a' => YieldsE P ops oi v a' W) (fun a a' e1 e2 hY E d => (hY E d).of_same e1 e2) hoj (hfree j oj hoj hji hjun hnot) (fun cs b => hsel i oi cs b hi) (fun cs b => hsel j oj cs b hoj) hQ hy h1
      have hfree' : ∀ k ok, ops[k]? = some ok → k ≠ i → (listed.setIfInBounds j true).getD k true = false → (∀ e ∈ ok.after, Region.binds md e = true → e.on ≠ i) → oi.apart ops ok = true := by
        intro k ok hk hki hun hno
        refine hfree k ok hk hki ?_ hno
        by_cases hjk : j = k
        · subst hjk; exact hjun
        · rwa [getD_set_ne true hjk] at hun
      refine wpOp_mono (fun a' w' h3 => ⟨h3.2.1, ih (listed.setIfInBounds j true) a' w' hfree' (ready_mono hr (Ne.symm hji)) (h3.1.grow h3.2.1.trans') ?_⟩) h2
      rw [Array.setIfInBounds_comm _ _ hji]
      exact h3.2.2
/-- Number i is taken first. -/
theorem wpE_take {i : Nat} {o : Oper} {f : Nat} {listed : Array Bool} {a : Act} {W : World} (hi : ops[i]? = some o)
    (hf : (Region.noSelect ops && Region.free md ops listed i && (Region.ready md ops listed).contains i) = true)
    (hQ : ∀ v c a w, Q (.panic c) (a.put o.dst v) w → Q (.panic c) a w)
    (h : ∀ K : Act → Prop, (∀ a, wpE P md ops Q f (listed.setIfInBounds i true) a W → K a) →
      if Region.wanted o (yielded ops a.tmps) then ∃ v, (∀ E d, Oper.quietAt P o a (fun w' => ∃ F e, w' = extW (extW W E d) F e) (extW W E d) v) ∧ K (a.put o.dst v) else K (a.put o.dst undef)) : wpE P md ops Q (f + 1) listed a W := by
  simp only [Bool.and_eq_true] at hf
  obtain ⟨⟨h1, h2⟩, h3⟩ := hf
  have h4 := h _ fun _ h => h
  by_cases hw : Region.wanted o (yielded ops a.tmps) = true
  · rw [if_pos hw] at h4
    obtain ⟨v, hv, h5⟩ := h4
    refine wpE_first hi (Region.noSelect_spec h1) (hQ v) f listed a W (Region.free_spec hi h2) (by simpa using h3) (fun E d => .inl ⟨hw, fun w hwC => ?_⟩) h5
    obtain ⟨F, e, rfl⟩ := hwC
    rw [extW_extW]
    refine quietAt_mono (fun w' hw' => ?_) (hv (E ++ F) e)
    obtain ⟨F', e', rfl⟩ := hw'
    exact ⟨F ++ F', e', by rw [extW_extW, extW_extW, Array.append_assoc]⟩
  · rw [if_neg hw] at h4
    exact wpE_first hi (Region.noSelect_spec h1) (hQ undef) f listed a W (Region.free_spec hi h2) (by simpa using h3) (fun E d => .inr ⟨by simpa using hw, rfl⟩) h4
/-- Number i alone can come up. Behind it: the worlds that have grown since then. -/
theorem wpE_step {i : Nat} {o : Oper} {f : Nat} {listed : Array Bool} {a : Act} {W : World} (hi : ops[i]? = some o) (hr : Region.ready md ops listed = [i])
    (h : ∀ E d, ∀ K : Act → World → Prop, (∀ a' w', ExtOf (extW W E d) w' → wpE P md ops Q f (listed.setIfInBounds i true) a' w' → K a' w') →
      if Region.wanted o (yielded ops a.tmps) then Oper.wp P o a (extW W E d) K Q else K (a.put o.dst undef) (extW W E d)) : wpE P md ops Q (f + 1) listed a W := by
  refine ⟨fun h0 => (by rw [hr] at h0; cases h0), fun j hj E d => ?_⟩
  rw [hr] at hj
  obtain rfl : j = i := by simpa using hj
  have h1 := h E d (fun a' w' => ExtOf (extW W E d) w' ∧ wpE P md ops Q f (listed.setIfInBounds j true) a' w') (fun a w' he h' => ⟨he, h'⟩)
  unfold wpOp
  simp only [hi]
  by_cases hw : Region.wanted o (yielded ops a.tmps) = true
  · rw [if_pos hw] at h1 ⊢
    exact .inl h1
  · rw [if_neg hw] at h1 ⊢
    exact h1
/-- All have come up. -/
theorem wpE_done {f : Nat} {listed : Array Bool} {a : Act} {W : World} (hr : Region.ready md ops listed = []) (h : ∀ E d, Q .normal a (extW W E d)) : wpE P md ops Q f listed a W := by
  cases f with
  | zero => exact ⟨hr, h⟩
  | succ f => exact ⟨fun _ => h, by rw [hr]; simp⟩
/-- The beginning. -/
theorem wp_region_E {id : Nat} {a : Act} {W : World} (hm : P.follows .mixedOrders = true) (h : wpE P .any ops Q ops.size (Array.replicate ops.size false) a W) : (Code.region id ops true).wp P Q a W :=
  wp_region_any hm (wpAny_of_E _ _ _ _ (by have := wpE_grow _ _ _ _ #[] (W.drawn + 1) h; rwa [extW_self] at this))
end
end Go.Proofs.Ytoooihoaapfjeaa

namespace Go.Proofs.Ytoooihoaapfjeaa
open Go.RowKit
set_option linter.unusedVariables false
set_option linter.unusedSimpArgs false
/-- All blocks below base but mb lie as they lay. -/
structure BelowX (base mb : Nat) (W w : World) : Prop where
  os : w.os = W.os
  tape : w.tape = W.tape
  output : w.output = W.output
  size : base ≤ w.heap.size
  block : ∀ k, k < base → k ≠ mb → w.heap[k]? = W.heap[k]?
theorem BelowX.refl {base mb : Nat} {W : World} (h : base ≤ W.heap.size) : BelowX base mb W W := ⟨rfl, rfl, rfl, h, fun _ _ _ => rfl⟩
theorem BelowX.below {base mb q : Nat} {W w : World} (h : BelowX base mb W w) (hW : W.heap.size = base) (hq : q ≤ mb) (hm : mb < base) : Below q W w :=
  ⟨h.os, h.tape, h.output, by rw [hW]; exact h.size, fun k hk => h.block k (by omega) (by omega)⟩
theorem BelowX.rowIs {base mb b t n : Nat} {f : Nat → Value} {W w : World} (h : BelowX base mb W w) (hr : W.rowIs b t n f) (hb : b < base) (hm : b ≠ mb) : w.rowIs b t n f := hr.of_block (h.block b hb hm)
theorem BelowX.bools {base mb : Nat} {W w : World} {a : Option Addr} {n : Nat} {bs : List Bool} (h : BelowX base mb W w) (hi : IsBools W a n bs) (hW : ∀ b o, a = some ⟨b, o, none⟩ → b < base ∧ b ≠ mb) : IsBools w a n bs := by
  refine ⟨hi.1, fun hn => ?_⟩
  obtain ⟨b, o, h1, h2, h3⟩ := hi.2 hn
  obtain ⟨h4, h5⟩ := hW b o h1
  exact ⟨b, o, h1, Nat.lt_of_lt_of_le h4 h.size, fun j hj => (World.cell?_of_block (h.block b h4 h5)).trans (h3 j hj)⟩
theorem OkT.of_owns {w : World} {base : Nat} {v : Value} {L : List Bool} (h : w.ownsRow base 4 1 v L.length (L.map Value.bool)) : ∃ a c, v = .slice a L.length c ∧ OkT w a L.length c L ∧ (∀ b o, a = some ⟨b, o, none⟩ → base ≤ b) := by
  obtain ⟨a, c, rfl, hi⟩ := IsBools.of_owns (n := L.length) rfl h
  refine ⟨a, c, rfl, ⟨hi, ?_, ?_⟩, ?_⟩
  all_goals
    rcases h.2 with ⟨e, e0⟩ | ⟨g, cap, cur, e, hb, _, h1, h2, _⟩
    · injection e with e1 e2 e3
      first | omega | (intro b o hb; rw [e1] at hb; cases hb)
    · injection e with e1 e2 e3
      unfold maxLen at h2
      first | omega | (intro b o hb'; rw [e1] at hb'; cases hb'; exact hb)
end Go.Proofs.Ytoooihoaapfjeaa

namespace Go.Proofs.Ytoooihoaapfjeaa
open Go.RowKit
set_option linter.unusedVariables false
set_option linter.unusedSimpArgs false
theorem okI8 : ElemOk 22 3 1 8 (.int .i64 0) := ⟨Try.underlying22, by kernel_rfl, rfl, by omega⟩
def i64v (x : Int) : Value := .int .i64 x
theorem ints_cells {w : World} {A : Option Addr} {n : Nat} {l : List Int} (h : IsInts w A n l) (hn : 0 < n) : ∃ b of, A = some ⟨b, of, none⟩ ∧ ∀ j u, (l.map i64v)[j]? = some u → w.cell? ⟨b, of + j, none⟩ = some u := by
  obtain ⟨b, o, e, _, hc⟩ := h.2 hn
  refine ⟨b, o, e, fun j u hj => ?_⟩
  have hjl : j < l.length := by
    have := (List.getElem?_eq_some_iff.1 hj).1
    simpa using this
  rw [hc j (by rw [← h.1]; exact hjl)]
  rw [List.getElem?_map, List.getElem?_eq_getElem hjl] at hj
  rw [show l.getD j 0 = l[j] by simp [List.getD, hjl]]
  exact hj
theorem ints_one (l : List Int) : ∀ u ∈ l.map i64v, u.oneCell' = true := by
  intro u hu
  obtain ⟨b, _, rfl⟩ := List.mem_map.1 hu
  rfl
theorem ints_owns {w : World} {base : Nat} {v : Value} {L : List Int} (h : w.ownsRow base 3 1 v L.length (L.map i64v)) : ∃ a c, v = .slice a L.length c ∧ IsInts w a L.length L ∧ (a = none → c = 0) ∧ (∀ b o, a = some ⟨b, o, none⟩ → base ≤ b) := by
  rcases h.2 with ⟨e, e0⟩ | ⟨gb, cap, cur, e, hb, hg, h1, h2, h3, h4⟩
  · exact ⟨none, 0, by rw [e, e0], ⟨rfl, fun hn => by omega⟩, fun _ => rfl, fun b o e => by cases e⟩
  · refine ⟨_, _, e, ⟨rfl, fun _ => ⟨gb, 0, rfl, (Array.getElem?_eq_some_iff.1 hg).1, fun j hj => ?_⟩⟩, (fun e => by cases e), fun b o e => by cases e; exact hb⟩
    have h5 : cur[j]? = some (i64v (L.getD j 0)) := by
      rw [← Array.getElem?_toList, ← List.getElem?_take_of_lt (show j < L.length * 1 by omega), h4, List.getElem?_map, List.getElem?_eq_getElem hj]
      simp [List.getD, hj]
    simp [World.cell?, hg, h5, i64v]
/-- A list of integers, made by the call. -/
def IPost (L : List Int) (w : World) (r : Ending) (w' : World) : Prop := ∃ A C, r = .returned (.slice A L.length C) ∧ w'.ownsRow w.heap.size 3 1 (.slice A L.length C) L.length (L.map i64v) ∧ Below w.heap.size w w'
theorem owns_empty (w : World) (base : Nat) (hb : base ≤ w.heap.size) : (w.alloc (.cells #[] 3)).ownsRow base 3 1 (.slice (some ⟨w.heap.size, 0, none⟩) 0 0) 0 [] :=
  ⟨rfl, .inr ⟨w.heap.size, 0, #[], rfl, hb, heap_alloc_new w _, Nat.le_refl _, by unfold maxLen; omega, rfl, rfl⟩⟩
set_option maxRecDepth 100000 in
set_option maxHeartbeats 8000000 in
theorem clone_nil (c : Nat) (w : World) : Calls Try.prog 28 #[.slice none 0 c] w fun e w' => e = .returned (.slice none 0 0) ∧ Below w.heap.size w w' := by
  go_enter Try.func28, Try.ntmps28
  have hq := fun w : World => Go.Lib.run_eql_slice_nil (P := Try.prog) w 22 3 none 0 c 0 0 Try.underlying22
  go_wp2
  go_ret
  exact ⟨rfl, (by repeat (first | exact Below.refl _ _ | refine Below.drew ?_ | refine below_drewN ?_ _ | refine Below.alloc ?_ (by first | exact Nat.le_refl _ | (simp; done) | (simp; omega) | omega) _ | refine Below.setCell ?_ (by first | exact Nat.le_refl _ | (simp; done) | (simp; omega) | omega) _ | refine bExtW ?_ (by first | exact Nat.le_refl _ | (simp; done) | (simp; omega) | omega) | refine Below.trans ?_ (Below.mono (by assumption) (by first | exact Nat.le_refl _ | (simp; done) | (simp; omega) | omega))))⟩
set_option maxRecDepth 100000 in
set_option maxHeartbeats 8000000 in
theorem clone_some (ad : Addr) (n c : Nat) (l : List Int) (w : World) (hI : IsInts w (some ad) n l) (hn : n ≤ 1000000000) : Calls Try.prog 28 #[.slice (some ad) n c] w (IPost l w) := by
  have hl := hI.1
  subst hl
  have HI := Lib.hid hI
  clear hI
  go_enter Try.func28, Try.ntmps28
  have hq := fun w : World => Go.Lib.run_eql_slice_nil (P := Try.prog) w 22 3 (some ad) l.length c 0 0 Try.underlying22
  go_wp2_with (at_builtin; refine wpAppV okI8 rfl (.tmp 5) (.tmp 6) rfl w.heap.size _ 0 [] (some ad) l.length c (l.map i64v) rfl (owns_empty w _ (Nat.le_refl _)) rfl (fun e => by cases e) (by simp) (ints_cells (HI.out.below (Below.alloc (Below.refl _ _) (Nat.le_refl _) _))) (ints_one l) (by omega) (by omega) (by simp) ?_)
  intro v' w2 hown2 hg2 hat2
  obtain ⟨A, C, rfl⟩ := own_form hown2
  have hb2 : Below w.heap.size w w2 := Below.trans (Below.alloc (Below.refl _ _) (Nat.le_refl _) _) (belowGrown hg2 (by simp) (fun k hk => by simp [Value.ownBlock] at hk; omega))
  have HO := Lib.hid hown2; have HB := Lib.hid hb2
  clear hown2 hg2 hat2 hb2
  go_wp2
  go_ret
  unfold IPost
  refine ⟨A, C, by simp, ?_, HB.out⟩
  have := HO.out
  simpa using this
theorem clone_any (a : Option Addr) (n c : Nat) (l : List Int) (w : World) (hI : IsInts w a n l) (hn : n ≤ 1000000000) : Calls Try.prog 28 #[.slice a n c] w (IPost l w) := by
  cases a with
  | some ad => exact clone_some ad n c l w hI hn
  | none =>
    have h0 : n = 0 := by
      rcases Nat.eq_zero_or_pos n with h | h
      · exact h
      · obtain ⟨_, _, e, _⟩ := hI.2 h; cases e
    subst h0
    obtain rfl : l = [] := List.length_eq_zero_iff.1 hI.1
    refine (clone_nil c w).mono ?_
    rintro r w' ⟨rfl, hb⟩
    exact ⟨none, 0, rfl, World.ownsRow_nil _ _ _ _, hb⟩
/-- The cells of a picture. -/
def picF (W H : Nat) (ca : Option Addr) (cn cc : Nat) (v : Value) : Nat → Value := fun j => if j = 0 then .int .i64 4 else if j = 1 then .int .i64 (W : Int) else if j = 2 then .int .i64 (H : Int) else if j = 3 then .slice ca cn cc else v
def atV (o : Option Int) : Value := match o with
  | none => .tuple #[.int .i64 0, .bool false]
  | some v => .tuple #[.int .i64 v, .bool true]
end Go.Proofs.Ytoooihoaapfjeaa

namespace Go.Proofs.Ytoooihoaapfjeaa
open Go.RowKit
set_option linter.unusedVariables false
set_option linter.unusedSimpArgs false
open Ps
/-- Where loops stand as one number. -/
def keyZ (l : List Int) : Int := l.foldl (fun n x => n * 12 + x) 0
theorem keyZ_snoc (l : List Int) (k : Nat) (h : k < l.length) : keyZ (l.take (k + 1)) = keyZ (l.take k) * 12 + l.getD k 0 := by
  unfold keyZ
  rw [List.take_succ_eq_append_getElem h, List.foldl_append, List.getD_eq_getElem?_getD, List.getElem?_eq_getElem h]
  rfl
set_option maxRecDepth 100000 in
set_option maxHeartbeats 8000000 in
theorem key_ok (a : Option Addr) (n c : Nat) (zs : List Int) (w : World) (hI : IsInts w a n zs) (hn : n ≤ 5) (hb : ∀ x ∈ zs, -100 ≤ x ∧ x ≤ 100) :
    Calls Try.prog 15 #[.slice a n c] w fun e w' => e = .returned (.int .i64 (keyZ zs)) ∧ Below w.heap.size w w' := by
  have HI := Lib.hid hI; have HB := Lib.hid hb; have HL := Lib.hid hI.1
  have HK : Hid (∀ k, k ≤ n → -10000000 ≤ keyZ (zs.take k) ∧ keyZ (zs.take k) ≤ 10000000) := Lib.hid (by
    have hx : ∀ k, k < n → -100 ≤ zs.getD k 0 ∧ zs.getD k 0 ≤ 100 := fun k hk => by
      rw [List.getD_eq_getElem?_getD, List.getElem?_eq_getElem (by rw [hI.1]; exact hk)]
      exact hb _ (List.getElem_mem _)
    have s := fun k (hk : k < n) => keyZ_snoc zs k (by rw [hI.1]; exact hk)
    have e0 : keyZ (zs.take 0) = 0 := rfl
    have s0 : 0 < n → keyZ (zs.take 1) = keyZ (zs.take 0) * 12 + zs.getD 0 0 := s 0
    have s1 : 1 < n → keyZ (zs.take 2) = keyZ (zs.take 1) * 12 + zs.getD 1 0 := s 1
    have s2 : 2 < n → keyZ (zs.take 3) = keyZ (zs.take 2) * 12 + zs.getD 2 0 := s 2
    have s3 : 3 < n → keyZ (zs.take 4) = keyZ (zs.take 3) * 12 + zs.getD 3 0 := s 3
    have s4 : 4 < n → keyZ (zs.take 5) = keyZ (zs.take 4) * 12 + zs.getD 4 0 := s 4
    have b : ∀ k, k ≤ n → keyZ (zs.take k) = 0 ∨ True := fun _ _ => .inr trivial
    clear s b
    intro k hk
    have hc : k = 0 ∨ k = 1 ∨ k = 2 ∨ k = 3 ∨ k = 4 ∨ k = 5 := by omega
    rcases hc with rfl | rfl | rfl | rfl | rfl | rfl
    · omega
    · have := s0 (by omega); have := hx 0 (by omega); omega
    · have := s0 (by omega); have := hx 0 (by omega); have := s1 (by omega); have := hx 1 (by omega); omega
    · have := s0 (by omega); have := hx 0 (by omega); have := s1 (by omega); have := hx 1 (by omega); have := s2 (by omega); have := hx 2 (by omega); omega
    · have := s0 (by omega); have := hx 0 (by omega); have := s1 (by omega); have := hx 1 (by omega); have := s2 (by omega); have := hx 2 (by omega); have := s3 (by omega); have := hx 3 (by omega); omega
    · have := s0 (by omega); have := hx 0 (by omega); have := s1 (by omega); have := hx 1 (by omega); have := s2 (by omega); have := hx 2 (by omega); have := s3 (by omega); have := hx 3 (by omega); have := s4 (by omega); have := hx 4 (by omega); omega)
  clear hI hb
  go_enter Try.func15, Try.ntmps15
  go_wp2_with fail
  go_loopw [3, 8] (fun kv iv wr => ∃ k : Nat, k ≤ n ∧ iv = .int .i64 k ∧ kv = .int .i64 (keyZ (zs.take k)) ∧ Hid (Below w.heap.size w wr)) (fun _ iv _ => n - (intOf iv).toNat)
  case atStart => exact ⟨0, by omega, rfl, rfl, Lib.hid (Below.refl _ _)⟩
  case round =>
    obtain ⟨k, hk, rfl, rfl, HBW⟩ := hrel
    by_cases hkn : k < n
    · obtain ⟨b, o, rfl, hbl, hc⟩ := (HI.out.below HBW.out).2 (by omega)
      have c0 := hc k hkn
      have lb : LtW b wr := hbl
      have hs := keyZ_snoc zs k (by rw [HL.out]; exact hkn)
      have h1 := HK.out k hk
      have h2 := HK.out (k + 1) hkn
      have HS := Lib.hid hs
      generalize keyZ (zs.take k) = K at *
      generalize zs.getD k 0 = x at *
      have v1 : IntKind.i64.wrap (K * 12) = K * 12 := IntWalk.i64_in _ (by omega)
      have v2 : IntKind.i64.wrap (K * 12 + x) = K * 12 + x := IntWalk.i64_in _ (by omega)
      have dk : decide ((k : Int) < (n : Int)) = true := by simp; omega
      have dk' : decide (k < n) = true := by simpa using hkn
      clear hc hbl hs
      go_wp2
      go_roundw
      case rel => exact ⟨k + 1, by omega, by go_num, by rw [HS.out], HBW⟩
      case measure => simp [intOf]; omega
    · obtain rfl : k = n := by omega
      have dk : decide ((k : Int) < (k : Int)) = false := by simp
      have e : zs.take k = zs := List.take_of_length_le (by rw [HL.out]; exact Nat.le_refl _)
      rw [e]
      go_wp2
      go_ret
      exact ⟨rfl, HBW.out⟩
end Go.Proofs.Ytoooihoaapfjeaa
