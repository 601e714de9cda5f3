/- Lemmas and contracts of functions (what each call returns, and that it changes nothing that was there) that the proof of a law of this seat uses; each lemma states its own conditions. -/
import Derived.Test.YtooilennejakhaaB05
import Derived.Deep.RegionHeld3
import Derived.Test.YtooilennejakhaaB07
import Derived.IntWalk
import Derived.Test.YtooilennejakhaaB08
namespace Go.Proofs.Ytooilennejakhaa
open Go.RowKit
set_option linter.unusedVariables false
set_option linter.unusedSimpArgs false
section
variable {P : Program} {ops : Array Oper} {md : Region.Mode} {Q : Exit → Act → World → Prop}
/-- One operation oj, apart from oi: it goes likewise whether oi's value is there already, and nothing that is said of oi changes. -/
theorem wpOp_putY {Y : Act → Prop} {j : Nat} {oi oj : Oper} {v : Value} (hYs : ∀ a a' : Act, execOp a'.eval oi = execOp a.eval oi → Region.wanted oi (yielded ops a'.tmps) = Region.wanted oi (yielded ops a.tmps) → Y a → Y a')
    (hj : ops[j]? = some oj) (hap : oi.apart ops oj = true) (hsi : ∀ cs b, oi.op ≠ .select cs b) (hsj : ∀ cs b, oj.op ≠ .select cs b)
    (hQ : ∀ c a w, Q (.panic c) (a.put oi.dst v) w → Q (.panic c) a w) {K : Act → World → Prop} {a : Act} {w : World}
    (hy : Y a) (h : wpOp P ops Q j K (a.put oi.dst v) w) : wpOp P ops Q j (fun a' w' => Y a' ∧ K (a'.put oi.dst v) w') a w := by
  obtain ⟨p1, p2, p3⟩ := Oper.apart_spec hap
  have kp : ∀ (b : Act), Y b → ∀ u, Y (b.put oj.dst u) := fun b hb u => hYs b _ (execOp_put oi hsi b oj.dst u p3) (wanted_put oi b oj.dst u p3) hb
  unfold wpOp at *
  simp only [hj] at *
  rw [wanted_put oj a oi.dst v p1] at h
  by_cases hw : Region.wanted oj (yielded ops a.tmps) = true
  · rw [if_pos hw] at h ⊢
    have he := execOp_put oj hsj a oi.dst v p1
    rcases h with h | ⟨h1, h2⟩
    · left
      unfold Oper.wp at *
      rw [he] at h
      cases hr : (execOp a.eval oj).run P w with
      | ok n w' =>
        rw [hr] at h
        cases n with
        | value u => exact ⟨kp a hy u, by rw [← Act.put_comm a v u p2]; exact h⟩
        | skip => exact ⟨kp a hy _, by rw [← Act.put_comm a v undef p2]; exact h⟩
        | defer d =>
          refine ⟨kp { a with defers := d :: a.defers } (hYs a _ rfl rfl hy) _, ?_⟩
          rw [← Act.put_comm _ v undef p2, ← Act.put_defers]
          exact h
        | enter f args =>
          refine Calls.mono h fun e w'' hh => ?_
          cases e with
          | returned u => exact ⟨kp a hy u, by rw [← Act.put_comm a v u p2]; exact hh⟩
          | panicked c => exact hQ _ _ _ hh
          | outgrown => exact hh
        | row r args => exact Rows.mono h fun u w'' hh => ⟨kp a hy u, by rw [← Act.put_comm a v u p2]; exact hh⟩
        | _ => exact h
      | halt x w' =>
        rw [hr] at h
        cases x with
        | panic u => exact hQ _ _ _ h
        | _ => exact h
    · right
      exact ⟨by unfold Oper.asks at *; rw [he] at h1; exact h1, h2⟩
  · rw [if_neg hw] at h ⊢
    exact ⟨kp a hy _, by rw [← Act.put_comm a v undef p2]; exact h⟩
theorem ExtOf.trans' {W : World} {E : Array Obj} {d : Nat} {w : World} (h : ExtOf (extW W E d) w) : ExtOf W w := by
  obtain ⟨F, e, rfl⟩ := h
  exact ⟨E ++ F, e, extW_extW W E F d e⟩
/-- Whatever order is picked from here on, in every world that has grown since W. -/
def wpE (P : Program) (md : Region.Mode) (ops : Array Oper) (Q : Exit → Act → World → Prop) : Nat → Array Bool → Act → World → Prop
  | 0, listed, a, W => Region.ready md ops listed = [] ∧ ∀ E d, Q .normal a (extW W E d)
  | f + 1, listed, a, W => (Region.ready md ops listed = [] → ∀ E d, Q .normal a (extW W E d)) ∧
      ∀ i ∈ Region.ready md ops listed, ∀ E d, wpOp P ops Q i (fun a' w' => ExtOf (extW W E d) w' ∧ wpE P md ops Q f (listed.setIfInBounds i true) a' w') a (extW W E d)
theorem wpE_grow : ∀ (f : Nat) (listed : Array Bool) (a : Act) (W : World) (E : Array Obj) (d : Nat), wpE P md ops Q f listed a W → wpE P md ops Q f listed a (extW W E d)
  | 0, listed, a, W, E, d, h => ⟨h.1, fun F e => by rw [extW_extW]; exact h.2 _ _⟩
  | f + 1, listed, a, W, E, d, h => ⟨fun hr F e => by rw [extW_extW]; exact h.1 hr _ _, fun i hi F e => by
      rw [extW_extW]
      exact h.2 i hi (E ++ F) e⟩
theorem wpE_ext {f : Nat} {listed : Array Bool} {a : Act} {W w : World} (h : wpE P md ops Q f listed a W) (hw : ExtOf W w) : wpE P md ops Q f listed a w := by
  obtain ⟨E, d, rfl⟩ := hw
  exact wpE_grow f listed a W E d h
theorem wpAny_of_E : ∀ (f : Nat) (listed : Array Bool) (a : Act) (W : World), wpE P md ops Q f listed a W → wpAny P md ops Q f listed a W
  | 0, listed, a, W, h => ⟨h.1, by have := h.2 #[] W.drawn; rwa [extW_self] at this⟩
  | f + 1, listed, a, W, h => ⟨fun hr => by have := h.1 hr #[] W.drawn; rwa [extW_self] at this, fun i hi => by
      have := h.2 i hi #[] W.drawn
      rw [extW_self] at this
      exact wpOp_mono (fun a' w' h' => wpAny_of_E f _ a' w' h'.2) this⟩
/-- Operation o yields v in every world that has grown since W, and adds blocks at most. -/
def YieldsE (P : Program) (ops : Array Oper) (o : Oper) (v : Value) (a : Act) (W : World) : Prop := ∀ E d, YieldsIn P ops (fun w => ∃ F e, w = extW (extW W E d) F e) o v a
theorem YieldsE.grow {o : Oper} {v : Value} {a : Act} {W w : World} (h : YieldsE P ops o v a W) (hw : ExtOf W w) : YieldsE P ops o v a w := by
  obtain ⟨E, d, rfl⟩ := hw
  intro F e
  rw [extW_extW]
  exact h _ _
theorem YieldsE.wpOp {i : Nat} {o : Oper} {v : Value} {a : Act} {W : World} {K : Act → World → Prop} (hi : ops[i]? = some o) (h : YieldsE P ops o v a W) (E : Array Obj) (d : Nat)
    (hK : ∀ w', ExtOf (extW W E d) w' → K (a.put o.dst v) w') : wpOp P ops Q i K a (extW W E d) :=
  wpOp_of_qOp (K := fun a' => a' = a.put o.dst v) (C := fun w => ∃ F e, w = extW (extW W E d) F e) (extOf_refl _) (fun a' w' hw' h' => by
    subst h'
    exact hK w' hw') ((h E d).qOp hi rfl)
theorem wpE_first {i : Nat} {oi : Oper} {v : Value} (hi : ops[i]? = some oi) (hsel : ∀ (j : Nat) (o : Oper) cs b, ops[j]? = some o → o.op ≠ .select cs b)
    (hQ : ∀ c a w, Q (.panic c) (a.put oi.dst v) w → Q (.panic c) a w) (f : Nat) :
    ∀ (listed : Array Bool) (a : Act) (W : World),
      (∀ j oj, ops[j]? = some oj → j ≠ i → listed.getD j true = false → (∀ e ∈ oj.after, Region.binds md e = true → e.on ≠ i) → oi.apart ops oj = true) →
      i ∈ Region.ready md ops listed → YieldsE P ops oi v a W →
      wpE P md ops Q f (listed.setIfInBounds i true) (a.put oi.dst v) W → wpE P md ops Q (f + 1) listed a W := by
  induction f with
  | zero =>
    intro listed a W _ hr hy H
    refine ⟨fun h => (by rw [h] at hr; cases hr), fun j hj E d => ?_⟩
    by_cases hji : j = i
    · subst hji; exact hy.wpOp hi E d fun w' hw' => ⟨hw', wpE_ext H hw'.trans'⟩
    · have := ready_mono hj hji
      rw [H.1] at this
      cases this
  | succ f ih =>
    intro listed a W hfree hr hy H
    refine ⟨fun h => (by rw [h] at hr; cases hr), fun j hj E d => ?_⟩
    by_cases hji : j = i
    · subst hji; exact hy.wpOp hi E d fun w' hw' => ⟨hw', wpE_ext H hw'.trans'⟩
    · have h1 := H.2 j (ready_mono hj hji) E d
      obtain ⟨hjun, oj, hoj, hall⟩ := mem_ready.1 hj
      have hnot : ∀ e ∈ oj.after, Region.binds md e = true → e.on ≠ i := by
        intro e he hb heq
        have h1 := hall e he hb
        rw [heq, getD_both (mem_ready.1 hr).1] at h1
        cases h1
      have h2 := wpOp_putY (Y := fun a' => YieldsE P ops oi v a' W) (fun a a' e1 e2 hY E d => (hY E d).of_same e1 e2) hoj (hfree j oj hoj hji hjun hnot) (fun cs b => hsel i oi cs b hi) (fun cs b => hsel j oj cs b hoj) hQ hy h1
      have hfree' : ∀ k ok, ops[k]? = some ok → k ≠ i → (listed.setIfInBounds j true).getD k true = false → (∀ e ∈ ok.after, Region.binds md e = true → e.on ≠ i) → oi.apart ops ok = true := by
        intro k ok hk hki hun hno
        refine hfree k ok hk hki ?_ hno
        by_cases hjk : j = k
        · subst hjk; exact hjun
        · rwa [getD_set_ne true hjk] at hun
      refine wpOp_mono (fun a' w' h3 => ⟨h3.2.1, ih (listed.setIfInBounds j true) a' w' hfree' (ready_mono hr (Ne.symm hji)) (h3.1.grow h3.2.1.trans') ?_⟩) h2
      rw [Array.setIfInBounds_comm _ _ hji]
      exact h3.2.2
/-- Number i is taken first. -/
theorem wpE_take {i : Nat} {o : Oper} {f : Nat} {listed : Array Bool} {a : Act} {W : World} (hi : ops[i]? = some o)
    (hf : (Region.noSelect ops && Region.free md ops listed i && (Region.ready md ops listed).contains i) = true)
    (hQ : ∀ v c a w, Q (.panic c) (a.put o.dst v) w → Q (.panic c) a w)
    (h : ∀ K : Act → Prop, (∀ a, wpE P md ops Q f (listed.setIfInBounds i true) a W → K a) →
      if Region.wanted o (yielded ops a.tmps) then ∃ v, (∀ E d, Oper.quietAt P o a (fun w' => ∃ F e, w' = extW (extW W E d) F e) (extW W E d) v) ∧ K (a.put o.dst v) else K (a.put o.dst undef)) : wpE P md ops Q (f + 1) listed a W := by
  simp only [Bool.and_eq_true] at hf
  obtain ⟨⟨h1, h2⟩, h3⟩ := hf
  have h4 := h _ fun _ h => h
  by_cases hw : Region.wanted o (yielded ops a.tmps) = true
  · rw [if_pos hw] at h4
    obtain ⟨v, hv, h5⟩ := h4
    refine wpE_first hi (Region.noSelect_spec h1) (hQ v) f listed a W (Region.free_spec hi h2) (by simpa using h3) (fun E d => .inl ⟨hw, fun w hwC => ?_⟩) h5
    obtain ⟨F, e, rfl⟩ := hwC
    rw [extW_extW]
    refine quietAt_mono (fun w' hw' => ?_) (hv (E ++ F) e)
    obtain ⟨F', e', rfl⟩ := hw'
    exact ⟨F ++ F', e', by rw [extW_extW, extW_extW, Array.append_assoc]⟩
  · rw [if_neg hw] at h4
    exact wpE_first hi (Region.noSelect_spec h1) (hQ undef) f listed a W (Region.free_spec hi h2) (by simpa using h3) (fun E d => .inr ⟨by simpa using hw, rfl⟩) h4
/-- Number i alone can come up. Behind it: the worlds that have grown since then. -/
theorem wpE_step {i : Nat} {o : Oper} {f : Nat} {listed : Array Bool} {a : Act} {W : World} (hi : ops[i]? = some o) (hr : Region.ready md ops listed = [i])
    (h : ∀ E d, ∀ K : Act → World → Prop, (∀ a' w', ExtOf (extW W E d) w' → wpE P md ops Q f (listed.setIfInBounds i true) a' w' → K a' w') →
      if Region.wanted o (yielded ops a.tmps) then Oper.wp P o a (extW W E d) K Q else K (a.put o.dst undef) (extW W E d)) : wpE P md ops Q (f + 1) listed a W := by
  refine ⟨fun h0 => (by rw [hr] at h0; cases h0), fun j hj E d => ?_⟩
  rw [hr] at hj
  obtain rfl : j = i := by simpa using hj
  have h1 := h E d (fun a' w' => ExtOf (extW W E d) w' ∧ wpE P md ops Q f (listed.setIfInBounds j true) a' w') (fun a w' he h' => ⟨he, h'⟩)
  unfold wpOp
  simp only [hi]
  by_cases hw : Region.wanted o (yielded ops a.tmps) = true
  · rw [if_pos hw] at h1 ⊢
    exact .inl h1
  · rw [if_neg hw] at h1 ⊢
    exact h1
/-- All have come up. -/
theorem wpE_done {f : Nat} {listed : Array Bool} {a : Act} {W : World} (hr : Region.ready md ops listed = []) (h : ∀ E d, Q .normal a (extW W E d)) : wpE P md ops Q f listed a W := by
  cases f with
  | zero => exact ⟨hr, h⟩
  | succ f => exact ⟨fun _ => h, by rw [hr]; simp⟩
/-- The beginning. -/
theorem wp_region_E {id : Nat} {a : Act} {W : World} (hm : P.follows .mixedOrders = true) (h : wpE P .any ops Q ops.size (Array.replicate ops.size false) a W) : (Code.region id ops true).wp P Q a W :=
  wp_region_any hm (wpAny_of_E _ _ _ _ (by have := wpE_grow _ _ _ _ #[] (W.drawn + 1) h; rwa [extW_self] at this))
end
end Go.Proofs.Ytooilennejakhaa

namespace Go.Proofs.Ytooilennejakhaa
open Go.RowKit
set_option linter.unusedVariables false
set_option linter.unusedSimpArgs false
/-- All blocks below base but mb lie as they lay. -/
structure BelowX (base mb : Nat) (W w : World) : Prop where
  os : w.os = W.os
  tape : w.tape = W.tape
  output : w.output = W.output
  size : base ≤ w.heap.size
  block : ∀ k, k < base → k ≠ mb → w.heap[k]? = W.heap[k]?
theorem BelowX.refl {base mb : Nat} {W : World} (h : base ≤ W.heap.size) : BelowX base mb W W := ⟨rfl, rfl, rfl, h, fun _ _ _ => rfl⟩
theorem BelowX.below {base mb q : Nat} {W w : World} (h : BelowX base mb W w) (hW : W.heap.size = base) (hq : q ≤ mb) (hm : mb < base) : Below q W w :=
  ⟨h.os, h.tape, h.output, by rw [hW]; exact h.size, fun k hk => h.block k (by omega) (by omega)⟩
theorem BelowX.rowIs {base mb b t n : Nat} {f : Nat → Value} {W w : World} (h : BelowX base mb W w) (hr : W.rowIs b t n f) (hb : b < base) (hm : b ≠ mb) : w.rowIs b t n f := hr.of_block (h.block b hb hm)
theorem BelowX.bools {base mb : Nat} {W w : World} {a : Option Addr} {n : Nat} {bs : List Bool} (h : BelowX base mb W w) (hi : IsBools W a n bs) (hW : ∀ b o, a = some ⟨b, o, none⟩ → b < base ∧ b ≠ mb) : IsBools w a n bs := by
  refine ⟨hi.1, fun hn => ?_⟩
  obtain ⟨b, o, h1, h2, h3⟩ := hi.2 hn
  obtain ⟨h4, h5⟩ := hW b o h1
  exact ⟨b, o, h1, Nat.lt_of_lt_of_le h4 h.size, fun j hj => (World.cell?_of_block (h.block b h4 h5)).trans (h3 j hj)⟩
theorem OkT.of_owns {w : World} {base : Nat} {v : Value} {L : List Bool} (h : w.ownsRow base 4 1 v L.length (L.map Value.bool)) : ∃ a c, v = .slice a L.length c ∧ OkT w a L.length c L ∧ (∀ b o, a = some ⟨b, o, none⟩ → base ≤ b) := by
  obtain ⟨a, c, rfl, hi⟩ := IsBools.of_owns (n := L.length) rfl h
  refine ⟨a, c, rfl, ⟨hi, ?_, ?_⟩, ?_⟩
  all_goals
    rcases h.2 with ⟨e, e0⟩ | ⟨g, cap, cur, e, hb, _, h1, h2, _⟩
    · injection e with e1 e2 e3
      first | omega | (intro b o hb; rw [e1] at hb; cases hb)
    · injection e with e1 e2 e3
      unfold maxLen at h2
      first | omega | (intro b o hb'; rw [e1] at hb'; cases hb'; exact hb)
end Go.Proofs.Ytooilennejakhaa

namespace Go.Proofs.Ytooilennejakhaa
open Go.RowKit
set_option linter.unusedVariables false
set_option linter.unusedSimpArgs false
theorem okI8 : ElemOk 22 3 1 8 (.int .i64 0) := ⟨Try.underlying22, by kernel_rfl, rfl, by omega⟩
def i64v (x : Int) : Value := .int .i64 x
theorem ints_cells {w : World} {A : Option Addr} {n : Nat} {l : List Int} (h : IsInts w A n l) (hn : 0 < n) : ∃ b of, A = some ⟨b, of, none⟩ ∧ ∀ j u, (l.map i64v)[j]? = some u → w.cell? ⟨b, of + j, none⟩ = some u := by
  obtain ⟨b, o, e, _, hc⟩ := h.2 hn
  refine ⟨b, o, e, fun j u hj => ?_⟩
  have hjl : j < l.length := by
    have := (List.getElem?_eq_some_iff.1 hj).1
    simpa using this
  rw [hc j (by rw [← h.1]; exact hjl)]
  rw [List.getElem?_map, List.getElem?_eq_getElem hjl] at hj
  rw [show l.getD j 0 = l[j] by simp [List.getD, hjl]]
  exact hj
theorem ints_one (l : List Int) : ∀ u ∈ l.map i64v, u.oneCell' = true := by
  intro u hu
  obtain ⟨b, _, rfl⟩ := List.mem_map.1 hu
  rfl
theorem ints_owns {w : World} {base : Nat} {v : Value} {L : List Int} (h : w.ownsRow base 3 1 v L.length (L.map i64v)) : ∃ a c, v = .slice a L.length c ∧ IsInts w a L.length L ∧ (a = none → c = 0) ∧ (∀ b o, a = some ⟨b, o, none⟩ → base ≤ b) := by
  rcases h.2 with ⟨e, e0⟩ | ⟨gb, cap, cur, e, hb, hg, h1, h2, h3, h4⟩
  · exact ⟨none, 0, by rw [e, e0], ⟨rfl, fun hn => by omega⟩, fun _ => rfl, fun b o e => by cases e⟩
  · refine ⟨_, _, e, ⟨rfl, fun _ => ⟨gb, 0, rfl, (Array.getElem?_eq_some_iff.1 hg).1, fun j hj => ?_⟩⟩, (fun e => by cases e), fun b o e => by cases e; exact hb⟩
    have h5 : cur[j]? = some (i64v (L.getD j 0)) := by
      rw [← Array.getElem?_toList, ← List.getElem?_take_of_lt (show j < L.length * 1 by omega), h4, List.getElem?_map, List.getElem?_eq_getElem hj]
      simp [List.getD, hj]
    simp [World.cell?, hg, h5, i64v]
/-- A list of integers, made by the call. -/
def IPost (L : List Int) (w : World) (r : Ending) (w' : World) : Prop := ∃ A C, r = .returned (.slice A L.length C) ∧ w'.ownsRow w.heap.size 3 1 (.slice A L.length C) L.length (L.map i64v) ∧ Below w.heap.size w w'
theorem owns_empty (w : World) (base : Nat) (hb : base ≤ w.heap.size) : (w.alloc (.cells #[] 3)).ownsRow base 3 1 (.slice (some ⟨w.heap.size, 0, none⟩) 0 0) 0 [] :=
  ⟨rfl, .inr ⟨w.heap.size, 0, #[], rfl, hb, heap_alloc_new w _, Nat.le_refl _, by unfold maxLen; omega, rfl, rfl⟩⟩
/-- The cells of a picture. -/
def picF (W H : Nat) (ca : Option Addr) (cn cc : Nat) (v : Value) : Nat → Value := fun j => if j = 0 then .int .i64 4 else if j = 1 then .int .i64 (W : Int) else if j = 2 then .int .i64 (H : Int) else if j = 3 then .slice ca cn cc else v
def atV (o : Option Int) : Value := match o with
  | none => .tuple #[.int .i64 0, .bool false]
  | some v => .tuple #[.int .i64 v, .bool true]
end Go.Proofs.Ytooilennejakhaa

namespace Go.Proofs.Ytooilennejakhaa
open Go.RowKit
set_option linter.unusedVariables false
set_option linter.unusedSimpArgs false
namespace Ef
section
variable {W N : Nat} {cs p0 p : List Int} {T : List Nat} {a b : Nat}
/-- Colours in range. -/
def CR (cs : List Int) : Prop := ∀ x ∈ cs, 0 ≤ x ∧ x < 62
theorem crs_range (hc : CR cs) (hl : cs.length = W * (N - W)) (hWN : W ≤ N) (ha : a < N) (hb : b < N) {v : Int} (h : crs W cs a b = some v) : 0 ≤ v ∧ v < 62 := by
  have key : ∀ x y, x < W → W ≤ y → y < N → 0 ≤ cs.getD ((y - W) * W + x) 0 ∧ cs.getD ((y - W) * W + x) 0 < 62 := fun x y h1 h2 h3 => by
    have hlt : (y - W) * W + x < cs.length := by
      rw [hl, Nat.mul_comm W]
      have : (y - W + 1) * W ≤ (N - W) * W := Nat.mul_le_mul_right W (by omega)
      rw [Nat.add_mul, Nat.one_mul] at this
      omega
    rw [List.getD_eq_getElem?_getD, List.getElem?_eq_getElem hlt]
    exact hc _ (List.getElem_mem hlt)
  unfold crs at h
  by_cases h1 : a < W ∧ W ≤ b
  · rw [if_pos h1] at h; injection h with h; rw [← h]; exact key a b h1.1 h1.2 hb
  · rw [if_neg h1] at h
    by_cases h2 : b < W ∧ W ≤ a
    · rw [if_pos h2] at h; injection h with h; rw [← h]; exact key b a h2.1 h2.2 ha
    · rw [if_neg h2] at h; cases h
structure Inv (W : Nat) (cs : List Int) (N : Nat) (p0 p : List Int) (T : List Nat) : Prop where
  len : p.length = N
  ext : Extd p0 p
  good : Good p
  forced : ∀ q, Good q → Extd p0 q → Closed W cs q → Extd p q
  closed : ∀ x, x < N → 0 ≤ g p x → x ∉ T → ClosedAt W cs p x
  todo : ∀ x ∈ T, x < N ∧ 0 ≤ g p x
structure InvA (W : Nat) (cs : List Int) (N : Nat) (p0 p : List Int) (T : List Nat) (a b : Nat) : Prop where
  len : p.length = N
  ext : Extd p0 p
  good : Good p
  forced : ∀ q, Good q → Extd p0 q → Closed W cs q → Extd p q
  closed : ∀ x, x < N → 0 ≤ g p x → x ∉ T → x ≠ a → ClosedAt W cs p x
  todo : ∀ x ∈ T, x < N ∧ 0 ≤ g p x
  lt : a < N
  tied : 0 ≤ g p a
  upto : ∀ y v, y < b → crs W cs a y = some v → g p a = v ∨ g p y = v
theorem Inv.start {s : Nat} {k : Int} (hc : CR cs) (hl : cs.length = W * (N - W)) (hWN : W ≤ N) (hp : p.length = N) (hg : Good p) (hcl : Closed W cs p) (hs : s < N) (h0 : g p s < 0) (k0 : 0 ≤ k) (k1 : k < 62) : Inv W cs N (p.set s k) (p.set s k) [s] := by
  have hgs := g_set p s
  refine ⟨by rw [set_len, hp], Extd.refl _, fun i hi => ?_, fun q _ h _ => h, fun x hx h h1 => ?_, fun x hx => ?_⟩
  · rw [set_len] at hi
    rw [hgs i k (by omega)]
    have := hg i hi
    split <;> omega
  · have hxs : x ≠ s := fun e => h1 (by simp [e])
    intro y v hy hv
    rw [set_len, hp] at hy
    rw [hgs x k (by omega), if_neg hxs] at h
    rw [hgs x k (by omega), if_neg hxs, hgs y k (by omega)]
    have h2 := crs_range hc hl hWN hx hy hv
    rcases hcl x (by omega) h y v (by omega) hv with h3 | h3
    · exact .inl h3
    · right
      rw [if_neg (fun e => by rw [e] at h3; omega)]
      exact h3
  · rw [List.mem_singleton] at hx
    subst hx
    rw [hgs x k (by omega), if_pos rfl]
    exact ⟨hs, k0⟩
theorem Inv.pop (h : Inv W cs N p0 p (T ++ [a])) : InvA W cs N p0 p T a 0 :=
  ⟨h.len, h.ext, h.good, h.forced, fun x h1 h2 h3 h4 => h.closed x h1 h2 (by simp [h3, h4]), fun x hx => h.todo x (by simp [hx]), (h.todo a (by simp)).1, (h.todo a (by simp)).2, fun y v hy => absurd hy (by omega)⟩
theorem InvA.skip (h : InvA W cs N p0 p T a b) (hs : ∀ v, crs W cs a b = some v → g p a = v ∨ g p b = v) : InvA W cs N p0 p T a (b + 1) :=
  ⟨h.len, h.ext, h.good, h.forced, h.closed, h.todo, h.lt, h.tied, fun y v hy hv => by
    by_cases e : y = b
    · subst e; exact hs v hv
    · exact h.upto y v (by omega) hv⟩
theorem InvA.done (h : InvA W cs N p0 p T a N) : Inv W cs N p0 p T :=
  ⟨h.len, h.ext, h.good, h.forced, fun x h1 h2 h3 => by
    by_cases e : x = a
    · subst e; exact fun y v hy hv => h.upto y v (by rw [← h.len]; exact hy) hv
    · exact h.closed x h1 h2 h3 e, h.todo⟩
theorem Inv.finish (h : Inv W cs N p0 p []) : Least W cs p0 p :=
  ⟨h.ext, fun x hx h0 => h.closed x (by rw [← h.len]; exact hx) h0 (by simp), h.good, h.forced⟩
theorem InvA.conflict {v : Int} (h : InvA W cs N p0 p T a b) (hb : b < N) (hv : crs W cs a b = some v) (h1 : g p a ≠ v) (h2 : g p b ≠ v) (h3 : 0 ≤ g p b) : Never W cs p0 := by
  intro q hq he hc
  have hx := h.forced q hq he hc
  have ea := hx.2 a (by rw [h.len]; exact h.lt) h.tied
  have eb := hx.2 b (by rw [h.len]; exact hb) h3
  rcases hc a (by rw [hx.1, h.len]; exact h.lt) (by rw [ea]; exact h.tied) b v (by rw [hx.1, h.len]; exact hb) hv with h4 | h4
  · exact h1 (by rw [← ea]; exact h4)
  · exact h2 (by rw [← eb]; exact h4)
theorem InvA.push {v : Int} (hc : CR cs) (hl : cs.length = W * (N - W)) (hWN : W ≤ N) (h : InvA W cs N p0 p T a b) (hb : b < N) (hv : crs W cs a b = some v) (h1 : g p a ≠ v) (h3 : g p b < 0) : InvA W cs N p0 (p.set b v) (T ++ [b]) a (b + 1) := by
  have hgs : ∀ j, g (p.set b v) j = if j = b then v else g p j := fun j => g_set p b j v (by rw [h.len]; exact hb)
  have hvr := crs_range hc hl hWN h.lt hb hv
  have hab : a ≠ b := fun e => by subst e; have := h.tied; omega
  have keep : ∀ x, x < N → 0 ≤ g p x → ∀ y u, y < N → crs W cs x y = some u → (g p x = u ∨ g p y = u) → (g (p.set b v) x = u ∨ g (p.set b v) y = u) := fun x hx h0 y u hy hu hd => by
    have hxb : x ≠ b := fun e => by subst e; omega
    rw [hgs, hgs, if_neg hxb]
    rcases hd with hd | hd
    · exact .inl hd
    · right
      have := crs_range hc hl hWN hx hy hu
      rw [if_neg (fun e => by rw [e] at hd; omega)]
      exact hd
  refine ⟨by rw [set_len, h.len], ?_, fun i hi => ?_, fun q h4 h5 h6 => ?_, fun x hx h4 h5 h6 => ?_, fun x hx => ?_, h.lt, by rw [hgs, if_neg hab]; exact h.tied, fun y u hy hu => ?_⟩
  · refine ⟨by rw [set_len, h.ext.1], fun i hi h0 => ?_⟩
    have h4 := h.ext.2 i hi h0
    rw [hgs, if_neg (fun e => by subst e; omega)]
    exact h4
  · rw [set_len] at hi
    rw [hgs]
    have := h.good i hi
    split <;> omega
  · have hx := h.forced q h4 h5 h6
    refine ⟨by rw [set_len]; exact hx.1, fun i hi h0 => ?_⟩
    rw [set_len] at hi
    rw [hgs] at h0 ⊢
    by_cases e : i = b
    · subst e
      rw [if_pos rfl]
      have ea := hx.2 a (by rw [h.len]; exact h.lt) h.tied
      rcases h6 a (by rw [hx.1, h.len]; exact h.lt) (by rw [ea]; exact h.tied) i v (by rw [hx.1]; exact hi) hv with h7 | h7
      · exact absurd (ea.symm.trans h7) h1
      · exact h7
    · rw [if_neg e] at h0 ⊢
      exact hx.2 i hi h0
  · rw [List.mem_append, List.mem_singleton] at h5
    have hxb : x ≠ b := fun e => h5 (.inr e)
    rw [hgs, if_neg hxb] at h4
    intro y u hy hu
    rw [set_len, h.len] at hy
    exact keep x hx h4 y u hy hu (h.closed x hx h4 (fun e => h5 (.inl e)) h6 y u (by rw [h.len]; exact hy) hu)
  · rw [List.mem_append, List.mem_singleton] at hx
    rcases hx with hx | hx
    · obtain ⟨h4, h5⟩ := h.todo x hx
      exact ⟨h4, by rw [hgs]; split <;> omega⟩
    · subst hx; exact ⟨hb, by rw [hgs, if_pos rfl]; exact hvr.1⟩
  · by_cases e : y = b
    · subst e
      right
      rw [hgs, if_pos rfl]
      rw [hv] at hu
      injection hu
    · exact keep a h.lt h.tied y u (by omega) hu (h.upto y u (by omega) hu)
/-- How many strands have no colour yet. -/
def cnt (p : List Int) (N : Nat) : Nat := (List.range N).countP fun i => decide (g p i < 0)
theorem countP_flip {f h : Nat → Bool} {b : Nat} : ∀ N, b < N → f b = true → h b = false → (∀ j, j ≠ b → h j = f j) → (List.range N).countP f = (List.range N).countP h + 1 := by
  intro N
  induction N with
  | zero => intro h; omega
  | succ N ih =>
    intro hb h1 h2 h3
    rw [List.range_succ, List.countP_append, List.countP_append]
    by_cases e : b = N
    · subst e
      have : (List.range b).countP f = (List.range b).countP h := List.countP_congr fun x hx => by
        rw [List.mem_range] at hx
        rw [h3 x (by omega)]
      rw [this]
      simp [h1, h2]
    · rw [ih (by omega) h1 h2 h3]
      simp [h3 N (by omega)]
      omega
theorem cnt_set {v : Int} (hb : b < N) (hp : p.length = N) (h0 : g p b < 0) (hv : 0 ≤ v) : cnt p N = cnt (p.set b v) N + 1 := by
  refine countP_flip N hb (by simpa using h0) ?_ fun j hj => ?_
  · rw [g_set p b b v (by omega), if_pos rfl]; simp; omega
  · rw [g_set p b j v (by omega), if_neg hj]
theorem cnt_le (p : List Int) (N : Nat) : cnt p N ≤ N := by
  have := List.countP_le_length (p := fun i => decide (g p i < 0)) (l := List.range N)
  rw [List.length_range] at this
  exact this
end
end Ef
end Go.Proofs.Ytooilennejakhaa

namespace Go.Proofs.Ytooilennejakhaa
open Go.RowKit
set_option linter.unusedVariables false
set_option linter.unusedSimpArgs false
theorem own_parts {w : World} {base e n c g : Nat} {xs : List Value} (h : w.ownsRow base e 1 (.slice (some ⟨g, 0, none⟩) n c) n xs) : xs.length = n ∧ base ≤ g ∧ n ≤ c ∧ c ≤ maxLen ∧ ∃ cur : Array Value, w.heap[g]? = some (.cells cur e (0, 0)) ∧ cur.size = c ∧ cur.toList.take n = xs := by
  have h0 := h.1
  rcases h.2 with ⟨e1, _⟩ | ⟨g', cap, cur, e1, hb, hg, h1, h2, h3, h4⟩
  · cases e1
  · injection e1 with e1 _ e3
    injection e1 with e1
    injection e1 with e1
    subst e1 e3
    rw [Nat.mul_one] at h0 h3 h4
    exact ⟨h0, hb, h1, h2, cur, hg, h3, h4⟩
theorem own_mk {w : World} {base e n c g : Nat} {xs : List Value} {cur : Array Value} (h0 : xs.length = n) (hb : base ≤ g) (h1 : n ≤ c) (h2 : c ≤ maxLen) (hg : w.heap[g]? = some (.cells cur e (0, 0))) (h3 : cur.size = c) (h4 : cur.toList.take n = xs) : w.ownsRow base e 1 (.slice (some ⟨g, 0, none⟩) n c) n xs :=
  ⟨by omega, .inr ⟨g, c, cur, rfl, hb, hg, h1, h2, by omega, by rw [Nat.mul_one]; exact h4⟩⟩
theorem own_keep {w w' : World} {base e n c g : Nat} {xs : List Value} (h : w.ownsRow base e 1 (.slice (some ⟨g, 0, none⟩) n c) n xs) (he : w'.heap[g]? = w.heap[g]?) : w'.ownsRow base e 1 (.slice (some ⟨g, 0, none⟩) n c) n xs := by
  obtain ⟨a, b, d, f, cur, g1, g2, g3⟩ := own_parts h
  exact own_mk a b d f (he.trans g1) g2 g3
theorem own_base {w : World} {base base' e n c g : Nat} {xs : List Value} (h : w.ownsRow base e 1 (.slice (some ⟨g, 0, none⟩) n c) n xs) (hb : base' ≤ g) : w.ownsRow base' e 1 (.slice (some ⟨g, 0, none⟩) n c) n xs := by
  obtain ⟨a, b, d, f, cur, g1, g2, g3⟩ := own_parts h
  exact own_mk a hb d f g1 g2 g3
theorem own_lt {w : World} {base e n c g : Nat} {xs : List Value} (h : w.ownsRow base e 1 (.slice (some ⟨g, 0, none⟩) n c) n xs) : g < w.heap.size := by
  obtain ⟨a, b, d, f, cur, g1, g2, g3⟩ := own_parts h
  exact (Array.getElem?_eq_some_iff.1 g1).1
theorem own_cell {w : World} {base e n c g i : Nat} {xs : List Value} (h : w.ownsRow base e 1 (.slice (some ⟨g, 0, none⟩) n c) n xs) (hi : i < n) : w.cell? ⟨g, i, none⟩ = xs[i]? ∧ w.frozen? ⟨g, i, none⟩ = false := by
  obtain ⟨a, b, d, f, cur, g1, g2, g3⟩ := own_parts h
  refine ⟨?_, by simp [World.frozen?, g1]⟩
  have h5 : cur[i]? = xs[i]? := by
    rw [← Array.getElem?_toList, ← List.getElem?_take_of_lt hi, g3]
  simp [World.cell?, g1, h5]
theorem own_set {w : World} {base e n c g i : Nat} {xs : List Value} {u : Value} (h : w.ownsRow base e 1 (.slice (some ⟨g, 0, none⟩) n c) n xs) (hi : i < n) : (w.setCell ⟨g, i, none⟩ u).ownsRow base e 1 (.slice (some ⟨g, 0, none⟩) n c) n (xs.set i u) := by
  obtain ⟨a, b, d, f, cur, g1, g2, g3⟩ := own_parts h
  refine own_mk (cur := cur.setIfInBounds i u) (by simpa using a) b d f ?_ (by simpa using g2) ?_
  · simp [World.setCell, Array.getElem?_modify, g1]
  · rw [Array.toList_setIfInBounds, ← g3, List.take_set]
/-- What lies in another block. -/
theorem own_other {w : World} {base e n c g : Nat} {a : Addr} {xs : List Value} {u : Value} (h : w.ownsRow base e 1 (.slice (some ⟨g, 0, none⟩) n c) n xs) (ha : g ≠ a.block) : (w.setCell a u).ownsRow base e 1 (.slice (some ⟨g, 0, none⟩) n c) n xs :=
  own_keep h (Below.heap_setCell _ _ _ g (fun e => ha e))
theorem own_pop {w : World} {base e n c g : Nat} {xs : List Value} {x : Value} (h : w.ownsRow base e 1 (.slice (some ⟨g, 0, none⟩) (n + 1) c) (n + 1) (xs ++ [x])) : w.ownsRow base e 1 (.slice (some ⟨g, 0, none⟩) n c) n xs ∧ w.cell? ⟨g, n, none⟩ = some x := by
  have hc := own_cell h (i := n) (by omega)
  obtain ⟨a, b, d, f, cur, g1, g2, g3⟩ := own_parts h
  have hl : xs.length = n := by simpa using a
  refine ⟨own_mk hl b (by omega) f g1 g2 ?_, ?_⟩
  · have := congrArg (List.take n) g3
    have e2 : (xs ++ [x]).take n = xs := by rw [List.take_append_of_le_length (by omega), List.take_of_length_le (by omega)]
    rw [List.take_take, Nat.min_eq_left (by omega), e2] at this
    exact this
  · rw [hc.1, List.getElem?_append_right (by omega), hl, Nat.sub_self]; rfl
theorem own_some {w : World} {base e n : Nat} {v : Value} {xs : List Value} (h : w.ownsRow base e 1 v n xs) (hn : 0 < n) : ∃ g c, v = .slice (some ⟨g, 0, none⟩) n c := by
  rcases h.2 with ⟨_, e0⟩ | ⟨g', cap, cur, e1, _⟩
  · omega
  · exact ⟨_, _, e1⟩
/-- 'append(s, x)' of one element, which lies in block B; where the new list lies. -/
theorem wpAppK {W : World} {ops : Array Oper} {rest : List Oper} {o : Oper} {a : Act} {Q : Exit → Act → World → Prop} {t e bytes : Nat} {z : Value} (hE : ElemOk t e 1 bytes z)
    (hgd : o.guard = none) (s x : Operand) (ho : o.op = .call { callee := .builtin .append, args := #[s, x], argTypes := #[t, t] })
    (base : Nat) (v : Value) (n : Nat) (xs : List Value) (u : Value) (B : Nat) (hs : a.eval s = v) (hown : W.ownsRow base e 1 v n xs)
    (hx : a.eval x = .slice (some ⟨B, 0, none⟩) 1 1) (hcs : W.cell? ⟨B, 0, none⟩ = some u) (h1 : u.oneCell' = true)
    (hb : bytes ≤ 4096) (hn : n ≤ 100000000) (hbase : base ≤ W.heap.size)
    (h : ∀ v' w', w'.ownsRow base e 1 v' (n + 1) (xs ++ [u]) → W.grownBy w' v.ownBlock → (v'.ownBlock = v.ownBlock ∨ v'.ownBlock = some W.heap.size) → wpList Try.prog ops Q rest (a.put o.dst v') w') : wpList Try.prog ops Q (o :: rest) a W :=
  wpAppV hE hgd s x ho base v n xs (some ⟨B, 0, none⟩) 1 1 [u] hs hown hx (fun e => by cases e) rfl (fun _ => ⟨B, 0, rfl, fun j y hj => by
    have hj0 : j = 0 := by
      have := (List.getElem?_eq_some_iff.1 hj).1
      simpa using this
    subst hj0
    simp at hj
    subst hj
    exact hcs⟩) (fun y hy => by simp at hy; subst hy; exact h1) hb (by omega) hbase h
theorem owns_new {w : World} {base e : Nat} {u : Value} (hb : base ≤ w.heap.size) : (w.alloc (.cells #[u] e)).ownsRow base e 1 (.slice (some ⟨w.heap.size, 0, none⟩) 1 1) 1 [u] :=
  own_mk rfl hb (Nat.le_refl _) (by unfold maxLen; omega) (heap_alloc_new w _) rfl rfl
end Go.Proofs.Ytooilennejakhaa
