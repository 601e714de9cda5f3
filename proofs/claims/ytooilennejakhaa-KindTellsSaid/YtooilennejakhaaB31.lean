/- Lemmas and contracts of functions (what each call returns, and that it changes nothing that was there) that the proof of a law of this seat uses; each lemma states its own conditions. -/
import Derived.Test.YtooilennejakhaaB28
import Derived.Maps.OwnOps
import Derived.Maps.OwnSet
import Derived.Maps.Views
import Derived.Maps.RangeWalk
namespace Go.Proofs.Ytooilennejakhaa
open Go.RowKit
set_option linter.unusedVariables false
set_option linter.unusedSimpArgs false
open Go.Proofs.Ytooilennejakhaa.Z Go.Maps
theorem lawKI : Keyed Try.prog 3 := int_keyed Try.underlying3
theorem i64wfK {k : Int} (h : (-9223372036854775808 ≤ k ∧ k ≤ 9223372036854775807)) : (Lit.int .i64 k).wf = true := by
  simpa [Lit.wf, IntKind.min, IntKind.max, IntKind.signed, IntKind.bits] using h
theorem keyOfK {k : Int} (h : (-9223372036854775808 ≤ k ∧ k ≤ 9223372036854775807)) : keyOf Try.prog 3 (.int .i64 k) = some (.int .i64 k) := keyOf_int_mk Try.underlying3 (i64wfK h)
/-- What turns there are, in block mb. -/
def FT (mb n : Nat) (T : List Nat) (w : World) : Prop :=
  ∃ D : DataW Unit, w.ownsMap Try.prog 3 (plainElem Try.prog 4) mb n D ∧ Tidy D ∧ Maps.size D = T.length ∧ ∀ k : Int, Maps.has D (.int .i64 k) = T.any fun t => ((t : Nat) : Int) == k
theorem FT.made (w : World) : FT w.heap.size 0 [] (w.alloc (.map #[] 0)) := ⟨.map [], World.ownsMap_made _ _ _ _, tidy_empty, rfl, fun k => rfl⟩
theorem FT.kept {mb n : Nat} {T : List Nat} {w w' : World} (h : FT mb n T w) (hb : w'.heap[mb]? = w.heap[mb]?) : FT mb n T w' := by
  obtain ⟨D, ⟨es, c, h1, h2⟩, h3⟩ := h
  exact ⟨D, ⟨es, c, hb.trans h1, h2⟩, h3⟩
theorem FT.lt {mb n : Nat} {T : List Nat} {w : World} (h : FT mb n T w) : mb < w.heap.size := by
  obtain ⟨D, h1, _⟩ := h
  exact h1.lt
theorem FT.store {mb n : Nat} {T : List Nat} {w : World} (h : FT mb n T w) (f : Mv) (hf : f.f = false) (ht : f.t ≤ 100) (hn : n ≤ 1000000) :
    ∃ w', (Instr.mapUpdate 81 (.map (some mb)) (.int .i64 ((f.t : Nat))) (.bool true)).run Try.prog w = .ok () w' ∧ FT mb (n + 1) (turnS T f) w' ∧ w.grownBy w' (some mb) := by
  obtain ⟨D, hown, hT, hs, hh⟩ := h
  obtain ⟨w', hrun, hown', hg⟩ := hown.store lawKI Try.underlying81 (by unfold maxLen; omega) (keyOfK (k := ((f.t : Nat) : Int)) (by omega)) (plainElem_bool Try.underlying4 true)
  have hkey := lawKI.key (keyOfK (k := ((f.t : Nat) : Int)) (by omega))
  refine ⟨w', hrun, ⟨_, hown', hT.put hkey _, ?_, fun k => ?_⟩, hg.grown⟩
  · rw [size_put hT, hh, hs]
    unfold turnS
    by_cases hm : f.t ∈ T
    · rw [if_pos (List.any_eq_true.2 ⟨f.t, hm, by simp⟩), if_pos (.inr hm)]
    · rw [if_neg (by
        intro h2
        obtain ⟨x, hx, e⟩ := List.any_eq_true.1 h2
        have e : ((x : Nat) : Int) = ((f.t : Nat) : Int) := by simpa using e
        have : x = f.t := by omega
        exact hm (this ▸ hx)), if_neg (by rintro (h | h); · rw [hf] at h; cases h
                                          · exact hm h), List.length_append]
      rfl
  · by_cases hk : k = ((f.t : Nat) : Int)
    · subst hk
      rw [has_put_same hT.isMap hkey]
      unfold turnS
      split
      · rename_i h
        rcases h with h | h
        · rw [hf] at h; cases h
        · exact (List.any_eq_true.2 ⟨f.t, h, by simp⟩).symm
      · rw [List.any_append]; simp
    · rw [has_put_other (by intro e; injection e with _ e; exact hk e), hh k]
      unfold turnS
      split
      · rfl
      · rw [List.any_append]
        simp
        intro e; exact absurd e.symm hk
/-- How a way is read. -/
def codeW (p : Bool × Bool) : Int := (if p.1 then 1 else 0) + (if p.2 then 2 else 0)
theorem codeW_inj {p q : Bool × Bool} (h : codeW p = codeW q) : p = q := by
  obtain ⟨a, b⟩ := p
  obtain ⟨c, d⟩ := q
  revert h
  cases a <;> cases b <;> cases c <;> cases d <;> simp [codeW]
def wayR (v : Value) : Option (DataW Unit × List MemPlace) :=
  match v with
  | .agg cs => match cs.toList with
    | [.bool a, .bool b] => some (.lit (.int .i64 (codeW (a, b))), [])
    | _ => none
  | _ => none
theorem wayR_mk (p : Bool × Bool) : wayR (.agg #[.bool p.1, .bool p.2]) = some (.lit (.int .i64 (codeW p)), []) := rfl
theorem wayR_inv {v : Value} {y : DataW Unit × List MemPlace} (h : wayR v = some y) : ∃ p : Bool × Bool, v = .agg #[.bool p.1, .bool p.2] ∧ y = (.lit (.int .i64 (codeW p)), []) := by
  cases v with
  | agg cs =>
    have h2 : (match cs.toList with
      | [.bool a, .bool b] => some (.lit (.int .i64 (codeW (a, b))), [])
      | _ => none) = some y := h
    clear h
    rcases hc : cs.toList with _ | ⟨x, _ | ⟨x2, _ | ⟨x3, l⟩⟩⟩
    · rw [hc] at h2; simp at h2
    · rw [hc] at h2; simp at h2
    · rw [hc] at h2
      cases x <;> cases x2 <;> simp at h2
      rename_i a b
      exact ⟨(a, b), by rw [show cs = #[.bool a, .bool b] from Array.toList_inj.1 hc], h2.symm⟩
    · rw [hc] at h2; simp at h2
  | _ => exact absurd h (by simp [wayR])
theorem zeroW (w : World) : (zeroValue 56).run Try.prog w = .ok (.agg #[.bool false, .bool false]) w := by kernel_rfl
/-- What ways there are, in block mb. -/
def FW (mb : Nat) (E : List (Nat × Bool × Bool)) (w : World) : Prop :=
  ∃ D : DataW Unit, w.ownsMap Try.prog 3 wayR mb E.length D ∧ Tidy D ∧ (∀ k : Int, Maps.has D (.int .i64 k) = E.any fun e => ((e.1 : Nat) : Int) == k) ∧ ∀ e ∈ E, ∀ z, D.atKey (.int .i64 ((e.1 : Nat) : Int)) z = .lit (.int .i64 (codeW e.2))
theorem FW.made (w : World) : FW w.heap.size [] (w.alloc (.map #[] 0)) := ⟨.map [], World.ownsMap_made _ _ _ _, tidy_empty, fun k => rfl, fun e he => by simp at he⟩
theorem FW.kept {mb : Nat} {E : List (Nat × Bool × Bool)} {w w' : World} (h : FW mb E w) (hb : w'.heap[mb]? = w.heap[mb]?) : FW mb E w' := by
  obtain ⟨D, ⟨es, c, h1, h2⟩, h3⟩ := h
  exact ⟨D, ⟨es, c, hb.trans h1, h2⟩, h3⟩
theorem FW.lt {mb : Nat} {E : List (Nat × Bool × Bool)} {w : World} (h : FW mb E w) : mb < w.heap.size := by
  obtain ⟨D, h1, _⟩ := h
  exact h1.lt
theorem FW.look {mb : Nat} {E : List (Nat × Bool × Bool)} {w : World} (h : FW mb E w) {k : Nat} (hk : k ≤ 100) : ∃ u v : Bool, (Instr.lookup 47 (.map (some mb)) (.int .i64 ((k : Nat))) true).run Try.prog w = .ok (.tuple #[.agg #[.bool u, .bool v], .bool (E.any fun e => e.1 == k)]) w := by
  obtain ⟨D, hown, _, hh, _⟩ := h
  obtain ⟨v, ps, hrun, hv⟩ := hown.look_ok lawKI Try.underlying47 (zeroW w) (wayR_mk (false, false)) (keyOfK (k := ((k : Nat) : Int)) (by omega))
  obtain ⟨p, rfl, _⟩ := wayR_inv hv
  refine ⟨p.1, p.2, ?_⟩
  rw [hrun, hh]
  have : (E.any fun e => ((e.1 : Nat) : Int) == ((k : Nat) : Int)) = E.any fun e => e.1 == k := by
    refine congrArg (List.any E) (funext fun e => ?_)
    rw [Bool.eq_iff_iff, beq_iff_eq, beq_iff_eq]
    omega
  rw [this]
theorem FW.store {mb : Nat} {E : List (Nat × Bool × Bool)} {w : World} (h : FW mb E w) (t : Nat) (p : Bool × Bool) (ht : t ≤ 100) (hn : E.length ≤ 1000000) (hnew : (E.any fun e => e.1 == t) = false) :
    ∃ w', (Instr.mapUpdate 47 (.map (some mb)) (.int .i64 ((t : Nat))) (.agg #[.bool p.1, .bool p.2])).run Try.prog w = .ok () w' ∧ FW mb (E ++ [(t, p)]) w' ∧ w.grownBy w' (some mb) := by
  obtain ⟨D, hown, hT, hh, ha⟩ := h
  obtain ⟨w', hrun, hown', hg⟩ := hown.store lawKI Try.underlying47 (by unfold maxLen; omega) (keyOfK (k := ((t : Nat) : Int)) (by omega)) (wayR_mk p)
  have hkey := lawKI.key (keyOfK (k := ((t : Nat) : Int)) (by omega))
  have hne : ∀ e ∈ E, e.1 ≠ t := fun e he h2 => by
    have := List.any_eq_false.1 hnew e he
    simp [h2] at this
  refine ⟨w', hrun, ⟨_, by rw [List.length_append]; exact hown', hT.put hkey _, fun k => ?_, fun e he z => ?_⟩, hg.grown⟩
  · rw [List.any_append]
    by_cases hk : k = ((t : Nat) : Int)
    · subst hk
      rw [has_put_same hT.isMap hkey]
      simp
    · rw [has_put_other (by intro e; injection e with _ e; exact hk e), hh k]
      simp
      intro e; exact absurd e.symm hk
  · rcases List.mem_append.1 he with he | he
    · rw [atKey_put_other (by intro e2; injection e2 with _ e2; exact hne e he (by omega))]
      exact ha e he z
    · simp at he
      subst he
      exact atKey_put_same hT.isMap hkey _ _
theorem FW.len {mb : Nat} {E : List (Nat × Bool × Bool)} {w : World} (h : FW mb E w) (ty : TypeId) : ∃ n : Nat, (Builtin.len_ #[47] ty #[.map (some mb)]).run Try.prog w = .ok (.int .i64 (n)) w ∧ (n = 0 ↔ E = []) := by
  obtain ⟨D, hown, hT, hh, _⟩ := h
  refine ⟨_, hown.len Try.underlying47 ty, fun h0 => ?_, fun h0 => ?_⟩
  · obtain ⟨es, rfl, _⟩ := hT
    rw [size_eq] at h0
    obtain rfl : es = [] := List.length_eq_zero_iff.1 h0
    cases E with
    | nil => rfl
    | cons e E =>
      have := hh ((e.1 : Nat) : Int)
      simp [Maps.has] at this
  · subst h0
    have := hown.size_le
    simpa using this
end Go.Proofs.Ytooilennejakhaa

namespace Go.Proofs.Ytooilennejakhaa
open Go.RowKit
set_option linter.unusedVariables false
set_option linter.unusedSimpArgs false
open Go.Proofs.Ytooilennejakhaa.Z Go.Maps
theorem row6 (w : World) (u0 u1 u2 u3 u4 u5 : Value) (T : TypeId) : (w.alloc (.cells #[u0, u1, u2, u3, u4, u5] T)).rowIs w.heap.size T 6 (fun j => if j = 0 then u0 else if j = 1 then u1 else if j = 2 then u2 else if j = 3 then u3 else if j = 4 then u4 else u5) :=
  World.rowIs_alloc w #[u0, u1, u2, u3, u4, u5] T _ (by
    intro i hi
    have hi2 : i = 0 ∨ i = 1 ∨ i = 2 ∨ i = 3 ∨ i = 4 ∨ i = 5 := by simp at hi; omega
    rcases hi2 with rfl | rfl | rfl | rfl | rfl | rfl <;> rfl)
def chR (G W H : Int) (v : Value) : Nat → Value := fun j => if j = 0 then .int .i64 G else if j = 1 then .int .i64 W else if j = 2 then .int .i64 H else v
def sgF (t : Int) (m : Value) (a c b : Int) : Nat → Value := fun j => if j = 0 then .int .i64 t else if j = 1 then m else if j = 2 then .int .i64 a else if j = 3 then .int .i64 0 else if j = 4 then .int .i64 c else .int .i64 b
/-- Where a map is written, rows of cells stay. -/
theorem row_map {w w' : World} {mb b t n : Nat} {f : Nat → Value} {es : Array MapEntry} {c : Nat} (hr : w.rowIs b t n f) (hm : w.heap[mb]? = some (.map es c)) (hg : w.grownBy w' (some mb)) : w'.rowIs b t n f := by
  refine hr.of_block (hg.block b hr.lt fun e => ?_)
  obtain ⟨cs, h1, _⟩ := hr
  injection e with e
  subst e
  rw [hm] at h1
  cases h1
theorem own_map {w w' : World} {mb base e size n : Nat} {v : Value} {xs : List Value} {es : Array MapEntry} {c : Nat} (h : w.ownsRow base e size v n xs) (hm : w.heap[mb]? = some (.map es c)) (hg : w.grownBy w' (some mb)) : w'.ownsRow base e size v n xs := by
  refine ⟨h.1, ?_⟩
  rcases h.2 with h2 | ⟨g, cap, cur, e1, e2, e3, e4⟩
  · exact .inl h2
  · refine .inr ⟨g, cap, cur, e1, e2, ?_, e4⟩
    rw [hg.block g (Array.getElem?_eq_some_iff.1 e3).1 (fun e5 => by
      injection e5 with e5
      subst e5
      rw [hm] at e3
      cases e3)]
    exact e3
/-- What lies in memory while it is looked. -/
structure LK (q sb mb tb : Nat) (G W H : Int) (A0 : Option Addr) (n0 c0 : Nat) (sa uc ub : Nat) (B : Option Addr) (D : Nat) (L : List Mv) (k : Nat) (T : List Nat) (E : List (Nat × Bool × Bool)) (w0 w : World) : Prop where
  ch : w.rowIs q 24 4 (chR G W H (.slice A0 n0 c0))
  re : w.rowIs (q + 1) 51 6 (sgF 0 (.map none) 0 0 0)
  st : w.rowIs sb 51 6 (sgF 0 (.map (some mb)) sa uc ub)
  fw : FW mb E w
  ft : FT tb k T w
  mt : mb ≠ tb
  mv : OwnM w w0.heap.size B L.length D L
  bel : Below w0.heap.size w0 w
  om : w0.heap.size ≤ mb
  ot : w0.heap.size ≤ tb
section
variable {q sb mb tb : Nat} {G W H : Int} {A0 : Option Addr} {n0 c0 : Nat} {sa uc ub : Nat} {B : Option Addr} {D : Nat} {L : List Mv} {k : Nat} {T : List Nat} {E : List (Nat × Bool × Bool)} {w0 w w' : World}
theorem LK.grow (h : LK q sb mb tb G W H A0 n0 c0 sa uc ub B D L k T E w0 w) (hb : Below w.heap.size w w') : LK q sb mb tb G W H A0 n0 c0 sa uc ub B D L k T E w0 w' :=
  ⟨rowBelow h.ch hb h.ch.lt, rowBelow h.re hb h.re.lt, rowBelow h.st hb h.st.lt, h.fw.kept (hb.block mb h.fw.lt), h.ft.kept (hb.block tb h.ft.lt), h.mt, h.mv.below hb, h.bel.trans (hb.mono h.bel.size), h.om, h.ot⟩
theorem LK.putT {k' : Nat} {T' : List Nat} (h : LK q sb mb tb G W H A0 n0 c0 sa uc ub B D L k T E w0 w) (hg : w.grownBy w' (some tb)) (hf : FT tb k' T' w') : LK q sb mb tb G W H A0 n0 c0 sa uc ub B D L k' T' E w0 w' := by
  obtain ⟨Dm, ⟨es, cl, h1, _⟩, _⟩ := h.ft
  exact ⟨row_map h.ch h1 hg, row_map h.re h1 hg, row_map h.st h1 hg, h.fw.kept (hg.block mb h.fw.lt (by intro e; injection e with e; exact h.mt e)), hf, h.mt, ⟨h.mv.1, own_map h.mv.2 h1 hg⟩, h.bel.grown hg h.bel.size (fun j e => by injection e with e; have := h.ot; omega), h.om, h.ot⟩
theorem LK.putW {E' : List (Nat × Bool × Bool)} (h : LK q sb mb tb G W H A0 n0 c0 sa uc ub B D L k T E w0 w) (hg : w.grownBy w' (some mb)) (hf : FW mb E' w') : LK q sb mb tb G W H A0 n0 c0 sa uc ub B D L k T E' w0 w' := by
  obtain ⟨Dm, ⟨es, cl, h1, _⟩, _⟩ := h.fw
  exact ⟨row_map h.ch h1 hg, row_map h.re h1 hg, row_map h.st h1 hg, hf, h.ft.kept (hg.block tb h.ft.lt (by intro e; injection e with e; exact h.mt e.symm)), h.mt, ⟨h.mv.1, own_map h.mv.2 h1 hg⟩, h.bel.grown hg h.bel.size (fun j e => by injection e with e; have := h.om; omega), h.om, h.ot⟩
end
theorem set6 {w : World} {b t : Nat} {f : Nat → Value} (h : w.rowIs b t 6 f) (u0 u1 u2 u3 u4 u5 : Value) : ((((((((w).setCell ⟨b, 0, none⟩ (u0)).setCell ⟨b, 1, none⟩ (u1)).setCell ⟨b, 2, none⟩ (u2)).setCell ⟨b, 3, none⟩ (u3)).setCell ⟨b, 4, none⟩ (u4)).setCell ⟨b, 5, none⟩ (u5))).rowIs b t 6 (fun j => if j = 0 then u0 else if j = 1 then u1 else if j = 2 then u2 else if j = 3 then u3 else if j = 4 then u4 else u5) := by
  refine ((((((h.set 0 u0).set 1 u1).set 2 u2).set 3 u3).set 4 u4).set 5 u5).congr fun i hi => ?_
  have hi2 : i = 0 ∨ i = 1 ∨ i = 2 ∨ i = 3 ∨ i = 4 ∨ i = 5 := by omega
  rcases hi2 with rfl | rfl | rfl | rfl | rfl | rfl <;> simp
theorem set6_bel {base : Nat} {w0 w : World} {b : Nat} (h : Below base w0 w) (hb : base ≤ b) (u0 u1 u2 u3 u4 u5 : Value) : Below base w0 ((((((((w).setCell ⟨b, 0, none⟩ (u0)).setCell ⟨b, 1, none⟩ (u1)).setCell ⟨b, 2, none⟩ (u2)).setCell ⟨b, 3, none⟩ (u3)).setCell ⟨b, 4, none⟩ (u4)).setCell ⟨b, 5, none⟩ (u5))) :=
  (((((h.setCell hb _).setCell hb _).setCell hb _).setCell hb _).setCell hb _).setCell hb _
def sightV (t : Int) (mb : Nat) (sa uc ub : Nat) : Value := .agg #[.int .i64 t, .map (some mb), .int .i64 (sa : Nat), .int .i64 0, .int .i64 (uc : Nat), .int .i64 (ub : Nat)]
set_option maxRecDepth 100000 in
set_option maxHeartbeats 8000000 in
theorem look_bad (G W H : Int) (a : Option Addr) (n c : Nat) (cs : List Int) (w : World) (hI : IsInts w a n cs) (e : Int) (hT : TorBad e (.agg #[.int .i64 (G), .int .i64 (W), .int .i64 (H), .slice a n c]) a n cs) :
    Calls Try.prog 19 #[.agg #[.int .i64 (G), .int .i64 (W), .int .i64 (H), .slice a n c]] w fun r w' => r = .returned (.tuple #[.agg #[.int .i64 0, .map none, .int .i64 0, .int .i64 0, .int .i64 0, .int .i64 0], .int .i64 (e)]) ∧ Below w.heap.size w w' := by
  have hb : (e != 0) = true := by simpa using hT.1
  have HM := Lib.hid (fun w hI => Moves_bad G W H a n c cs w hI e hT)
  have HI := Lib.hid hI
  clear hI hT
  go_enter Try.func19, Try.ntmps19
  go_wp2_with fail
  refine (HM.out _ (HI.out.below (by repeat (first | exact Below.refl _ _ | refine Below.drew ?_ | refine below_drewN ?_ _ | refine Below.alloc ?_ (by first | exact Nat.le_refl _ | (simp; done) | (simp; omega) | omega) _ | refine Below.setCell ?_ (by first | exact Nat.le_refl _ | (simp; done) | (simp; omega) | omega) _ | refine bExtW ?_ (by first | exact Nat.le_refl _ | (simp; done) | (simp; omega) | omega) | refine Below.trans ?_ (Below.mono (by assumption) (by first | exact Nat.le_refl _ | (simp; done) | (simp; omega) | omega)))))).mono ?_
  rintro r w2 ⟨⟨A, C, rfl, _⟩, hb2⟩
  have hr0 := row6 (w.alloc (.cells #[.int .i64 G, .int .i64 W, .int .i64 H, .slice a n c] 24)) (.int .i64 0) (.map none) (.int .i64 0) (.int .i64 0) (.int .i64 0) (.int .i64 0) 51
  have hr := rowBelow hr0 hb2 hr0.lt
  rw [World.size_alloc] at hr
  have HB := Lib.hid (show Below w.heap.size w w2 from Below.trans (by repeat (first | exact Below.refl _ _ | refine Below.drew ?_ | refine below_drewN ?_ _ | refine Below.alloc ?_ (by first | exact Nat.le_refl _ | (simp; done) | (simp; omega) | omega) _ | refine Below.setCell ?_ (by first | exact Nat.le_refl _ | (simp; done) | (simp; omega) | omega) _ | refine bExtW ?_ (by first | exact Nat.le_refl _ | (simp; done) | (simp; omega) | omega) | refine Below.trans ?_ (Below.mono (by assumption) (by first | exact Nat.le_refl _ | (simp; done) | (simp; omega) | omega)))) (hb2.mono (by simp; omega)))
  have r0 : w2.cell? ⟨w.heap.size + 1, 0, none⟩ = some (.int .i64 0) := hr.cell (i := 0) (by omega)
  have r1 : w2.cell? ⟨w.heap.size + 1, 1, none⟩ = some (.map none) := hr.cell (i := 1) (by omega)
  have r2 : w2.cell? ⟨w.heap.size + 1, 2, none⟩ = some (.int .i64 0) := hr.cell (i := 2) (by omega)
  have r3 : w2.cell? ⟨w.heap.size + 1, 3, none⟩ = some (.int .i64 0) := hr.cell (i := 3) (by omega)
  have r4 : w2.cell? ⟨w.heap.size + 1, 4, none⟩ = some (.int .i64 0) := hr.cell (i := 4) (by omega)
  have r5 : w2.cell? ⟨w.heap.size + 1, 5, none⟩ = some (.int .i64 0) := hr.cell (i := 5) (by omega)
  have f0 := hr.frozen 0
  have f1 := hr.frozen 1
  have f2 := hr.frozen 2
  have f3 := hr.frozen 3
  have f4 := hr.frozen 4
  have f5 := hr.frozen 5
  have lr : LtW (w.heap.size + 1) w2 := hr.lt
  clear hr0 hb2
  go_wp2
  have hrs := set6 hr (.int .i64 0) (.map none) (.int .i64 0) (.int .i64 0) (.int .i64 0) (.int .i64 0)
  have hbs := set6_bel HB.out (show w.heap.size ≤ w.heap.size + 1 by omega) (.int .i64 0) (.map none) (.int .i64 0) (.int .i64 0) (.int .i64 0) (.int .i64 0)
  generalize (((((((w2).setCell ⟨w.heap.size + 1, 0, none⟩ (.int .i64 0)).setCell ⟨w.heap.size + 1, 1, none⟩ (.map none)).setCell ⟨w.heap.size + 1, 2, none⟩ (.int .i64 0)).setCell ⟨w.heap.size + 1, 3, none⟩ (.int .i64 0)).setCell ⟨w.heap.size + 1, 4, none⟩ (.int .i64 0)).setCell ⟨w.heap.size + 1, 5, none⟩ (.int .i64 0)) = w3 at *
  have q0 : w3.cell? ⟨w.heap.size + 1, 0, none⟩ = some (.int .i64 0) := hrs.cell (i := 0) (by omega)
  have q1 : w3.cell? ⟨w.heap.size + 1, 1, none⟩ = some (.map none) := hrs.cell (i := 1) (by omega)
  have q2 : w3.cell? ⟨w.heap.size + 1, 2, none⟩ = some (.int .i64 0) := hrs.cell (i := 2) (by omega)
  have q3 : w3.cell? ⟨w.heap.size + 1, 3, none⟩ = some (.int .i64 0) := hrs.cell (i := 3) (by omega)
  have q4 : w3.cell? ⟨w.heap.size + 1, 4, none⟩ = some (.int .i64 0) := hrs.cell (i := 4) (by omega)
  have q5 : w3.cell? ⟨w.heap.size + 1, 5, none⟩ = some (.int .i64 0) := hrs.cell (i := 5) (by omega)
  have lq : LtW (w.heap.size + 1) w3 := hrs.lt
  refine bodyPost_ret (v := .tuple #[.agg #[.int .i64 0, .map none, .int .i64 0, .int .i64 0, .int .i64 0, .int .i64 0], .int .i64 (e)]) (by simp [results, Try.results19, go_sem, q0, q1, q2, q3, q4, q5]) rfl ⟨rfl, hbs⟩
end Go.Proofs.Ytooilennejakhaa
