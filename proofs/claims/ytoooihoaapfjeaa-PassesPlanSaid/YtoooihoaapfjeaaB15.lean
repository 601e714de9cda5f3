/- Lemmas and contracts of functions (what each call returns, and that it changes nothing that was there) that the proof of a law of this seat uses; each lemma states its own conditions. -/
import Derived.Test.YtoooihoaapfjeaaB13
import Derived.Test.YtoooihoaapfjeaaB04
import Derived.Test.YtoooihoaapfjeaaB06
namespace Go.Proofs.Ytoooihoaapfjeaa
open Go.RowKit
set_option linter.unusedVariables false
set_option linter.unusedSimpArgs false
open Ps Go.Maps
def Bi (o : Obj) : Bool := match o with
  | .cells _ t _ => Nat.beq t 3
  | _ => false
def Bp (o : Obj) : Bool := match o with
  | .cells _ t _ => Nat.beq t 43
  | _ => false
def Bo (o : Obj) : Bool := match o with
  | .cells _ t _ => Nat.beq t 24
  | _ => false
theorem own_ty {B : Obj → Bool} {w w' : World} {base e size n : Nat} {v : Value} {xs : List Value} (h : w.ownsRow base e size v n xs) (hk : TyO B w w') (hB : ∀ c fz, B (.cells c e fz) = false) : w'.ownsRow base e size v n xs := by
  refine ⟨h.1, ?_⟩
  rcases h.2 with h2 | ⟨g, cap, cur, e1, e2, e3, e4⟩
  · exact .inl h2
  · exact .inr ⟨g, cap, cur, e1, e2, (hk.block g _ e3 (hB _ _)).trans e3, e4⟩
/-- A way to stand: the caller's own list, or one that the call has made (behind base). -/
def EB (base : Nat) (w0 w : World) (v : Value) (s : List Int) : Prop := (∃ A c, v = .slice A s.length c ∧ IsInts w0 A s.length s) ∨ w.ownsRow base 3 1 v s.length (s.map (Value.int .i64))
section
variable {base : Nat} {w0 w w' : World} {v : Value} {s : List Int}
theorem EB.ints (h : EB base w0 w v s) (hb : Below w0.heap.size w0 w) : ∃ A c, v = .slice A s.length c ∧ IsInts w A s.length s := by
  rcases h with ⟨A, c, e, hi⟩ | h
  · exact ⟨A, c, e, hi.below hb⟩
  · exact (IntRow.of_own h).ints
theorem EB.keep {B : Obj → Bool} (h : EB base w0 w v s) (hk : TyO B w w') (hB : ∀ c fz, B (.cells c 3 fz) = false) : EB base w0 w' v s := by
  rcases h with h | h
  · exact .inl h
  · exact .inr (own_ty h hk hB)
theorem EB.setLow (h : EB base w0 w v s) {b i : Nat} (hb : b < base) (u : Value) : EB base w0 (w.setCell ⟨b, i, none⟩ u) v s := by
  rcases h with h | h
  · exact .inl h
  · refine .inr ⟨h.1, ?_⟩
    rcases h.2 with h2 | ⟨g, cap, cur, e1, e2, e3, e4⟩
    · exact .inl h2
    · exact .inr ⟨g, cap, cur, e1, e2, (Below.heap_setCell _ _ _ g (by intro e; have e : g = b := e; omega)).trans e3, e4⟩
end
/-- All that lies in memory while the plan is made: the puzzle, the map's cell, what is left, the passes so far, the map. -/
structure PJ (pb fb lb ob mb : Nat) (ta : Option Addr) (tn tc : Nat) (sl : Int) (E : List (List Int × Nat)) (k : Nat) (L : List (Int × Nat)) (v : Value) (w0 w : World) : Prop where
  pz : w.rowIs pb 35 2 (pzF ta tn tc sl)
  fc : w.rowIs fb 36 1 (fun _ => .map (some mb))
  lc : w.rowIs lb 3 1 (fun _ => .int .i64 (k : Nat))
  oc : w.rowIs ob 24 1 (fun _ => v)
  own : w.ownsRow (ob + 1) 43 2 v L.length (psK L)
  fm : FM mb E w
  bel : Below w0.heap.size w0 w
  op : w0.heap.size ≤ pb
  of : w0.heap.size ≤ fb
  ol : w0.heap.size ≤ lb
  oo : w0.heap.size ≤ ob
  om : w0.heap.size ≤ mb
section
variable {pb fb lb ob mb : Nat} {ta : Option Addr} {tn tc : Nat} {sl : Int} {E : List (List Int × Nat)} {k : Nat} {L : List (Int × Nat)} {v : Value} {w0 w w' : World}
theorem PJ.grow (h : PJ pb fb lb ob mb ta tn tc sl E k L v w0 w) (hb : Below w.heap.size w w') : PJ pb fb lb ob mb ta tn tc sl E k L v w0 w' := by
  have hk : TyO (fun _ => false) w w' := TyO.below hb
  exact ⟨hk.row h.pz (fun _ _ => rfl), hk.row h.fc (fun _ _ => rfl), hk.row h.lc (fun _ _ => rfl), hk.row h.oc (fun _ _ => rfl), own_ty h.own hk (fun _ _ => rfl), h.fm.keep hk (fun _ _ => rfl), h.bel.trans (hb.mono h.bel.size), h.op, h.of, h.ol, h.oo, h.om⟩
theorem PJ.kept {row : Option Nat} (h : PJ pb fb lb ob mb ta tn tc sl E k L v w0 w) (hg : w.grownBy w' row) (hr : ∀ r, row = some r → w0.heap.size ≤ r ∧ r ≠ mb ∧ ∃ o : Obj, w.heap[r]? = some o ∧ o.isCells = false) : PJ pb fb lb ob mb ta tn tc sl E k L v w0 w' := by
  have hk : TyO (fun o => !o.isCells) w w' := TyO.nocells hg (fun r e => (hr r e).2.2)
  refine ⟨hk.row h.pz (fun _ _ => rfl), hk.row h.fc (fun _ _ => rfl), hk.row h.lc (fun _ _ => rfl), hk.row h.oc (fun _ _ => rfl), own_ty h.own hk (fun _ _ => rfl), ?_, h.bel.grown hg h.bel.size (fun k e => (hr k e).1), h.op, h.of, h.ol, h.oo, h.om⟩
  obtain ⟨D, ⟨es, cl, h1, h2⟩, h3⟩ := h.fm
  exact ⟨D, ⟨es, cl, (hg.block mb (Array.getElem?_eq_some_iff.1 h1).1 (fun e => (hr mb e.symm).2.1 rfl)).trans h1, h2⟩, h3⟩
/-- What is left is written. -/
theorem PJ.left (h : PJ pb fb lb ob mb ta tn tc sl E k L v w0 w) (k' : Nat) : PJ pb fb lb ob mb ta tn tc sl E k' L v w0 (w.setCell ⟨lb, 0, none⟩ (.int .i64 (k' : Nat))) := by
  obtain ⟨cq, eq_, _⟩ := h.lc
  have hk : TyO Bi w (w.setCell ⟨lb, 0, none⟩ (.int .i64 (k' : Nat))) := TyO.setCell eq_ rfl
  refine ⟨hk.row h.pz (fun _ _ => rfl), hk.row h.fc (fun _ _ => rfl), ?_, hk.row h.oc (fun _ _ => rfl), own_ty h.own hk (fun _ _ => rfl), h.fm.keep hk (fun _ _ => rfl), h.bel.setCell h.ol _, h.op, h.of, h.ol, h.oo, h.om⟩
  exact (h.lc.set 0 _).congr fun i hi => by
    obtain rfl : i = 0 := by omega
    simp
/-- A pass is put behind the others. -/
theorem PJ.app {p : Int × Nat} {v' : Value} (h : PJ pb fb lb ob mb ta tn tc sl E k L v w0 w) (hg : (w.alloc (.cells #[.int .i64 p.1, .int .i64 (p.2 : Nat)] 43)).grownBy w' v.ownBlock) (hown : w'.ownsRow (ob + 1) 43 2 v' (L.length + 1) (psK L ++ [.int .i64 p.1, .int .i64 (p.2 : Nat)])) :
    PJ pb fb lb ob mb ta tn tc sl E k (L ++ [p]) v' w0 (w'.setCell ⟨ob, 0, none⟩ v') ∧ KeepsOthers w (w'.setCell ⟨ob, 0, none⟩ v') ∧ w'.rowIs ob 24 1 (fun _ => v) ∧ TyO (fun o => Bp o || Bo o) w (w'.setCell ⟨ob, 0, none⟩ v') := by
  have k0 : TyO (fun _ => false) w (w.alloc (.cells #[.int .i64 p.1, .int .i64 (p.2 : Nat)] 43)) := TyO.below (by repeat (first | exact Below.refl _ _ | refine Below.drew ?_ | refine below_drewN ?_ _ | refine Below.alloc ?_ (by first | exact Nat.le_refl _ | (simp; done) | (simp; omega) | omega) _ | refine Below.setCell ?_ (by first | exact Nat.le_refl _ | (simp; done) | (simp; omega) | omega) _ | refine bExtW ?_ (by first | exact Nat.le_refl _ | (simp; done) | (simp; omega) | omega) | refine Below.trans ?_ (Below.mono (by assumption) (by first | exact Nat.le_refl _ | (simp; done) | (simp; omega) | omega))))
  have hcells : ∀ (j : Nat) (o : Obj), v.ownBlock = some j → (w.alloc (.cells #[.int .i64 p.1, .int .i64 (p.2 : Nat)] 43)).heap[j]? = some o → ob + 1 ≤ j ∧ Bp o = true ∧ o.isCells = true := by
    intro j o e ho
    rcases h.own.2 with ⟨e1, _⟩ | ⟨g, cap, cur, e1, e2, e3, _⟩
    · rw [e1] at e; cases e
    · rw [e1] at e
      injection e with e
      have e : g = j := e
      subst e
      rw [Below.heap_alloc _ _ _ (Array.getElem?_eq_some_iff.1 e3).1, e3] at ho
      injection ho with ho
      subst ho
      exact ⟨e2, rfl, rfl⟩
  have k1 : TyO Bp (w.alloc (.cells #[.int .i64 p.1, .int .i64 (p.2 : Nat)] 43)) w' := by
    cases hv : v.ownBlock with
    | none => rw [hv] at hg; exact TyO.none hg
    | some g =>
      rw [hv] at hg
      rcases h.own.2 with ⟨e1, _⟩ | ⟨g2, cap, cur, e1, e2, e3, _⟩
      · rw [e1] at hv; cases hv
      · rw [e1] at hv
        injection hv with hv
        have hv : g2 = g := hv
        subst hv
        exact TyO.grown hg ((Below.heap_alloc _ _ _ (Array.getElem?_eq_some_iff.1 e3).1).trans e3) rfl
  have hoc := k1.row (k0.row h.oc (fun _ _ => rfl)) (fun _ _ => rfl)
  have hoc2 := hoc
  obtain ⟨cq, eq_, _⟩ := hoc2
  have k2 : TyO Bo w' (w'.setCell ⟨ob, 0, none⟩ v') := TyO.setCell eq_ rfl
  have kk : TyO (fun o => Bp o || Bo o) w (w'.setCell ⟨ob, 0, none⟩ v') := by
    have t1 : TyO (fun o => Bp o || Bo o) (w.alloc (.cells #[.int .i64 p.1, .int .i64 (p.2 : Nat)] 43)) w' := ⟨k1.os, k1.tape, k1.output, k1.size, fun a b c d => k1.block a b c (by cases hx : Bp b <;> simp_all)⟩
    have t2 : TyO (fun o => Bp o || Bo o) w' (w'.setCell ⟨ob, 0, none⟩ v') := ⟨k2.os, k2.tape, k2.output, k2.size, fun a b c d => k2.block a b c (by cases hx : Bo b <;> simp_all)⟩
    have t0 : TyO (fun o => Bp o || Bo o) w (w.alloc (.cells #[.int .i64 p.1, .int .i64 (p.2 : Nat)] 43)) := ⟨k0.os, k0.tape, k0.output, k0.size, fun a b c d => k0.block a b c rfl⟩
    exact (t0.trans t1).trans t2
  have hbs := h.bel.size
  refine ⟨⟨kk.row h.pz (fun _ _ => rfl), kk.row h.fc (fun _ _ => rfl), kk.row h.lc (fun _ _ => rfl), ?_, ?_, h.fm.keep kk (fun _ _ => rfl), ?_, h.op, h.of, h.ol, h.oo, h.om⟩, ?_, hoc, kk⟩
  · exact (hoc.set 0 _).congr fun i hi => by
      obtain rfl : i = 0 := by omega
      simp
  · rw [List.length_append, List.length_singleton, psK_snoc]
    exact own_ty hown k2 (fun _ _ => rfl)
  · refine Below.setCell ?_ h.oo _
    have b1 : Below w0.heap.size w0 (w.alloc (.cells #[.int .i64 p.1, .int .i64 (p.2 : Nat)] 43)) := h.bel.alloc hbs _
    refine b1.grown hg (by simp; omega) (fun j e => ?_)
    rcases h.own.2 with ⟨e1, _⟩ | ⟨g2, cap, cur, e1, e2, e3, _⟩
    · rw [e1] at e; cases e
    · rw [e1] at e
      injection e with e
      have e : g2 = j := e
      have := h.oo
      omega
  · refine ((KeepsOthers.alloc _ _).trans (KeepsOthers.of_grownBy hg (fun j o e ho => ?_))).trans (KeepsOthers.setCell _ _ _)
    exact (hcells j o e ho).2.2
/-- The box of where loops stand is written. -/
theorem PJ.setAt (h : PJ pb fb lb ob mb ta tn tc sl E k L v w0 w) {ab : Nat} {av av' : Value} (hr : w.rowIs ab 22 1 (fun _ => av)) (ha : w0.heap.size ≤ ab) : PJ pb fb lb ob mb ta tn tc sl E k L v w0 (w.setCell ⟨ab, 0, none⟩ av') := by
  obtain ⟨cq, eq_, _⟩ := hr
  have hk : TyO Bg w (w.setCell ⟨ab, 0, none⟩ av') := TyO.setCell eq_ rfl
  exact ⟨hk.row h.pz (fun _ _ => rfl), hk.row h.fc (fun _ _ => rfl), hk.row h.lc (fun _ _ => rfl), hk.row h.oc (fun _ _ => rfl), own_ty h.own hk (fun _ _ => rfl), h.fm.keep hk (fun _ _ => rfl), h.bel.setCell ha _, h.op, h.of, h.ol, h.oo, h.om⟩
end
/-- What holds while passes are tried. -/
structure RQ (pb fb lb ob mb : Nat) (ta : Option Addr) (tn tc : Nat) (sl : Int) (E : List (List Int × Nat)) (k : Nat) (L : List (Int × Nat)) (v : Value) (to s : List Int) (av : Value) (ab tb base : Nat) (Ds : List Nat) (w0 : World) (n : Nat) (pre : List (Fin (4 * (2 ^ n - 1)))) (W : World) : Prop where
  pj : PJ pb fb lb ob mb ta tn tc sl E (k + 1) L v w0 W
  ar : W.rowIs ab 22 1 (fun _ => av)
  eb : EB (ob + 1) w0 W av s
  tr : W.rowIs tb 3 1 (fun _ => .int .i64 (n))
  ms : Marks base Ds W
  no : ∀ x ∈ pre, ¬ good to sl k s (PLv n x.val)
/-- What holds where the first pass that comes nearer is found. -/
def RX (pb fb lb ob mb : Nat) (ta : Option Addr) (tn tc : Nat) (sl : Int) (E : List (List Int × Nat)) (k : Nat) (L : List (Int × Nat)) (to s : List Int) (ab base : Nat) (Ds : List Nat) (w0 : World) (n : Nat) (c : Code) (pre : List (Fin (4 * (2 ^ n - 1)))) (W : World) : Prop :=
  c = .exit 2 ∧ ∃ pre0 x v' av', pre = pre0 ++ [x] ∧ good to sl k s (PLv n x.val) ∧ (∀ y ∈ pre0, ¬ good to sl k s (PLv n y.val)) ∧ PJ pb fb lb ob mb ta tn tc sl E (k + 1) (L ++ [PLv n x.val]) v' w0 W ∧ W.rowIs ab 22 1 (fun _ => av') ∧ EB (ob + 1) w0 W av' (mv s (PLv n x.val).1 (PLv n x.val).2) ∧ Marks base Ds W
section
variable {pb fb lb ob mb : Nat} {ta : Option Addr} {tn tc : Nat} {sl : Int} {E : List (List Int × Nat)} {k : Nat} {L : List (Int × Nat)} {v : Value} {to s : List Int} {av : Value} {ab tb base : Nat} {Ds : List Nat} {w0 : World} {n : Nat} {pre : List (Fin (4 * (2 ^ n - 1)))} {A B : World}
theorem RQ.kept {row : Option Nat} (h : RQ pb fb lb ob mb ta tn tc sl E k L v to s av ab tb base Ds w0 n pre A) (hg : A.grownBy B row) (hr : ∀ r, row = some r → (w0.heap.size ≤ r ∧ r ≠ mb ∧ ∃ o : Obj, A.heap[r]? = some o ∧ o.isCells = false) ∧ ∀ D ∈ Ds, D ≠ r) : RQ pb fb lb ob mb ta tn tc sl E k L v to s av ab tb base Ds w0 n pre B := by
  have hk : TyO (fun o => !o.isCells) A B := TyO.nocells hg (fun r e => (hr r e).1.2.2)
  exact ⟨h.pj.kept hg (fun r e => (hr r e).1), hk.row h.ar (fun _ _ => rfl), h.eb.keep hk (fun _ _ => rfl), hk.row h.tr (fun _ _ => rfl), h.ms.kept hg (fun r e => (hr r e).2), h.no⟩
theorem RQ.grow (h : RQ pb fb lb ob mb ta tn tc sl E k L v to s av ab tb base Ds w0 n pre A) (hb : Below A.heap.size A B) : RQ pb fb lb ob mb ta tn tc sl E k L v to s av ab tb base Ds w0 n pre B := by
  have hk : TyO (fun _ => false) A B := TyO.below hb
  exact ⟨h.pj.grow hb, hk.row h.ar (fun _ _ => rfl), h.eb.keep hk (fun _ _ => rfl), hk.row h.tr (fun _ _ => rfl), h.ms.keep ((keepsOthers_of_below hb).from _), h.no⟩
theorem RX.kept {row : Option Nat} {c : Code} (h : RX pb fb lb ob mb ta tn tc sl E k L to s ab base Ds w0 n c pre A) (hg : A.grownBy B row) (hr : ∀ r, row = some r → (w0.heap.size ≤ r ∧ r ≠ mb ∧ ∃ o : Obj, A.heap[r]? = some o ∧ o.isCells = false) ∧ ∀ D ∈ Ds, D ≠ r) : RX pb fb lb ob mb ta tn tc sl E k L to s ab base Ds w0 n c pre B := by
  have hk : TyO (fun o => !o.isCells) A B := TyO.nocells hg (fun r e => (hr r e).1.2.2)
  obtain ⟨hc, pre0, x, v', av', h1, h2, h3, h4, h5, h6, h7⟩ := h
  exact ⟨hc, pre0, x, v', av', h1, h2, h3, h4.kept hg (fun r e => (hr r e).1), hk.row h5 (fun _ _ => rfl), h6.keep hk (fun _ _ => rfl), h7.kept hg (fun r e => (hr r e).2)⟩
end
theorem keyZ_wf (l : List Int) (hl : l.length ≤ 5) (h : ∀ x ∈ l, -100 ≤ x ∧ x ≤ 100) : (-9223372036854775808 ≤ keyZ l ∧ keyZ l ≤ 9223372036854775807) := by
  match l, hl, h with
  | [], _, _ => simp [keyZ]
  | [a], _, h =>
    have h1 := h a (by simp)
    simp only [keyZ, List.foldl_cons, List.foldl_nil]; omega
  | [a, b], _, h =>
    have h1 := h a (by simp)
    have h2 := h b (by simp)
    simp only [keyZ, List.foldl_cons, List.foldl_nil]; omega
  | [a, b, c], _, h =>
    have h1 := h a (by simp)
    have h2 := h b (by simp)
    have h3 := h c (by simp)
    simp only [keyZ, List.foldl_cons, List.foldl_nil]; omega
  | [a, b, c, d], _, h =>
    have h1 := h a (by simp)
    have h2 := h b (by simp)
    have h3 := h c (by simp)
    have h4 := h d (by simp)
    simp only [keyZ, List.foldl_cons, List.foldl_nil]; omega
  | [a, b, c, d, e], _, h =>
    have h1 := h a (by simp)
    have h2 := h b (by simp)
    have h3 := h c (by simp)
    have h4 := h d (by simp)
    have h5 := h e (by simp)
    simp only [keyZ, List.foldl_cons, List.foldl_nil]; omega
  | a :: b :: c :: d :: e :: f :: l, hl, _ => simp at hl
theorem mv_bd {s : List Int} (hs : ∀ x ∈ s, 0 ≤ x ∧ x < 12) {b : Int} (hb : -2 ≤ b ∧ b ≤ 2) (wh : Nat) : ∀ x ∈ mv s b wh, -100 ≤ x ∧ x ≤ 100 := by
  intro x hx
  obtain ⟨i, hi, rfl⟩ := List.getElem_of_mem hx
  have hl := mv_len s b wh
  have h1 := mv_get s b wh i (by omega)
  rw [List.getD_eq_getElem?_getD, List.getElem?_eq_getElem hi, Option.getD_some, List.getD_eq_getElem?_getD, List.getElem?_eq_getElem (show i < s.length by omega), Option.getD_some] at h1
  have h2 := hs (s[i]'(by omega)) (List.getElem_mem _)
  rw [h1]
  split <;> omega
theorem fin_last {M j : Nat} {pre0 : List (Fin M)} {x : Fin M} (hj : j ≤ M) (he : pre0 ++ [x] = (List.finRange M).take j) : x.val = pre0.length ∧ ∀ i (h : i < pre0.length), ∃ y ∈ pre0, y.val = i := by
  have hl : pre0.length + 1 = j := by
    have := congrArg List.length he
    rw [List.length_append, List.length_singleton, List.length_take, List.length_finRange] at this
    omega
  have key : ∀ i (hi : i < j), (pre0 ++ [x])[i]? = some ⟨i, by omega⟩ := fun i hi => by
    rw [he, List.getElem?_take_of_lt hi, List.getElem?_eq_getElem (by rw [List.length_finRange]; omega), List.getElem_finRange]
    rfl
  constructor
  · have h1 := key pre0.length (by omega)
    rw [List.getElem?_append_right (Nat.le_refl _), Nat.sub_self] at h1
    injection h1 with h1
    rw [h1]
  · intro i hi
    have h1 := key i (by omega)
    rw [List.getElem?_append_left hi] at h1
    exact ⟨_, List.mem_of_getElem? h1, rfl⟩
/-- Where it stops, the first is found. -/
theorem first_found {to : List Int} {sl : Int} {k n : Nat} {s : List Int} (hn : to.length = n) {pre0 : List (Fin (4 * (2 ^ n - 1)))} {x : Fin (4 * (2 ^ n - 1))} {j : Nat} (hj : j ≤ 4 * (2 ^ n - 1)) (he : pre0 ++ [x] = (List.finRange (4 * (2 ^ n - 1))).take j) (hg : good to sl k s (PLv n x.val)) (hno : ∀ y ∈ pre0, ¬ good to sl k s (PLv n y.val)) : firstP to sl k s (PLv n x.val) := by
  obtain ⟨h1, h2⟩ := fin_last hj he
  refine ⟨x.val, by rw [hn]; exact x.isLt, by rw [hn], hg, fun i hi => ?_⟩
  obtain ⟨y, hy, e⟩ := h2 i (by omega)
  rw [hn, ← e]
  exact hno y hy
end Go.Proofs.Ytoooihoaapfjeaa

namespace Go.Proofs.Ytoooihoaapfjeaa
open Go.RowKit
set_option linter.unusedVariables false
set_option linter.unusedSimpArgs false
section
variable {P : Program} {ops : Array Oper} {md : Region.Mode} {Q : Exit → Act → World → Prop}
/-- What has come up: the first i of A, the first j of B. -/
def lstAB (base : Array Bool) (A B : List Nat) (i j : Nat) : Array Bool := (A.take i ++ B.take j).foldl (fun l k => l.setIfInBounds k true) base
/-- The two chains are chains: at each stage just the next ones may come up. -/
def twoB (md : Region.Mode) (ops : Array Oper) (base : Array Bool) (A B : List Nat) : Bool :=
  (List.range (A.length + 1)).all fun i => (List.range (B.length + 1)).all fun j =>
    ((decide (i = A.length) && decide (j = B.length)) || (Region.ready md ops (lstAB base A B i j)).all fun k => (decide (i < A.length) && decide (A[i]? = some k)) || (decide (j < B.length) && decide (B[j]? = some k))) &&
    ((decide (i = A.length) && decide (j = B.length)) || !(Region.ready md ops (lstAB base A B i j)).isEmpty) &&
    (decide (i = A.length) || decide ((lstAB base A B i j).setIfInBounds (A.getD i 0) true = lstAB base A B (i + 1) j)) &&
    (decide (j = B.length) || decide ((lstAB base A B i j).setIfInBounds (B.getD j 0) true = lstAB base A B i (j + 1)))
theorem wpAny_two {base : Array Bool} {A B : List Nat} {g : Nat} (hB : twoB md ops base A B = true) (I : Nat → Nat → Act → World → Prop)
    (hA : ∀ i j a w, i < A.length → j ≤ B.length → I i j a w → wpOp P ops Q (A.getD i 0) (fun a' w' => I (i + 1) j a' w') a w)
    (hB2 : ∀ i j a w, i ≤ A.length → j < B.length → I i j a w → wpOp P ops Q (B.getD j 0) (fun a' w' => I i (j + 1) a' w') a w)
    (hend : ∀ a w, I A.length B.length a w → wpAny P md ops Q g (lstAB base A B A.length B.length) a w) (f : Nat) :
    ∀ i j a w, (A.length - i) + (B.length - j) = f → i ≤ A.length → j ≤ B.length → I i j a w → wpAny P md ops Q (f + g) (lstAB base A B i j) a w := by
  induction f with
  | zero =>
    intro i j a w hf hi hj h
    obtain rfl : i = A.length := by omega
    obtain rfl : j = B.length := by omega
    rw [Nat.zero_add]
    exact hend a w h
  | succ f ih =>
    intro i j a w hf hi hj h
    unfold twoB at hB
    have h1 := List.all_eq_true.1 (List.all_eq_true.1 hB i (List.mem_range.2 (by omega))) j (List.mem_range.2 (by omega))
    simp only [Bool.and_eq_true, Bool.or_eq_true, decide_eq_true_eq] at h1
    obtain ⟨⟨⟨c1, c2⟩, c3⟩, c4⟩ := h1
    have hne : ¬ (i = A.length ∧ j = B.length) := by omega
    have c1' := List.all_eq_true.1 (c1.resolve_left hne)
    have c2' := c2.resolve_left hne
    rw [show f + 1 + g = (f + g) + 1 by omega]
    refine ⟨fun h0 => by rw [h0] at c2'; simp at c2', fun k hk => ?_⟩
    have hk2 := c1' k hk
    simp only [Bool.and_eq_true, Bool.or_eq_true, decide_eq_true_eq] at hk2
    rcases hk2 with ⟨hlt, e⟩ | ⟨hlt, e⟩
    · have hg : A.getD i 0 = k := by rw [List.getD_eq_getElem?_getD, e]; rfl
      have c3' := c3.resolve_left (by omega)
      rw [hg] at c3'
      have h2 := hA i j a w hlt hj h
      rw [hg] at h2
      refine wpOp_mono (fun a' w' h' => ?_) h2
      rw [c3']
      exact ih (i + 1) j a' w' (by omega) (by omega) hj h'
    · have hg : B.getD j 0 = k := by rw [List.getD_eq_getElem?_getD, e]; rfl
      have c4' := c4.resolve_left (by omega)
      rw [hg] at c4'
      have h2 := hB2 i j a w hi hlt h
      rw [hg] at h2
      refine wpOp_mono (fun a' w' h' => ?_) h2
      rw [c4']
      exact ih i (j + 1) a' w' (by omega) hi (by omega) h'
end
end Go.Proofs.Ytoooihoaapfjeaa

namespace Go.Proofs.Ytoooihoaapfjeaa
open Go.RowKit
set_option linter.unusedVariables false
set_option linter.unusedSimpArgs false
section
variable {P : Program} {ops : Array Oper} {Q : Exit → Act → World → Prop} {K : Act → World → Prop} {a : Act} {w : World}
def onNormal (K : Act → World → Prop) (Q : Exit → Act → World → Prop) : Exit → Act → World → Prop
  | .normal => K
  | e => Q e
theorem wpOp_go {i : Nat} {o : Oper} (hi : ops[i]? = some o) (hg : o.guard = none) (h : ∀ K' : Act → World → Prop, (∀ a w, K a w → K' a w) → o.wp P a w K' Q) : wpOp P ops Q i K a w := by
  unfold wpOp
  simp only [hi, Region.wanted, hg, if_true]
  exact .inl (h K fun _ _ h => h)
theorem upon_onNormal {o : Oper} {r : Result Next} (h : o.upon P a K (onNormal K Q) r) : o.upon P a K Q r := by
  cases r with
  | ok n w' =>
    cases n with
    | enter f args => exact Calls.mono h fun e w'' he => by cases e <;> exact he
    | _ => exact h
  | halt x w' => cases x <;> exact h
theorem wpOp_list {i : Nat} {o : Oper} (hi : ops[i]? = some o) (hg : o.guard = none) (h : wpList P ops (onNormal K Q) [o] a w) : wpOp P ops Q i K a w := by
  unfold wpOp
  simp only [hi, Region.wanted, hg, if_true]
  unfold wpList at h
  simp only [Region.wanted, hg, if_true] at h
  rcases h with h | ⟨h1, h2⟩
  · exact .inl (upon_onNormal h)
  · exact .inr ⟨h1, h2⟩
end
end Go.Proofs.Ytoooihoaapfjeaa
