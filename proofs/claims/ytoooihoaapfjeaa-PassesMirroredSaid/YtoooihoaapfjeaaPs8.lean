/- Chapter 13: far's queue grows, and gives. -/
import Derived.Test.YtoooihoaapfjeaaPs7
import Derived.Test.YtoooihoaapfjeaaRin
namespace Go.Proofs.Ytoooihoaapfjeaa
open Go.RowKit
set_option linter.unusedVariables false
set_option linter.unusedSimpArgs false
open Ps Go.Maps
section
variable {pb fb qb mb : Nat} {ta : Option Addr} {tn tc : Nat} {sl : Int} {E : List (List Int × Nat)} {Q : List (List Int)} {g o c : Nat} {cur : Array Value} {vs : List Value} {w0 w w' : World}
theorem TyO.none {B : Obj → Bool} {w w' : World} (hg : w.grownBy w' none) : TyO B w w' :=
  ⟨hg.os, hg.tape, hg.output, hg.size, fun k o e _ => hg.block k (Array.getElem?_eq_some_iff.1 e).1 (by simp)⟩
/-- The box of the way to stand that is looked round from. -/
structure AT (ab g tb n : Nat) (v : Value) (s : List Int) (w0 w : World) : Prop where
  tb : w.rowIs tb 3 1 (fun _ => .int .i64 (n))
  row : w.rowIs ab 22 1 (fun _ => v)
  ne : ab ≠ g
  el : EL w0 w v s
  oa : w0.heap.size ≤ ab
theorem AT.keep {B : Obj → Bool} {ab g tb n : Nat} {v : Value} {s : List Int} {w0 w w' : World} (h : AT ab g tb n v s w0 w) (hk : TyO B w w') (hB : ∀ c fz, B (.cells c 3 fz) = false) (hB2 : ∀ c fz, B (.cells c 22 fz) = false) : AT ab g tb n v s w0 w' :=
  ⟨hk.row h.tb hB, hk.row h.row hB2, h.ne, h.el.keep hk hB, h.oa⟩
/-- The queue moves to a new block. -/
theorem FI.pushOut (h : FI pb fb qb mb ta tn tc sl E Q g o c cur vs w0 w) {v v' : Value} {s : List Int} (hs : EL w0 w v s) (hg : w.grownBy w' none) (hown : w'.ownsRow w.heap.size 22 1 v' (Q.length + 1) (vs ++ [v])) :
    ∃ g' c' cur', v' = .slice (some ⟨g', 0, none⟩) (Q.length + 1) c' ∧ w.heap.size ≤ g' ∧ FI pb fb qb mb ta tn tc sl E (Q ++ [s]) g' 0 c' cur' (vs ++ [v]) w0 (w'.setCell ⟨qb, 0, none⟩ v') := by
  rcases hown.2 with ⟨_, e⟩ | ⟨g', cap, cur', e1, e2, e3, e4, e5, e6, e7⟩
  · omega
  · refine ⟨g', cap, cur', e1, by omega, ?_⟩
    subst e1
    have k1 : TyO (fun _ => false) w w' := TyO.none hg
    have hqc1 := k1.row h.qc (fun _ _ => rfl)
    obtain ⟨cq, eq_, _⟩ := hqc1
    have k2 : TyO Bq w' (w'.setCell ⟨qb, 0, none⟩ (.slice (some ⟨g', 0, none⟩) (Q.length + 1) cap)) := TyO.setCell eq_ rfl
    have hqc1 := k1.row h.qc (fun _ _ => rfl)
    have hbs := h.bel.size
    rw [Nat.mul_one] at e6 e7
    refine ⟨k2.row (k1.row h.pz (fun _ _ => rfl)) (fun _ _ => rfl), k2.row (k1.row h.fc (fun _ _ => rfl)) (fun _ _ => rfl), ?_, ?_, (h.fm.keep k1 (fun _ _ => rfl)).keep k2 (fun _ _ => rfl), (h.bel.grown hg h.bel.size (fun k e => by cases e)).setCell h.oq _, h.op, h.of, h.oq, h.om, by omega⟩
    · refine (hqc1.set 0 _).congr fun i hi => ?_
      obtain rfl : i = 0 := by omega
      simp
    · have hln := h.q.ln
      have hq1 : QG w0 g' 0 cap (Q ++ [s]) cur' (vs ++ [v]) w' := by
        refine ⟨by rw [List.length_append]; exact e4, e5, e3, by omega, by simp [hln], ?_, ?_⟩
        · intro j hj
          rw [List.length_append, List.length_singleton] at hj
          have h9 : (cur'.toList.take (Q.length + 1))[j]? = (vs ++ [v])[j]? := by rw [e7]
          rw [List.getElem?_take_of_lt hj, Array.getElem?_toList] at h9
          rw [Nat.zero_add, h9, List.getD_eq_getElem?_getD, List.getElem?_eq_getElem (by rw [List.length_append, List.length_singleton]; omega)]
          rfl
        · intro j hj
          rw [List.length_append, List.length_singleton] at hj
          by_cases hjq : j < Q.length
          · rw [List.getD_eq_getElem?_getD, List.getElem?_append_left (by omega), List.getD_eq_getElem?_getD, List.getElem?_append_left hjq, ← List.getD_eq_getElem?_getD, ← List.getD_eq_getElem?_getD]
            exact (h.q.ro j hjq).keep k1 (fun _ _ => rfl)
          · obtain rfl : j = Q.length := by omega
            rw [List.getD_eq_getElem?_getD, List.getElem?_append_right (by omega), List.getD_eq_getElem?_getD, List.getElem?_append_right (Nat.le_refl _), hln, Nat.sub_self]
            exact hs.keep k1 (fun _ _ => rfl)
      exact hq1.keep k2 (fun _ _ => rfl) (fun _ _ => rfl)
/-- The first of the queue is taken. -/
theorem FI.pop {s : List Int} (h : FI pb fb qb mb ta tn tc sl E (s :: Q) g o c cur vs w0 w) : ∃ g' o' vs', g' = g ∧ (Value.slice (if c = 1 then some ⟨g, o, none⟩ else some ⟨g, o + 1, none⟩) Q.length (c - 1)) = .slice (some ⟨g, o', none⟩) Q.length (c - 1) ∧
    FI pb fb qb mb ta tn tc sl E Q g o' (c - 1) cur vs' w0 (w.setCell ⟨qb, 0, none⟩ (.slice (some ⟨g, o', none⟩) Q.length (c - 1))) := by
  have hle := h.q.le
  rw [List.length_cons] at hle
  have hln := h.q.ln
  rw [List.length_cons] at hln
  obtain ⟨v, vs2, rfl⟩ : ∃ v vs2, vs = v :: vs2 := by
    cases vs with
    | nil => simp at hln
    | cons v vs2 => exact ⟨v, vs2, rfl⟩
  obtain ⟨cq, eq_, _⟩ := h.qc
  refine ⟨g, if c = 1 then o else o + 1, vs2, rfl, by split <;> rfl, ?_⟩
  have k2 : TyO Bq w (w.setCell ⟨qb, 0, none⟩ (.slice (some ⟨g, if c = 1 then o else o + 1, none⟩) Q.length (c - 1))) := TyO.setCell eq_ rfl
  refine ⟨k2.row h.pz (fun _ _ => rfl), k2.row h.fc (fun _ _ => rfl), ?_, ?_, h.fm.keep k2 (fun _ _ => rfl), h.bel.setCell h.oq _, h.op, h.of, h.oq, h.om, h.og⟩
  · refine (h.qc.set 0 _).congr fun i hi => ?_
    obtain rfl : i = 0 := by omega
    simp
  · have hsz := h.q.sz
    have hq1 : QG w0 g (if c = 1 then o else o + 1) (c - 1) Q cur vs2 w := by
      refine ⟨by omega, by have := h.q.lim; omega, h.q.hp, by split <;> omega, by simpa using hln, ?_, ?_⟩
      · intro j hj
        have h9 := h.q.el (j + 1) (by rw [List.length_cons]; omega)
        rw [if_neg (by omega), show o + 1 + j = o + (j + 1) by omega, h9]
        rfl
      · intro j hj
        exact h.q.ro (j + 1) (by rw [List.length_cons]; omega)
    exact hq1.keep k2 (fun _ _ => rfl) (fun _ _ => rfl)
theorem okPts : ElemOk 53 22 1 24 (.slice none 0 0) := ⟨Try.underlying53, by kernel_rfl, rfl, by omega⟩
theorem setCells_one (w : World) (b off : Nat) (u : Value) : w.setCells b off [u] = w.setCell ⟨b, off, none⟩ u := by
  simp [World.setCells]
/-- 'append(todo, back)', in a round. -/
theorem wpAppQ {l N : Nat} {ops : Array Oper} {rest : List Oper} {op : Oper} {a : Act} {K : Exit → Act → World → Prop} (hgd : op.guard = none) (s x : Operand) (ho : op.op = .call { callee := .builtin .append, args := #[s, x], argTypes := #[53, 53] })
    (h : FI pb fb qb mb ta tn tc sl E Q g o c cur vs w0 w) {A : Option Addr} {n m B : Nat} {q : List Int} (hq : EL w0 w (.slice A n m) q) (hs : a.eval s = .slice (some ⟨g, o, none⟩) Q.length c) (hx : a.eval x = .slice (some ⟨B, 0, none⟩) 1 1) (hc : w.cell? ⟨B, 0, none⟩ = some (.slice A n m)) (hn : Q.length ≤ 1000000) {ab tb nb : Nat} {av : Value} {sa : List Int} (hA : AT ab g tb nb av sa w0 w)
    (hK : ∀ g' o' c' cur' vs' w', FI pb fb qb mb ta tn tc sl E (Q ++ [q]) g' o' c' cur' vs' w0 (w'.setCell ⟨qb, 0, none⟩ (.slice (some ⟨g', o', none⟩) (Q.length + 1) c')) → AT ab g' tb nb av sa w0 (w'.setCell ⟨qb, 0, none⟩ (.slice (some ⟨g', o', none⟩) (Q.length + 1) c')) → w'.cell? ⟨qb, 0, none⟩ = some (.slice (some ⟨g, o, none⟩) Q.length c) → w'.frozen? ⟨qb, 0, none⟩ = false → LtW qb w' →
      KeepsOthers w w' → wpListIn (Fence.wide.inRound l) N Try.prog ops K rest (a.put op.dst (.slice (some ⟨g', o', none⟩) (Q.length + 1) c')) w') :
    wpListIn (Fence.wide.inRound l) N Try.prog ops K (op :: rest) a w := by
  obtain ⟨h2, h3, h4, h5⟩ := okPts
  obtain ⟨i0, hi, hz0, hz1, hz2⟩ := info_parts h3
  refine wpListIn_plain hgd fun K' hK' => ?_
  refine wpIn_of_wp (fun c e => by rw [ho] at e; cases e) ?_
  have hln := h.q.ln
  have hne : Below w.heap.size w w := Below.refl _ _
  by_cases hr : Q.length + 1 ≤ c
  · have hfr := h.q.frozen (o + Q.length)
    have hcl : (w.cell? ⟨g, o + Q.length, none⟩).isSome = true := by
      have hsz := h.q.sz
      simp only [World.cell?, h.q.hp]
      rw [Array.getElem?_eq_getElem (by omega)]
      rfl
    have hrun := run_append_room_cells (P := Try.prog) w 53 op.type 22 i0 h2 hi g o Q.length c ⟨B, 0, none⟩ 1 1 [.slice A n m] (by rw [hz1]; rfl) (fun j u hj => by
      have hj0 : j = 0 := by
        have := (List.getElem?_eq_some_iff.1 hj).1
        simpa using this
      subst hj0
      simp at hj
      subst hj
      exact hc) (fun u hu => by simp at hu; subst hu; rfl) hr (fun j hj => by
        simp at hj
        subst hj
        rw [hz1, Nat.mul_one, Nat.add_zero]; exact hcl) (fun j hj => by
        simp at hj
        subst hj
        rw [hz1, Nat.mul_one, Nat.add_zero]; exact hfr)
    rw [hz1, Nat.mul_one, setCells_one] at hrun
    have k1 : TyO Bg w (w.setCell ⟨g, o + Q.length, none⟩ (.slice A n m)) := TyO.setCell h.q.hp rfl
    have hqc := k1.row h.qc (fun _ _ => rfl)
    have hqc2 := hqc
    obtain ⟨cq, eq_, _⟩ := hqc2
    have hA2 : AT ab g tb nb av sa w0 (w.setCell ⟨g, o + Q.length, none⟩ (.slice A n m)) := ⟨k1.row hA.tb (fun _ _ => rfl), hA.row.setOther hA.ne _, hA.ne, hA.el.keep k1 (fun _ _ => rfl), hA.oa⟩
    have hA3 := hA2.keep (TyO.setCell (B := Bq) (i := 0) (u := .slice (some ⟨g, o, none⟩) (Q.length + 1) c) eq_ rfl) (fun _ _ => rfl) (fun _ _ => rfl)
    unfold Oper.wp
    simp [execOp, ho, resolve, invoke, builtin, hs, hx, hrun, Result.andThen]
    exact hK' _ _ (hK g o c _ _ _ (h.pushIn hq hr) hA3 (hqc.cell (i := 0) (by omega)) (hqc.frozen 0) hqc.lt (KeepsOthers.setCell _ _ _))
  · obtain ⟨v', w', hrun, r1, r2⟩ := run_append_arg_grows (P := Try.prog) w 53 op.type 22 i0 (.slice none 0 0) 1 24 h2 hi hz0 hz1 hz2 h4 (by omega) ⟨g, o, none⟩ Q.length c vs (by omega) (fun j u hj => by
      have hjl := (List.getElem?_eq_some_iff.1 hj).1
      rw [Addr.add_lit, h.q.cell (by omega), List.getD_eq_getElem?_getD, hj]
      rfl) ⟨B, 0, none⟩ 1 1 [.slice A n m] rfl (fun j u hj => by
      have hj0 : j = 0 := by
        have := (List.getElem?_eq_some_iff.1 hj).1
        simpa using this
      subst hj0
      simp at hj
      subst hj
      exact hc) (by omega) (by unfold maxLen; omega) (by omega)
    obtain ⟨g', c', cur', rfl, hgl, hfi⟩ := h.pushOut hq r2 r1
    have k1 : TyO (fun _ => false) w w' := TyO.none r2
    have hqc := k1.row h.qc (fun _ _ => rfl)
    have hqc2 := hqc
    obtain ⟨cq, eq_, _⟩ := hqc2
    have hal := hA.row.lt
    have hA2 : AT ab g' tb nb av sa w0 w' := ⟨k1.row hA.tb (fun _ _ => rfl), k1.row hA.row (fun _ _ => rfl), by omega, hA.el.keep k1 (fun _ _ => rfl), hA.oa⟩
    have hA3 := hA2.keep (TyO.setCell (B := Bq) (i := 0) (u := .slice (some ⟨g', 0, none⟩) (Q.length + 1) c') eq_ rfl) (fun _ _ => rfl) (fun _ _ => rfl)
    unfold Oper.wp
    simp [execOp, ho, resolve, invoke, builtin, hs, hx, hrun, Result.andThen]
    exact hK' _ _ (hK g' 0 c' _ _ _ hfi hA3 (hqc.cell (i := 0) (by omega)) (hqc.frozen 0) hqc.lt (KeepsOthers.of_grownBy r2 (fun j ob e => by cases e)))
end
end Go.Proofs.Ytoooihoaapfjeaa
