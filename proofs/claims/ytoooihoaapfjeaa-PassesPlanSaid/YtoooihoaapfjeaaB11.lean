/- Lemmas and contracts of functions (what each call returns, and that it changes nothing that was there) that the proof of a law of this seat uses; each lemma states its own conditions. -/
import Derived.Test.YtoooihoaapfjeaaB10
import Derived.Test.YtoooihoaapfjeaaB04
import Derived.RangeFuncWrites
namespace Go.Proofs.Ytoooihoaapfjeaa
open Go.RowKit
set_option linter.unusedVariables false
set_option linter.unusedSimpArgs false
open Ps Go.Maps
section
variable {pb fb qb mb : Nat} {ta : Option Addr} {tn tc : Nat} {sl : Int} {E : List (List Int × Nat)} {Q : List (List Int)} {g o c : Nat} {cur : Array Value} {vs : List Value} {w0 w w' : World}
theorem TyO.none {B : Obj → Bool} {w w' : World} (hg : w.grownBy w' none) : TyO B w w' :=
  ⟨hg.os, hg.tape, hg.output, hg.size, fun k o e _ => hg.block k (Array.getElem?_eq_some_iff.1 e).1 (by simp)⟩
/-- The box of the way to stand that is looked round from. -/
structure AT (ab g tb n : Nat) (v : Value) (s : List Int) (w0 w : World) : Prop where
  tb : w.rowIs tb 3 1 (fun _ => .int .i64 (n))
  row : w.rowIs ab 22 1 (fun _ => v)
  ne : ab ≠ g
  el : EL w0 w v s
  oa : w0.heap.size ≤ ab
theorem AT.keep {B : Obj → Bool} {ab g tb n : Nat} {v : Value} {s : List Int} {w0 w w' : World} (h : AT ab g tb n v s w0 w) (hk : TyO B w w') (hB : ∀ c fz, B (.cells c 3 fz) = false) (hB2 : ∀ c fz, B (.cells c 22 fz) = false) : AT ab g tb n v s w0 w' :=
  ⟨hk.row h.tb hB, hk.row h.row hB2, h.ne, h.el.keep hk hB, h.oa⟩
/-- The queue moves to a new block. -/
theorem FI.pushOut (h : FI pb fb qb mb ta tn tc sl E Q g o c cur vs w0 w) {v v' : Value} {s : List Int} (hs : EL w0 w v s) (hg : w.grownBy w' none) (hown : w'.ownsRow w.heap.size 22 1 v' (Q.length + 1) (vs ++ [v])) :
    ∃ g' c' cur', v' = .slice (some ⟨g', 0, none⟩) (Q.length + 1) c' ∧ w.heap.size ≤ g' ∧ FI pb fb qb mb ta tn tc sl E (Q ++ [s]) g' 0 c' cur' (vs ++ [v]) w0 (w'.setCell ⟨qb, 0, none⟩ v') := by
  rcases hown.2 with ⟨_, e⟩ | ⟨g', cap, cur', e1, e2, e3, e4, e5, e6, e7⟩
  · omega
  · refine ⟨g', cap, cur', e1, by omega, ?_⟩
    subst e1
    have k1 : TyO (fun _ => false) w w' := TyO.none hg
    have hqc1 := k1.row h.qc (fun _ _ => rfl)
    obtain ⟨cq, eq_, _⟩ := hqc1
    have k2 : TyO Bq w' (w'.setCell ⟨qb, 0, none⟩ (.slice (some ⟨g', 0, none⟩) (Q.length + 1) cap)) := TyO.setCell eq_ rfl
    have hqc1 := k1.row h.qc (fun _ _ => rfl)
    have hbs := h.bel.size
    rw [Nat.mul_one] at e6 e7
    refine ⟨k2.row (k1.row h.pz (fun _ _ => rfl)) (fun _ _ => rfl), k2.row (k1.row h.fc (fun _ _ => rfl)) (fun _ _ => rfl), ?_, ?_, (h.fm.keep k1 (fun _ _ => rfl)).keep k2 (fun _ _ => rfl), (h.bel.grown hg h.bel.size (fun k e => by cases e)).setCell h.oq _, h.op, h.of, h.oq, h.om, by omega⟩
    · refine (hqc1.set 0 _).congr fun i hi => ?_
      obtain rfl : i = 0 := by omega
      simp
    · have hln := h.q.ln
      have hq1 : QG w0 g' 0 cap (Q ++ [s]) cur' (vs ++ [v]) w' := by
        refine ⟨by rw [List.length_append]; exact e4, e5, e3, by omega, by simp [hln], ?_, ?_⟩
        · intro j hj
          rw [List.length_append, List.length_singleton] at hj
          have h9 : (cur'.toList.take (Q.length + 1))[j]? = (vs ++ [v])[j]? := by rw [e7]
          rw [List.getElem?_take_of_lt hj, Array.getElem?_toList] at h9
          rw [Nat.zero_add, h9, List.getD_eq_getElem?_getD, List.getElem?_eq_getElem (by rw [List.length_append, List.length_singleton]; omega)]
          rfl
        · intro j hj
          rw [List.length_append, List.length_singleton] at hj
          by_cases hjq : j < Q.length
          · rw [List.getD_eq_getElem?_getD, List.getElem?_append_left (by omega), List.getD_eq_getElem?_getD, List.getElem?_append_left hjq, ← List.getD_eq_getElem?_getD, ← List.getD_eq_getElem?_getD]
            exact (h.q.ro j hjq).keep k1 (fun _ _ => rfl)
          · obtain rfl : j = Q.length := by omega
            rw [List.getD_eq_getElem?_getD, List.getElem?_append_right (by omega), List.getD_eq_getElem?_getD, List.getElem?_append_right (Nat.le_refl _), hln, Nat.sub_self]
            exact hs.keep k1 (fun _ _ => rfl)
      exact hq1.keep k2 (fun _ _ => rfl) (fun _ _ => rfl)
/-- The first of the queue is taken. -/
theorem FI.pop {s : List Int} (h : FI pb fb qb mb ta tn tc sl E (s :: Q) g o c cur vs w0 w) : ∃ g' o' vs', g' = g ∧ (Value.slice (if c = 1 then some ⟨g, o, none⟩ else some ⟨g, o + 1, none⟩) Q.length (c - 1)) = .slice (some ⟨g, o', none⟩) Q.length (c - 1) ∧
    FI pb fb qb mb ta tn tc sl E Q g o' (c - 1) cur vs' w0 (w.setCell ⟨qb, 0, none⟩ (.slice (some ⟨g, o', none⟩) Q.length (c - 1))) := by
  have hle := h.q.le
  rw [List.length_cons] at hle
  have hln := h.q.ln
  rw [List.length_cons] at hln
  obtain ⟨v, vs2, rfl⟩ : ∃ v vs2, vs = v :: vs2 := by
    cases vs with
    | nil => simp at hln
    | cons v vs2 => exact ⟨v, vs2, rfl⟩
  obtain ⟨cq, eq_, _⟩ := h.qc
  refine ⟨g, if c = 1 then o else o + 1, vs2, rfl, by split <;> rfl, ?_⟩
  have k2 : TyO Bq w (w.setCell ⟨qb, 0, none⟩ (.slice (some ⟨g, if c = 1 then o else o + 1, none⟩) Q.length (c - 1))) := TyO.setCell eq_ rfl
  refine ⟨k2.row h.pz (fun _ _ => rfl), k2.row h.fc (fun _ _ => rfl), ?_, ?_, h.fm.keep k2 (fun _ _ => rfl), h.bel.setCell h.oq _, h.op, h.of, h.oq, h.om, h.og⟩
  · refine (h.qc.set 0 _).congr fun i hi => ?_
    obtain rfl : i = 0 := by omega
    simp
  · have hsz := h.q.sz
    have hq1 : QG w0 g (if c = 1 then o else o + 1) (c - 1) Q cur vs2 w := by
      refine ⟨by omega, by have := h.q.lim; omega, h.q.hp, by split <;> omega, by simpa using hln, ?_, ?_⟩
      · intro j hj
        have h9 := h.q.el (j + 1) (by rw [List.length_cons]; omega)
        rw [if_neg (by omega), show o + 1 + j = o + (j + 1) by omega, h9]
        rfl
      · intro j hj
        exact h.q.ro (j + 1) (by rw [List.length_cons]; omega)
    exact hq1.keep k2 (fun _ _ => rfl) (fun _ _ => rfl)
theorem okPts : ElemOk 53 22 1 24 (.slice none 0 0) := ⟨Try.underlying53, by kernel_rfl, rfl, by omega⟩
theorem setCells_one (w : World) (b off : Nat) (u : Value) : w.setCells b off [u] = w.setCell ⟨b, off, none⟩ u := by
  simp [World.setCells]
/-- 'append(todo, back)', in a round. -/
theorem wpAppQ {l N : Nat} {ops : Array Oper} {rest : List Oper} {op : Oper} {a : Act} {K : Exit → Act → World → Prop} (hgd : op.guard = none) (s x : Operand) (ho : op.op = .call { callee := .builtin .append, args := #[s, x], argTypes := #[53, 53] })
    (h : FI pb fb qb mb ta tn tc sl E Q g o c cur vs w0 w) {A : Option Addr} {n m B : Nat} {q : List Int} (hq : EL w0 w (.slice A n m) q) (hs : a.eval s = .slice (some ⟨g, o, none⟩) Q.length c) (hx : a.eval x = .slice (some ⟨B, 0, none⟩) 1 1) (hc : w.cell? ⟨B, 0, none⟩ = some (.slice A n m)) (hn : Q.length ≤ 1000000) {ab tb nb : Nat} {av : Value} {sa : List Int} (hA : AT ab g tb nb av sa w0 w)
    (hK : ∀ g' o' c' cur' vs' w', FI pb fb qb mb ta tn tc sl E (Q ++ [q]) g' o' c' cur' vs' w0 (w'.setCell ⟨qb, 0, none⟩ (.slice (some ⟨g', o', none⟩) (Q.length + 1) c')) → AT ab g' tb nb av sa w0 (w'.setCell ⟨qb, 0, none⟩ (.slice (some ⟨g', o', none⟩) (Q.length + 1) c')) → w'.cell? ⟨qb, 0, none⟩ = some (.slice (some ⟨g, o, none⟩) Q.length c) → w'.frozen? ⟨qb, 0, none⟩ = false → LtW qb w' →
      KeepsOthers w w' → wpListIn (Fence.wide.inRound l) N Try.prog ops K rest (a.put op.dst (.slice (some ⟨g', o', none⟩) (Q.length + 1) c')) w') :
    wpListIn (Fence.wide.inRound l) N Try.prog ops K (op :: rest) a w := by
  obtain ⟨h2, h3, h4, h5⟩ := okPts
  obtain ⟨i0, hi, hz0, hz1, hz2⟩ := info_parts h3
  refine wpListIn_plain hgd fun K' hK' => ?_
  refine wpIn_of_wp (fun c e => by rw [ho] at e; cases e) ?_
  have hln := h.q.ln
  have hne : Below w.heap.size w w := Below.refl _ _
  by_cases hr : Q.length + 1 ≤ c
  · have hfr := h.q.frozen (o + Q.length)
    have hcl : (w.cell? ⟨g, o + Q.length, none⟩).isSome = true := by
      have hsz := h.q.sz
      simp only [World.cell?, h.q.hp]
      rw [Array.getElem?_eq_getElem (by omega)]
      rfl
    have hrun := run_append_room_cells (P := Try.prog) w 53 op.type 22 i0 h2 hi g o Q.length c ⟨B, 0, none⟩ 1 1 [.slice A n m] (by rw [hz1]; rfl) (fun j u hj => by
      have hj0 : j = 0 := by
        have := (List.getElem?_eq_some_iff.1 hj).1
        simpa using this
      subst hj0
      simp at hj
      subst hj
      exact hc) (fun u hu => by simp at hu; subst hu; rfl) hr (fun j hj => by
        simp at hj
        subst hj
        rw [hz1, Nat.mul_one, Nat.add_zero]; exact hcl) (fun j hj => by
        simp at hj
        subst hj
        rw [hz1, Nat.mul_one, Nat.add_zero]; exact hfr)
    rw [hz1, Nat.mul_one, setCells_one] at hrun
    have k1 : TyO Bg w (w.setCell ⟨g, o + Q.length, none⟩ (.slice A n m)) := TyO.setCell h.q.hp rfl
    have hqc := k1.row h.qc (fun _ _ => rfl)
    have hqc2 := hqc
    obtain ⟨cq, eq_, _⟩ := hqc2
    have hA2 : AT ab g tb nb av sa w0 (w.setCell ⟨g, o + Q.length, none⟩ (.slice A n m)) := ⟨k1.row hA.tb (fun _ _ => rfl), hA.row.setOther hA.ne _, hA.ne, hA.el.keep k1 (fun _ _ => rfl), hA.oa⟩
    have hA3 := hA2.keep (TyO.setCell (B := Bq) (i := 0) (u := .slice (some ⟨g, o, none⟩) (Q.length + 1) c) eq_ rfl) (fun _ _ => rfl) (fun _ _ => rfl)
    unfold Oper.wp
    simp [execOp, ho, resolve, invoke, builtin, hs, hx, hrun, Result.andThen]
    exact hK' _ _ (hK g o c _ _ _ (h.pushIn hq hr) hA3 (hqc.cell (i := 0) (by omega)) (hqc.frozen 0) hqc.lt (KeepsOthers.setCell _ _ _))
  · obtain ⟨v', w', hrun, r1, r2⟩ := run_append_arg_grows (P := Try.prog) w 53 op.type 22 i0 (.slice none 0 0) 1 24 h2 hi hz0 hz1 hz2 h4 (by omega) ⟨g, o, none⟩ Q.length c vs (by omega) (fun j u hj => by
      have hjl := (List.getElem?_eq_some_iff.1 hj).1
      rw [Addr.add_lit, h.q.cell (by omega), List.getD_eq_getElem?_getD, hj]
      rfl) ⟨B, 0, none⟩ 1 1 [.slice A n m] rfl (fun j u hj => by
      have hj0 : j = 0 := by
        have := (List.getElem?_eq_some_iff.1 hj).1
        simpa using this
      subst hj0
      simp at hj
      subst hj
      exact hc) (by omega) (by unfold maxLen; omega) (by omega)
    obtain ⟨g', c', cur', rfl, hgl, hfi⟩ := h.pushOut hq r2 r1
    have k1 : TyO (fun _ => false) w w' := TyO.none r2
    have hqc := k1.row h.qc (fun _ _ => rfl)
    have hqc2 := hqc
    obtain ⟨cq, eq_, _⟩ := hqc2
    have hal := hA.row.lt
    have hA2 : AT ab g' tb nb av sa w0 w' := ⟨k1.row hA.tb (fun _ _ => rfl), k1.row hA.row (fun _ _ => rfl), by omega, hA.el.keep k1 (fun _ _ => rfl), hA.oa⟩
    have hA3 := hA2.keep (TyO.setCell (B := Bq) (i := 0) (u := .slice (some ⟨g', 0, none⟩) (Q.length + 1) c') eq_ rfl) (fun _ _ => rfl) (fun _ _ => rfl)
    unfold Oper.wp
    simp [execOp, ho, resolve, invoke, builtin, hs, hx, hrun, Result.andThen]
    exact hK' _ _ (hK g' 0 c' _ _ _ hfi hA3 (hqc.cell (i := 0) (by omega)) (hqc.frozen 0) hqc.lt (KeepsOthers.of_grownBy r2 (fun j ob e => by cases e)))
end
end Go.Proofs.Ytoooihoaapfjeaa

namespace Go.Proofs.Ytoooihoaapfjeaa
open Go.RowKit
set_option linter.unusedVariables false
set_option linter.unusedSimpArgs false
open Go.Shelf
open Ps Go.Maps
attribute [local go_sem] Oper.semAt_some
/-- What was not known is known. -/
theorem FM.store {mb : Nat} {E : List (List Int × Nat)} {w : World} (h : FM mb E w) (s : List Int) (d : Nat) (hk : (-9223372036854775808 ≤ keyZ s ∧ keyZ s ≤ 9223372036854775807)) (hd : d ≤ 9223372036854775807) (hl : E.length ≤ 1000000) (hnew : ∀ e ∈ E, keyZ e.1 ≠ keyZ s) :
    ∃ w', (Instr.mapUpdate 36 (.map (some mb)) (.int .i64 (keyZ s)) (.int .i64 (d : Nat))).run Try.prog w = .ok () w' ∧ FM mb (E ++ [(s, d)]) w' ∧ w.grownBy w' (some mb) := by
  obtain ⟨D, hown, hM, hh, ha⟩ := h
  obtain ⟨w', hrun, hown', hg⟩ := hown.update lawK Try.underlying36 (by unfold maxLen; omega) (keyOfI hk) (plainElem_int (a := (d : Int)) Try.underlying3 (i64wf (by omega)))
  exact ⟨w', hrun, FM.put (w := w) s d hM hh ha hnew (lawK.key (keyOfI hk)) hown', hg⟩
theorem FM.made (w : World) : FM w.heap.size [] (w.alloc (.map #[] 0)) := ⟨.map [], World.ownsMap_made _ _ _ _, isMap_empty, fun k => rfl, fun e he => by simp at he⟩
theorem keyZ_nat (l : List Int) (h : ∀ x ∈ l, 0 ≤ x ∧ x < 12) : l.length ≤ 5 → 0 ≤ keyZ l ∧ keyZ l < 248832 := by
  have key : ∀ n (l : List Int), l.length = n → (∀ x ∈ l, 0 ≤ x ∧ x < 12) → 0 ≤ keyZ l ∧ keyZ l < (12 ^ n : Nat) := by
    intro n
    induction n with
    | zero =>
      intro l hl _
      rw [List.length_eq_zero_iff.1 hl]
      simp [keyZ]
    | succ n ih =>
      intro l hl hb
      obtain ⟨a', x, rfl⟩ : ∃ a' x, l = a' ++ [x] := ⟨l.dropLast, l.getLast (by intro e; rw [e] at hl; cases hl), (List.dropLast_concat_getLast _).symm⟩
      have e1 : keyZ (a' ++ [x]) = keyZ a' * 12 + x := by unfold keyZ; rw [List.foldl_append]; rfl
      have h1 := ih a' (by simpa using hl) (fun z hz => hb z (by simp [hz]))
      have hx := hb x (by simp)
      rw [e1]
      have h2 : (12 ^ (n + 1) : Nat) = 12 ^ n * 12 := by rw [Nat.pow_succ]
      rw [h2]
      generalize 12 ^ n = P at *
      omega
  intro h5
  have h1 := key l.length l rfl h
  have h2 : 12 ^ l.length ≤ 12 ^ 5 := Nat.pow_le_pow_right (by omega) h5
  omega
theorem bfs_len {to : List Int} {sl : Int} {i : Nat} {E : List (List Int × Nat)} (h : In to sl i E) (h5 : to.length ≤ 5) : E.length ≤ 248832 := by
  have hk : ∀ e ∈ E, 0 ≤ keyZ e.1 ∧ keyZ e.1 < 248832 := fun e he => keyZ_nat e.1 (okS_bd (h.ok e he).1) (by rw [(h.ok e he).2]; exact h5)
  have hnd : ((E.map (·.1)).map fun s => (keyZ s).toNat).Nodup := by
    rw [List.nodup_iff_pairwise_ne, List.pairwise_map]
    refine List.Pairwise.imp_of_mem ?_ (List.nodup_iff_pairwise_ne.1 h.nd)
    intro a b ha hb hne e
    obtain ⟨x, hx, rfl⟩ := List.mem_map.1 ha
    obtain ⟨y, hy, rfl⟩ := List.mem_map.1 hb
    have h1 := hk x hx
    have h2 := hk y hy
    exact hne (keyZ_inj _ _ ((h.ok x hx).2.trans (h.ok y hy).2.symm) (okS_bd (h.ok x hx).1) (okS_bd (h.ok y hy).1) (by omega))
  have hsub : ((E.map (·.1)).map fun s => (keyZ s).toNat) ⊆ List.range 248832 := by
    intro k hk2
    obtain ⟨s, hs, rfl⟩ := List.mem_map.1 hk2
    obtain ⟨x, hx, rfl⟩ := List.mem_map.1 hs
    have h1 := hk x hx
    rw [List.mem_range]
    omega
  have := List.Nodup.length_le_of_subset hnd hsub
  simpa using this
theorem rnd_d {to : List Int} {sl : Int} {s : List Int} {d i : Nat} (hd : d ≤ i) : ∀ (l : List (Int × Nat)) (E : List (List Int × Nat)), i < E.length → (∀ j, j < E.length → (E.getD j z).2 ≤ j) → ∀ j, j < (rnd to sl s d E l).length → ((rnd to sl s d E l).getD j z).2 ≤ j
  | [], E, _, h => h
  | p :: l, E, hi, h => by
    refine rnd_d hd l (step1 to sl s d E p) ?_ ?_
    · unfold step1
      split
      · rw [List.length_append]; omega
      · exact hi
    · unfold step1
      split
      · intro j hj
        rw [List.length_append, List.length_singleton] at hj
        by_cases hj2 : j < E.length
        · rw [getD_left hj2]; exact h j hj2
        · obtain rfl : j = E.length := by omega
          rw [getD_last]
          simp only
          omega
      · exact h
theorem bfs_d {to : List Int} {sl : Int} : ∀ i j, j < (bfs to sl i).length → ((bfs to sl i).getD j z).2 ≤ j
  | 0, j, hj => by
    simp [bfs] at hj
    subst hj
    exact Nat.le_refl _
  | i + 1, j, hj => by
    simp only [bfs] at hj ⊢
    by_cases h : i < (bfs to sl i).length
    · rw [if_pos h] at hj ⊢
      exact rnd_d (bfs_d i i h) _ _ h (fun k hk => bfs_d i k hk) j hj
    · rw [if_neg h] at hj ⊢
      exact bfs_d i j hj
theorem rnd_snoc (to : List Int) (sl : Int) (s : List Int) (d : Nat) (E : List (List Int × Nat)) (l : List (Int × Nat)) (p : Int × Nat) : rnd to sl s d E (l ++ [p]) = step1 to sl s d (rnd to sl s d E l) p := by
  unfold rnd
  rw [List.foldl_append]
  rfl
/-- Known or not: by its number. -/
theorem any_key {to : List Int} {sl : Int} {i : Nat} {E : List (List Int × Nat)} (h : In to sl i E) {s : List Int} (hs : okS to sl s) (hl : s.length = to.length) : (E.any fun e => keyZ e.1 == keyZ s) = decide (s ∈ E.map (·.1)) := by
  by_cases hm : s ∈ E.map (·.1)
  · rw [decide_eq_true hm]
    obtain ⟨e, he, rfl⟩ := List.mem_map.1 hm
    exact List.any_eq_true.2 ⟨e, he, by simp⟩
  · rw [decide_eq_false hm]
    refine List.any_eq_false.2 fun e he hk => hm ?_
    have hk : keyZ e.1 = keyZ s := by simpa using hk
    rw [← keyZ_inj _ _ ((h.ok e he).2.trans hl.symm) (okS_bd (h.ok e he).1) (okS_bd hs) hk]
    exact List.mem_map.2 ⟨e, he, rfl⟩
theorem row_one (w : World) (v : Value) (t : TypeId) : (w.alloc (.cells #[v] t)).rowIs w.heap.size t 1 (fun _ => v) :=
  World.rowIs_alloc w #[v] t _ (by
    intro i hi
    have : i = 0 := by simpa using hi
    subst this
    rfl)
/-- Marks among the deferred calls. -/
def mark (D : Nat) : Deferred := { target := .collected D, args := #[] }
def Bdef (o : Obj) : Bool := match o with
  | .deferred _ => true
  | _ => false
structure Marks (n0 : Nat) (Ds : List Nat) (w : World) : Prop where
  df : ∀ D ∈ Ds, w.heap[D]? = some (.deferred (some []))
  nd : Ds.Nodup
  lo : ∀ D ∈ Ds, n0 ≤ D
theorem TyO.putObj {B : Obj → Bool} {w : World} {k : Nat} {o o' : Obj} (ho : w.heap[k]? = some o) (hB : B o = true) : TyO B w (w.putObj k o') := TyO.grown (grownBy_putObj' w k o') ho hB
theorem leaves_marks {F : Fence} {n : Nat} {P : Program} {fn : Func} {tmps : Array Value} {R : Ending → World → Prop} {n0 : Nat} : ∀ (Ds : List Nat) (w : World), Marks n0 Ds w →
    (∀ w', TyO Bdef w w' → Below n0 w w' → LeavesInM F n P fn tmps R [] .returning w') → n0 ≤ w.heap.size → LeavesInM F n P fn tmps R (Ds.map mark) .returning w
  | [], w, _, h, _ => h w ⟨rfl, rfl, rfl, Nat.le_refl _, fun _ _ _ _ => rfl⟩ (Below.refl _ _)
  | D :: Ds, w, hm, h, hle => by
    have hD := hm.df D (by simp)
    have hlt : D < w.heap.size := (Array.getElem?_eq_some_iff.1 hD).1
    have hnd := List.nodup_cons.1 hm.nd
    have hg := grownBy_putObj' w D (.deferred none)
    refine ⟨by simp, .inl ⟨D, _, rfl, run_takeDeferred hD, ?_⟩⟩
    refine leaves_marks Ds _ ⟨fun D' hD' => ?_, hnd.2, fun D' hD' => hm.lo D' (by simp [hD'])⟩ (fun w' h1 h2 => ?_) ?_
    · rw [World.putObj_heap_other (by intro e; subst e; exact hnd.1 hD')]
      exact hm.df D' (by simp [hD'])
    · refine h w' ((TyO.putObj hD rfl).trans h1) ?_
      exact ((Below.refl _ w).grown hg hle (fun k e => by injection e with e; have := hm.lo D (by simp); omega)).trans h2
    · exact Nat.le_trans hle hg.size
theorem Marks.keep {n0 : Nat} {Ds : List Nat} {w w' : World} (h : Marks n0 Ds w) (hk : KeepsFrom n0 w w') : Marks n0 Ds w' := ⟨fun D hD => hk.same D _ (h.lo D hD) (h.df D hD) rfl, h.nd, h.lo⟩
/-- What holds while one way to stand is looked round from. -/
def RI (pb fb qb mb : Nat) (ta : Option Addr) (tn tc : Nat) (to : List Int) (sl : Int) (s : List Int) (d i : Nat) (E : List (List Int × Nat)) (ab tb base : Nat) (av : Value) (Ds : List Nat) (w : World) (n : Nat) (pre : List (Fin (4 * (2 ^ n - 1)))) (W : World) : Prop :=
  ∃ g o c cur vs, FI pb fb qb mb ta tn tc sl (rnd to sl s d E (pre.map fun x => PLv n x.val)) (((rnd to sl s d E (pre.map fun x => PLv n x.val)).map (·.1)).drop (i + 1)) g o c cur vs w W ∧ AT ab g tb n av s w W ∧ Marks base Ds W
theorem TyO.nocells {w w' : World} {row : Option Nat} (hg : w.grownBy w' row) (hr : ∀ r, row = some r → ∃ o : Obj, w.heap[r]? = some o ∧ o.isCells = false) : TyO (fun o => !o.isCells) w w' := by
  cases row with
  | none => exact TyO.none hg
  | some r =>
    obtain ⟨o, ho, hc⟩ := hr r rfl
    exact TyO.grown hg ho (by simp [hc])
theorem Marks.kept {n0 : Nat} {Ds : List Nat} {w w' : World} {row : Option Nat} (h : Marks n0 Ds w) (hg : w.grownBy w' row) (hr : ∀ r, row = some r → ∀ D ∈ Ds, D ≠ r) : Marks n0 Ds w' :=
  ⟨fun D hD => (hg.block D (Array.getElem?_eq_some_iff.1 (h.df D hD)).1 (fun e => hr D e.symm D hD rfl)).trans (h.df D hD), h.nd, h.lo⟩
theorem RI.kept {pb fb qb mb : Nat} {ta : Option Addr} {tn tc : Nat} {to : List Int} {sl : Int} {s : List Int} {d i : Nat} {E : List (List Int × Nat)} {ab tb base : Nat} {av : Value} {Ds : List Nat} {w : World} {n : Nat} {pre : List (Fin (4 * (2 ^ n - 1)))} {A B : World} {row : Option Nat}
    (h : RI pb fb qb mb ta tn tc to sl s d i E ab tb base av Ds w n pre A) (hg : A.grownBy B row) (hr : ∀ r, row = some r → (w.heap.size ≤ r ∧ r ≠ mb ∧ ∃ o : Obj, A.heap[r]? = some o ∧ o.isCells = false) ∧ ∀ D ∈ Ds, D ≠ r) : RI pb fb qb mb ta tn tc to sl s d i E ab tb base av Ds w n pre B := by
  obtain ⟨g, o, c, cur, vs, h1, h2, h3⟩ := h
  exact ⟨g, o, c, cur, vs, h1.kept hg (fun r e => (hr r e).1), h2.keep (TyO.nocells hg (fun r e => (hr r e).1.2.2)) (fun _ _ => rfl) (fun _ _ => rfl), h3.kept hg (fun r e => (hr r e).2)⟩
theorem RI.grow {pb fb qb mb : Nat} {ta : Option Addr} {tn tc : Nat} {to : List Int} {sl : Int} {s : List Int} {d i : Nat} {E : List (List Int × Nat)} {ab tb base : Nat} {av : Value} {Ds : List Nat} {w : World} {n : Nat} {pre : List (Fin (4 * (2 ^ n - 1)))} {A B : World}
    (h : RI pb fb qb mb ta tn tc to sl s d i E ab tb base av Ds w n pre A) (hb : Below A.heap.size A B) : RI pb fb qb mb ta tn tc to sl s d i E ab tb base av Ds w n pre B := by
  obtain ⟨g, o, c, cur, vs, h1, h2, h3⟩ := h
  exact ⟨g, o, c, cur, vs, h1.grow hb, h2.keep (TyO.below (B := fun _ => false) hb) (fun _ _ => rfl) (fun _ _ => rfl), h3.keep ((keepsOthers_of_below hb).from _)⟩
theorem keepsFrom_up {B B' : Nat} {w w' : World} (h : KeepsFrom B w w') (hb : B ≤ B') : KeepsFrom B' w w' := ⟨h.size, fun k o hk => h.same k o (Nat.le_trans hb hk)⟩
def psF (p : Int × Nat) : Nat → Value := fun j => if j = 0 then .int .i64 (p.1) else .int .i64 ((p.2 : Nat))
theorem psF_alloc (w : World) (p : Int × Nat) : (w.alloc (.cells #[.int .i64 (p.1), .int .i64 ((p.2 : Nat))] 43)).rowIs w.heap.size 43 2 (psF p) :=
  World.rowIs_alloc w #[.int .i64 (p.1), .int .i64 ((p.2 : Nat))] 43 _ (by
    intro i hi
    have hi2 : i = 0 ∨ i = 1 := by simp at hi; omega
    rcases hi2 with rfl | rfl <;> rfl)
theorem any_region_ext {Q : Exit → Act → World → Prop} {a : Act} {w : World} {l : List Oper} (hB : Region.lexB .any l.toArray = true)
    (h : wpQuiet Try.prog l.toArray (fun w' => ∃ E d, w' = extW w E d) (fun a' => ∀ E d, Q .normal a' (extW w E d)) l a) : wpAny Try.prog .any l.toArray Q l.toArray.size (Array.replicate l.toArray.size false) a { w with drawn := w.drawn + 1 } := by
  simp only [Region.lexB, Bool.and_eq_true] at hB
  refine wpAny_of_quiet (C := fun w' => ∃ E d, w' = extW w E d) (Q := fun a' => ∀ E d, Q .normal a' (extW w E d)) (fun _ w' ⟨E, d, e⟩ h => e ▸ h E d) _ _ _ _ ⟨#[], w.drawn + 1, by rw [extW_self]⟩ ?_
  have := wpAnyQ_lex (C := fun w' => ∃ E d, w' = extW w E d) (md := .any) hB.1 l.toArray.toList 0 (Array.replicate l.toArray.size false) a (by simp) (by simpa using hB.2) (by simpa using h)
  simpa using this
end Go.Proofs.Ytoooihoaapfjeaa
