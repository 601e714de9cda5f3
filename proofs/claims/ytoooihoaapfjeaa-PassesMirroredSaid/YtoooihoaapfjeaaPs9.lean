/- Chapter 13: what far's walk asks besides: stores, marks, how many ways to stand there are. -/
import Derived.Test.YtoooihoaapfjeaaPs8
import Derived.RangeFuncWrites
namespace Go.Proofs.Ytoooihoaapfjeaa
open Go.RowKit
set_option linter.unusedVariables false
set_option linter.unusedSimpArgs false
open Go.Shelf
open Ps Go.Maps
attribute [local go_sem] Oper.semAt_some
/-- What was not known is known. -/
theorem FM.store {mb : Nat} {E : List (List Int × Nat)} {w : World} (h : FM mb E w) (s : List Int) (d : Nat) (hk : (-9223372036854775808 ≤ keyZ s ∧ keyZ s ≤ 9223372036854775807)) (hd : d ≤ 9223372036854775807) (hl : E.length ≤ 1000000) (hnew : ∀ e ∈ E, keyZ e.1 ≠ keyZ s) :
    ∃ w', (Instr.mapUpdate 36 (.map (some mb)) (.int .i64 (keyZ s)) (.int .i64 (d : Nat))).run Try.prog w = .ok () w' ∧ FM mb (E ++ [(s, d)]) w' ∧ w.grownBy w' (some mb) := by
  obtain ⟨D, hown, hM, hh, ha⟩ := h
  obtain ⟨w', hrun, hown', hg⟩ := hown.update lawK Try.underlying36 (by unfold maxLen; omega) (keyOfI hk) (plainElem_int (a := (d : Int)) Try.underlying3 (i64wf (by omega)))
  exact ⟨w', hrun, FM.put (w := w) s d hM hh ha hnew (lawK.key (keyOfI hk)) hown', hg⟩
theorem FM.made (w : World) : FM w.heap.size [] (w.alloc (.map #[] 0)) := ⟨.map [], World.ownsMap_made _ _ _ _, isMap_empty, fun k => rfl, fun e he => by simp at he⟩
theorem keyZ_nat (l : List Int) (h : ∀ x ∈ l, 0 ≤ x ∧ x < 12) : l.length ≤ 5 → 0 ≤ keyZ l ∧ keyZ l < 248832 := by
  have key : ∀ n (l : List Int), l.length = n → (∀ x ∈ l, 0 ≤ x ∧ x < 12) → 0 ≤ keyZ l ∧ keyZ l < (12 ^ n : Nat) := by
    intro n
    induction n with
    | zero =>
      intro l hl _
      rw [List.length_eq_zero_iff.1 hl]
      simp [keyZ]
    | succ n ih =>
      intro l hl hb
      obtain ⟨a', x, rfl⟩ : ∃ a' x, l = a' ++ [x] := ⟨l.dropLast, l.getLast (by intro e; rw [e] at hl; cases hl), (List.dropLast_concat_getLast _).symm⟩
      have e1 : keyZ (a' ++ [x]) = keyZ a' * 12 + x := by unfold keyZ; rw [List.foldl_append]; rfl
      have h1 := ih a' (by simpa using hl) (fun z hz => hb z (by simp [hz]))
      have hx := hb x (by simp)
      rw [e1]
      have h2 : (12 ^ (n + 1) : Nat) = 12 ^ n * 12 := by rw [Nat.pow_succ]
      rw [h2]
      generalize 12 ^ n = P at *
      omega
  intro h5
  have h1 := key l.length l rfl h
  have h2 : 12 ^ l.length ≤ 12 ^ 5 := Nat.pow_le_pow_right (by omega) h5
  omega
theorem bfs_len {to : List Int} {sl : Int} {i : Nat} {E : List (List Int × Nat)} (h : In to sl i E) (h5 : to.length ≤ 5) : E.length ≤ 248832 := by
  have hk : ∀ e ∈ E, 0 ≤ keyZ e.1 ∧ keyZ e.1 < 248832 := fun e he => keyZ_nat e.1 (okS_bd (h.ok e he).1) (by rw [(h.ok e he).2]; exact h5)
  have hnd : ((E.map (·.1)).map fun s => (keyZ s).toNat).Nodup := by
    rw [List.nodup_iff_pairwise_ne, List.pairwise_map]
    refine List.Pairwise.imp_of_mem ?_ (List.nodup_iff_pairwise_ne.1 h.nd)
    intro a b ha hb hne e
    obtain ⟨x, hx, rfl⟩ := List.mem_map.1 ha
    obtain ⟨y, hy, rfl⟩ := List.mem_map.1 hb
    have h1 := hk x hx
    have h2 := hk y hy
    exact hne (keyZ_inj _ _ ((h.ok x hx).2.trans (h.ok y hy).2.symm) (okS_bd (h.ok x hx).1) (okS_bd (h.ok y hy).1) (by omega))
  have hsub : ((E.map (·.1)).map fun s => (keyZ s).toNat) ⊆ List.range 248832 := by
    intro k hk2
    obtain ⟨s, hs, rfl⟩ := List.mem_map.1 hk2
    obtain ⟨x, hx, rfl⟩ := List.mem_map.1 hs
    have h1 := hk x hx
    rw [List.mem_range]
    omega
  have := List.Nodup.length_le_of_subset hnd hsub
  simpa using this
theorem rnd_d {to : List Int} {sl : Int} {s : List Int} {d i : Nat} (hd : d ≤ i) : ∀ (l : List (Int × Nat)) (E : List (List Int × Nat)), i < E.length → (∀ j, j < E.length → (E.getD j z).2 ≤ j) → ∀ j, j < (rnd to sl s d E l).length → ((rnd to sl s d E l).getD j z).2 ≤ j
  | [], E, _, h => h
  | p :: l, E, hi, h => by
    refine rnd_d hd l (step1 to sl s d E p) ?_ ?_
    · unfold step1
      split
      · rw [List.length_append]; omega
      · exact hi
    · unfold step1
      split
      · intro j hj
        rw [List.length_append, List.length_singleton] at hj
        by_cases hj2 : j < E.length
        · rw [getD_left hj2]; exact h j hj2
        · obtain rfl : j = E.length := by omega
          rw [getD_last]
          simp only
          omega
      · exact h
theorem bfs_d {to : List Int} {sl : Int} : ∀ i j, j < (bfs to sl i).length → ((bfs to sl i).getD j z).2 ≤ j
  | 0, j, hj => by
    simp [bfs] at hj
    subst hj
    exact Nat.le_refl _
  | i + 1, j, hj => by
    simp only [bfs] at hj ⊢
    by_cases h : i < (bfs to sl i).length
    · rw [if_pos h] at hj ⊢
      exact rnd_d (bfs_d i i h) _ _ h (fun k hk => bfs_d i k hk) j hj
    · rw [if_neg h] at hj ⊢
      exact bfs_d i j hj
theorem rnd_snoc (to : List Int) (sl : Int) (s : List Int) (d : Nat) (E : List (List Int × Nat)) (l : List (Int × Nat)) (p : Int × Nat) : rnd to sl s d E (l ++ [p]) = step1 to sl s d (rnd to sl s d E l) p := by
  unfold rnd
  rw [List.foldl_append]
  rfl
/-- Known or not: by its number. -/
theorem any_key {to : List Int} {sl : Int} {i : Nat} {E : List (List Int × Nat)} (h : In to sl i E) {s : List Int} (hs : okS to sl s) (hl : s.length = to.length) : (E.any fun e => keyZ e.1 == keyZ s) = decide (s ∈ E.map (·.1)) := by
  by_cases hm : s ∈ E.map (·.1)
  · rw [decide_eq_true hm]
    obtain ⟨e, he, rfl⟩ := List.mem_map.1 hm
    exact List.any_eq_true.2 ⟨e, he, by simp⟩
  · rw [decide_eq_false hm]
    refine List.any_eq_false.2 fun e he hk => hm ?_
    have hk : keyZ e.1 = keyZ s := by simpa using hk
    rw [← keyZ_inj _ _ ((h.ok e he).2.trans hl.symm) (okS_bd (h.ok e he).1) (okS_bd hs) hk]
    exact List.mem_map.2 ⟨e, he, rfl⟩
theorem row_one (w : World) (v : Value) (t : TypeId) : (w.alloc (.cells #[v] t)).rowIs w.heap.size t 1 (fun _ => v) :=
  World.rowIs_alloc w #[v] t _ (by
    intro i hi
    have : i = 0 := by simpa using hi
    subst this
    rfl)
/-- Marks among the deferred calls. -/
def mark (D : Nat) : Deferred := { target := .collected D, args := #[] }
def Bdef (o : Obj) : Bool := match o with
  | .deferred _ => true
  | _ => false
structure Marks (n0 : Nat) (Ds : List Nat) (w : World) : Prop where
  df : ∀ D ∈ Ds, w.heap[D]? = some (.deferred (some []))
  nd : Ds.Nodup
  lo : ∀ D ∈ Ds, n0 ≤ D
theorem TyO.putObj {B : Obj → Bool} {w : World} {k : Nat} {o o' : Obj} (ho : w.heap[k]? = some o) (hB : B o = true) : TyO B w (w.putObj k o') := TyO.grown (grownBy_putObj' w k o') ho hB
theorem leaves_marks {F : Fence} {n : Nat} {P : Program} {fn : Func} {tmps : Array Value} {R : Ending → World → Prop} {n0 : Nat} : ∀ (Ds : List Nat) (w : World), Marks n0 Ds w →
    (∀ w', TyO Bdef w w' → Below n0 w w' → LeavesInM F n P fn tmps R [] .returning w') → n0 ≤ w.heap.size → LeavesInM F n P fn tmps R (Ds.map mark) .returning w
  | [], w, _, h, _ => h w ⟨rfl, rfl, rfl, Nat.le_refl _, fun _ _ _ _ => rfl⟩ (Below.refl _ _)
  | D :: Ds, w, hm, h, hle => by
    have hD := hm.df D (by simp)
    have hlt : D < w.heap.size := (Array.getElem?_eq_some_iff.1 hD).1
    have hnd := List.nodup_cons.1 hm.nd
    have hg := grownBy_putObj' w D (.deferred none)
    refine ⟨by simp, .inl ⟨D, _, rfl, run_takeDeferred hD, ?_⟩⟩
    refine leaves_marks Ds _ ⟨fun D' hD' => ?_, hnd.2, fun D' hD' => hm.lo D' (by simp [hD'])⟩ (fun w' h1 h2 => ?_) ?_
    · rw [World.putObj_heap_other (by intro e; subst e; exact hnd.1 hD')]
      exact hm.df D' (by simp [hD'])
    · refine h w' ((TyO.putObj hD rfl).trans h1) ?_
      exact ((Below.refl _ w).grown hg hle (fun k e => by injection e with e; have := hm.lo D (by simp); omega)).trans h2
    · exact Nat.le_trans hle hg.size
theorem Marks.keep {n0 : Nat} {Ds : List Nat} {w w' : World} (h : Marks n0 Ds w) (hk : KeepsFrom n0 w w') : Marks n0 Ds w' := ⟨fun D hD => hk.same D _ (h.lo D hD) (h.df D hD) rfl, h.nd, h.lo⟩
/-- What holds while one way to stand is looked round from. -/
def RI (pb fb qb mb : Nat) (ta : Option Addr) (tn tc : Nat) (to : List Int) (sl : Int) (s : List Int) (d i : Nat) (E : List (List Int × Nat)) (ab tb base : Nat) (av : Value) (Ds : List Nat) (w : World) (n : Nat) (pre : List (Fin (4 * (2 ^ n - 1)))) (W : World) : Prop :=
  ∃ g o c cur vs, FI pb fb qb mb ta tn tc sl (rnd to sl s d E (pre.map fun x => PLv n x.val)) (((rnd to sl s d E (pre.map fun x => PLv n x.val)).map (·.1)).drop (i + 1)) g o c cur vs w W ∧ AT ab g tb n av s w W ∧ Marks base Ds W
theorem TyO.nocells {w w' : World} {row : Option Nat} (hg : w.grownBy w' row) (hr : ∀ r, row = some r → ∃ o : Obj, w.heap[r]? = some o ∧ o.isCells = false) : TyO (fun o => !o.isCells) w w' := by
  cases row with
  | none => exact TyO.none hg
  | some r =>
    obtain ⟨o, ho, hc⟩ := hr r rfl
    exact TyO.grown hg ho (by simp [hc])
theorem Marks.kept {n0 : Nat} {Ds : List Nat} {w w' : World} {row : Option Nat} (h : Marks n0 Ds w) (hg : w.grownBy w' row) (hr : ∀ r, row = some r → ∀ D ∈ Ds, D ≠ r) : Marks n0 Ds w' :=
  ⟨fun D hD => (hg.block D (Array.getElem?_eq_some_iff.1 (h.df D hD)).1 (fun e => hr D e.symm D hD rfl)).trans (h.df D hD), h.nd, h.lo⟩
theorem RI.kept {pb fb qb mb : Nat} {ta : Option Addr} {tn tc : Nat} {to : List Int} {sl : Int} {s : List Int} {d i : Nat} {E : List (List Int × Nat)} {ab tb base : Nat} {av : Value} {Ds : List Nat} {w : World} {n : Nat} {pre : List (Fin (4 * (2 ^ n - 1)))} {A B : World} {row : Option Nat}
    (h : RI pb fb qb mb ta tn tc to sl s d i E ab tb base av Ds w n pre A) (hg : A.grownBy B row) (hr : ∀ r, row = some r → (w.heap.size ≤ r ∧ r ≠ mb ∧ ∃ o : Obj, A.heap[r]? = some o ∧ o.isCells = false) ∧ ∀ D ∈ Ds, D ≠ r) : RI pb fb qb mb ta tn tc to sl s d i E ab tb base av Ds w n pre B := by
  obtain ⟨g, o, c, cur, vs, h1, h2, h3⟩ := h
  exact ⟨g, o, c, cur, vs, h1.kept hg (fun r e => (hr r e).1), h2.keep (TyO.nocells hg (fun r e => (hr r e).1.2.2)) (fun _ _ => rfl) (fun _ _ => rfl), h3.kept hg (fun r e => (hr r e).2)⟩
theorem RI.grow {pb fb qb mb : Nat} {ta : Option Addr} {tn tc : Nat} {to : List Int} {sl : Int} {s : List Int} {d i : Nat} {E : List (List Int × Nat)} {ab tb base : Nat} {av : Value} {Ds : List Nat} {w : World} {n : Nat} {pre : List (Fin (4 * (2 ^ n - 1)))} {A B : World}
    (h : RI pb fb qb mb ta tn tc to sl s d i E ab tb base av Ds w n pre A) (hb : Below A.heap.size A B) : RI pb fb qb mb ta tn tc to sl s d i E ab tb base av Ds w n pre B := by
  obtain ⟨g, o, c, cur, vs, h1, h2, h3⟩ := h
  exact ⟨g, o, c, cur, vs, h1.grow hb, h2.keep (TyO.below (B := fun _ => false) hb) (fun _ _ => rfl) (fun _ _ => rfl), h3.keep ((keepsOthers_of_below hb).from _)⟩
theorem keepsFrom_up {B B' : Nat} {w w' : World} (h : KeepsFrom B w w') (hb : B ≤ B') : KeepsFrom B' w w' := ⟨h.size, fun k o hk => h.same k o (Nat.le_trans hb hk)⟩
def psF (p : Int × Nat) : Nat → Value := fun j => if j = 0 then .int .i64 (p.1) else .int .i64 ((p.2 : Nat))
theorem psF_alloc (w : World) (p : Int × Nat) : (w.alloc (.cells #[.int .i64 (p.1), .int .i64 ((p.2 : Nat))] 43)).rowIs w.heap.size 43 2 (psF p) :=
  World.rowIs_alloc w #[.int .i64 (p.1), .int .i64 ((p.2 : Nat))] 43 _ (by
    intro i hi
    have hi2 : i = 0 ∨ i = 1 := by simp at hi; omega
    rcases hi2 with rfl | rfl <;> rfl)
theorem any_region_ext {Q : Exit → Act → World → Prop} {a : Act} {w : World} {l : List Oper} (hB : Region.lexB .any l.toArray = true)
    (h : wpQuiet Try.prog l.toArray (fun w' => ∃ E d, w' = extW w E d) (fun a' => ∀ E d, Q .normal a' (extW w E d)) l a) : wpAny Try.prog .any l.toArray Q l.toArray.size (Array.replicate l.toArray.size false) a { w with drawn := w.drawn + 1 } := by
  simp only [Region.lexB, Bool.and_eq_true] at hB
  refine wpAny_of_quiet (C := fun w' => ∃ E d, w' = extW w E d) (Q := fun a' => ∀ E d, Q .normal a' (extW w E d)) (fun _ w' ⟨E, d, e⟩ h => e ▸ h E d) _ _ _ _ ⟨#[], w.drawn + 1, by rw [extW_self]⟩ ?_
  have := wpAnyQ_lex (C := fun w' => ∃ E d, w' = extW w E d) (md := .any) hB.1 l.toArray.toList 0 (Array.replicate l.toArray.size false) a (by simp) (by simpa using hB.2) (by simpa using h)
  simpa using this
end Go.Proofs.Ytoooihoaapfjeaa
