/- Lemmas and contracts of functions (what each call returns, and that it changes nothing that was there) that the proof of a law of this seat uses; each lemma states its own conditions. -/
import Derived.Test.YtoooihoaapfjeaaEfM
import Derived.Test.YtoooihoaapfjeaaAppV
import Derived.Test.YtoooihoaapfjeaaRegX
import Derived.Test.YtoooihoaapfjeaaFB
namespace Go.Proofs.Ytoooihoaapfjeaa
open Go.RowKit
set_option linter.unusedVariables false
set_option linter.unusedSimpArgs false
theorem okI8 : ElemOk 22 3 1 8 (.int .i64 0) := ⟨Try.underlying22, by kernel_rfl, rfl, by omega⟩
def i64v (x : Int) : Value := .int .i64 x
theorem ints_cells {w : World} {A : Option Addr} {n : Nat} {l : List Int} (h : IsInts w A n l) (hn : 0 < n) : ∃ b of, A = some ⟨b, of, none⟩ ∧ ∀ j u, (l.map i64v)[j]? = some u → w.cell? ⟨b, of + j, none⟩ = some u := by
  obtain ⟨b, o, e, _, hc⟩ := h.2 hn
  refine ⟨b, o, e, fun j u hj => ?_⟩
  have hjl : j < l.length := by
    have := (List.getElem?_eq_some_iff.1 hj).1
    simpa using this
  rw [hc j (by rw [← h.1]; exact hjl)]
  rw [List.getElem?_map, List.getElem?_eq_getElem hjl] at hj
  rw [show l.getD j 0 = l[j] by simp [List.getD, hjl]]
  exact hj
theorem ints_one (l : List Int) : ∀ u ∈ l.map i64v, u.oneCell' = true := by
  intro u hu
  obtain ⟨b, _, rfl⟩ := List.mem_map.1 hu
  rfl
theorem ints_owns {w : World} {base : Nat} {v : Value} {L : List Int} (h : w.ownsRow base 3 1 v L.length (L.map i64v)) : ∃ a c, v = .slice a L.length c ∧ IsInts w a L.length L ∧ (a = none → c = 0) ∧ (∀ b o, a = some ⟨b, o, none⟩ → base ≤ b) := by
  rcases h.2 with ⟨e, e0⟩ | ⟨gb, cap, cur, e, hb, hg, h1, h2, h3, h4⟩
  · exact ⟨none, 0, by rw [e, e0], ⟨rfl, fun hn => by omega⟩, fun _ => rfl, fun b o e => by cases e⟩
  · refine ⟨_, _, e, ⟨rfl, fun _ => ⟨gb, 0, rfl, (Array.getElem?_eq_some_iff.1 hg).1, fun j hj => ?_⟩⟩, (fun e => by cases e), fun b o e => by cases e; exact hb⟩
    have h5 : cur[j]? = some (i64v (L.getD j 0)) := by
      rw [← Array.getElem?_toList, ← List.getElem?_take_of_lt (show j < L.length * 1 by omega), h4, List.getElem?_map, List.getElem?_eq_getElem hj]
      simp [List.getD, hj]
    simp [World.cell?, hg, h5, i64v]
/-- A list of integers, made by the call. -/
def IPost (L : List Int) (w : World) (r : Ending) (w' : World) : Prop := ∃ A C, r = .returned (.slice A L.length C) ∧ w'.ownsRow w.heap.size 3 1 (.slice A L.length C) L.length (L.map i64v) ∧ Below w.heap.size w w'
theorem owns_empty (w : World) (base : Nat) (hb : base ≤ w.heap.size) : (w.alloc (.cells #[] 3)).ownsRow base 3 1 (.slice (some ⟨w.heap.size, 0, none⟩) 0 0) 0 [] :=
  ⟨rfl, .inr ⟨w.heap.size, 0, #[], rfl, hb, heap_alloc_new w _, Nat.le_refl _, by unfold maxLen; omega, rfl, rfl⟩⟩
set_option maxRecDepth 100000 in
set_option maxHeartbeats 8000000 in
theorem clone_nil (c : Nat) (w : World) : Calls Try.prog 28 #[.slice none 0 c] w fun e w' => e = .returned (.slice none 0 0) ∧ Below w.heap.size w w' := by
  go_enter Try.func28, Try.ntmps28
  have hq := fun w : World => Go.Lib.run_eql_slice_nil (P := Try.prog) w 22 3 none 0 c 0 0 Try.underlying22
  go_wp2
  go_ret
  exact ⟨rfl, (by repeat (first | exact Below.refl _ _ | refine Below.drew ?_ | refine below_drewN ?_ _ | refine Below.alloc ?_ (by first | exact Nat.le_refl _ | (simp; done) | (simp; omega) | omega) _ | refine Below.setCell ?_ (by first | exact Nat.le_refl _ | (simp; done) | (simp; omega) | omega) _ | refine bExtW ?_ (by first | exact Nat.le_refl _ | (simp; done) | (simp; omega) | omega) | refine Below.trans ?_ (Below.mono (by assumption) (by first | exact Nat.le_refl _ | (simp; done) | (simp; omega) | omega))))⟩
set_option maxRecDepth 100000 in
set_option maxHeartbeats 8000000 in
theorem clone_some (ad : Addr) (n c : Nat) (l : List Int) (w : World) (hI : IsInts w (some ad) n l) (hn : n ≤ 1000000000) : Calls Try.prog 28 #[.slice (some ad) n c] w (IPost l w) := by
  have hl := hI.1
  subst hl
  have HI := Lib.hid hI
  clear hI
  go_enter Try.func28, Try.ntmps28
  have hq := fun w : World => Go.Lib.run_eql_slice_nil (P := Try.prog) w 22 3 (some ad) l.length c 0 0 Try.underlying22
  go_wp2_with (at_builtin; refine wpAppV okI8 rfl (.tmp 5) (.tmp 6) rfl w.heap.size _ 0 [] (some ad) l.length c (l.map i64v) rfl (owns_empty w _ (Nat.le_refl _)) rfl (fun e => by cases e) (by simp) (ints_cells (HI.out.below (Below.alloc (Below.refl _ _) (Nat.le_refl _) _))) (ints_one l) (by omega) (by omega) (by simp) ?_)
  intro v' w2 hown2 hg2 hat2
  obtain ⟨A, C, rfl⟩ := own_form hown2
  have hb2 : Below w.heap.size w w2 := Below.trans (Below.alloc (Below.refl _ _) (Nat.le_refl _) _) (belowGrown hg2 (by simp) (fun k hk => by simp [Value.ownBlock] at hk; omega))
  have HO := Lib.hid hown2; have HB := Lib.hid hb2
  clear hown2 hg2 hat2 hb2
  go_wp2
  go_ret
  unfold IPost
  refine ⟨A, C, by simp, ?_, HB.out⟩
  have := HO.out
  simpa using this
theorem clone_any (a : Option Addr) (n c : Nat) (l : List Int) (w : World) (hI : IsInts w a n l) (hn : n ≤ 1000000000) : Calls Try.prog 28 #[.slice a n c] w (IPost l w) := by
  cases a with
  | some ad => exact clone_some ad n c l w hI hn
  | none =>
    have h0 : n = 0 := by
      rcases Nat.eq_zero_or_pos n with h | h
      · exact h
      · obtain ⟨_, _, e, _⟩ := hI.2 h; cases e
    subst h0
    obtain rfl : l = [] := List.length_eq_zero_iff.1 hI.1
    refine (clone_nil c w).mono ?_
    rintro r w' ⟨rfl, hb⟩
    exact ⟨none, 0, rfl, World.ownsRow_nil _ _ _ _, hb⟩
/-- The cells of a picture. -/
def picF (W H : Nat) (ca : Option Addr) (cn cc : Nat) (v : Value) : Nat → Value := fun j => if j = 0 then .int .i64 4 else if j = 1 then .int .i64 (W : Int) else if j = 2 then .int .i64 (H : Int) else if j = 3 then .slice ca cn cc else v
def atV (o : Option Int) : Value := match o with
  | none => .tuple #[.int .i64 0, .bool false]
  | some v => .tuple #[.int .i64 v, .bool true]
end Go.Proofs.Ytoooihoaapfjeaa
