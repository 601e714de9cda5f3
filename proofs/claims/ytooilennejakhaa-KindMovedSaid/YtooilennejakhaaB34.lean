/- Lemmas and contracts of functions (what each call returns, and that it changes nothing that was there) that the proof of a law of this seat uses; each lemma states its own conditions. -/
import Derived.Test.YtooilennejakhaaB33
namespace Go.Proofs.Ytooilennejakhaa
open Go.RowKit
set_option linter.unusedVariables false
set_option linter.unusedSimpArgs false
open Go.Proofs.Ytooilennejakhaa.Z Go.Maps
def mkW (p : Bool × Bool) : Value := .agg #[.bool p.1, .bool p.2]
theorem invKI (key : Value) (kl : Lit) (h : keyOf Try.prog 3 key = some kl) : ∃ x : Int, key = Value.int .i64 x := by
  obtain ⟨x, rfl, _⟩ := Maps.keyOf_int_inv Try.underlying3 h
  exact ⟨x, rfl⟩
/-- A way, so that no law of Bools takes it apart. -/
structure WV where
  p : Bool × Bool
def mkV (v : WV) : Value := mkW v.p
theorem invVW (v : Value) (y : DataW Unit × List MemPlace) (h : wayR v = some y) : ∃ p : WV, v = mkV p := by
  obtain ⟨p, rfl, _⟩ := wayR_inv h
  exact ⟨⟨p⟩, rfl⟩
/-- A round over the ways: one of them is next. -/
structure RW (mb r n : Nat) (D : DataW Unit) (E : List (Nat × Bool × Bool)) (left : Lit → Bool) (cnt : Nat) (w : World) : Prop where
  rg : w.ranges Try.prog 3 wayR mb r n D left cnt
  at_ : ∀ e ∈ E, ∀ z, D.atKey (.int .i64 ((e.1 : Nat) : Int)) z = .lit (.int .i64 (codeW e.2))
  lf : ∀ k : Int, left (.int .i64 k) = true → ∃ e ∈ E, ((e.1 : Nat) : Int) = k
set_option maxRecDepth 100000 in
set_option maxHeartbeats 8000000 in
theorem RW.next {mb r n : Nat} {D : DataW Unit} {E : List (Nat × Bool × Bool)} {left : Lit → Bool} {cnt cnt' : Nat} {w w' : World} (h : RW mb r n D E left cnt w) {x : Int} {c : Bool × Bool} {kl : Lit} {y : DataW Unit × List MemPlace}
    (hk : keyOf Try.prog 3 (.int .i64 x) = some kl) (hl : left kl = true) (hy : wayR (mkW c) = some y) (hat : ∀ zd, D.atKey kl zd = y.1) (hr : w'.ranges Try.prog 3 wayR mb r n D (fun z => left z && !z.sameKey kl) cnt') :
    kl = .int .i64 x ∧ (∃ t : Nat, x = (t : Int) ∧ (t, c) ∈ E) ∧ RW mb r n D E (fun z => left z && !z.sameKey kl) cnt' w' := by
  obtain ⟨x', e1, rfl, _⟩ := Maps.keyOf_int_inv Try.underlying3 hk
  cases e1
  obtain ⟨e, he, hx⟩ := h.lf x hl
  have h1 := h.at_ e he (.lit (.int .i64 0))
  rw [hx, hat] at h1
  obtain ⟨p, e2, rfl⟩ := wayR_inv hy
  have h2 : codeW p = codeW e.2 := by
    injection h1 with h1
    injection h1
  have h3 := codeW_inj h2
  have h4 : c = p := by
    unfold mkW at e2
    injection e2 with e2
    simp at e2
    exact Prod.ext e2.1 e2.2
  refine ⟨rfl, ⟨e.1, hx.symm, ?_⟩, hr, h.at_, fun k hk => ?_⟩
  · rw [h4, h3]
    exact he
  · rw [Bool.and_eq_true] at hk
    exact h.lf k hk.1
theorem FW.rounds {mb : Nat} {E : List (Nat × Bool × Bool)} {w : World} (h : FW mb E w) : ∃ D : DataW Unit, w.ownsMap Try.prog 3 wayR mb E.length D ∧ ∀ w' r, w'.ranges Try.prog 3 wayR mb r E.length D (Maps.has D) (Maps.size D) → RW mb r E.length D E (Maps.has D) (Maps.size D) w' ∧ (∀ e ∈ E, Maps.has D (.int .i64 ((e.1 : Nat) : Int)) = true) := by
  obtain ⟨D, hown, hT, hh, ha⟩ := h
  refine ⟨D, hown, fun w' r hr => ⟨⟨hr, ha, fun k hk => ?_⟩, fun e he => ?_⟩⟩
  · rw [hh] at hk
    obtain ⟨e, he, h2⟩ := List.any_eq_true.1 hk
    exact ⟨e, he, by simpa using h2⟩
  · rw [hh]
    exact List.any_eq_true.2 ⟨e, he, by simp⟩
set_option maxRecDepth 100000 in
set_option maxHeartbeats 8000000 in
theorem all_any (t : Int) (mb sa uc ub : Nat) (p : Bool × Bool) (E : List (Nat × Bool × Bool)) (w : World) (hf : FW mb E w) :
    Calls Try.prog 20 #[sightV t mb sa uc ub, mkW p] w fun e w' => e = .returned (.bool (decide (∀ e ∈ E, e.2 = p))) ∧ Below w.heap.size w w' := by
  obtain ⟨p1, p2⟩ := p
  have HF := Lib.hid hf
  clear hf
  unfold sightV mkW
  simp only
  go_enter Try.func20, Try.ntmps20
  obtain ⟨D, hown, hrw⟩ := HF.out.rounds
  have hown2 := (hown.alloc (.cells #[.int .i64 t, .map (some mb), .int .i64 (sa : Nat), .int .i64 0, .int .i64 (uc : Nat), .int .i64 (ub : Nat)] 51)).alloc (.cells #[.bool p1, .bool p2] 56)
  have HRW := Lib.hid hrw
  have hb0 : Below w.heap.size w ((w.alloc (.cells #[.int .i64 t, .map (some mb), .int .i64 (sa : Nat), .int .i64 0, .int .i64 (uc : Nat), .int .i64 (ub : Nat)] 51)).alloc (.cells #[.bool p1, .bool p2] 56)) := (by repeat (first | exact Below.refl _ _ | refine Below.drew ?_ | refine below_drewN ?_ _ | refine Below.alloc ?_ (by first | exact Nat.le_refl _ | (simp; done) | (simp; omega) | omega) _ | refine Below.setCell ?_ (by first | exact Nat.le_refl _ | (simp; done) | (simp; omega) | omega) _ | refine bExtW ?_ (by first | exact Nat.le_refl _ | (simp; done) | (simp; omega) | omega) | refine Below.trans ?_ (Below.mono (by assumption) (by first | exact Nat.le_refl _ | (simp; done) | (simp; omega) | omega))))
  have hw0 := row2 (w.alloc (.cells #[.int .i64 t, .map (some mb), .int .i64 (sa : Nat), .int .i64 0, .int .i64 (uc : Nat), .int .i64 (ub : Nat)] 51)) (.bool p1) (.bool p2) 56
  rw [World.size_alloc] at hw0
  have HW0 := Lib.hid hw0; have HB0 := Lib.hid hb0
  clear hrw hw0 hb0
  go_wp2_with (at_range; go_loud (refine wpList_range_own _ rfl _ 47 rfl 3 56 lawKI Try.underlying47 wayR mb E.length D rfl hown2 ?_))
  intro w1 hrg1 hg1 hs1
  have hw1 := (HW0.out.of_block (hg1.block _ (HW0.out.lt) (by simp)))
  have hb1 : Below w.heap.size w w1 := HB0.out.grown hg1 HB0.out.size (fun k e => by cases e)
  try simp only [World.size_alloc] at hrg1
  obtain ⟨hR1, hE1⟩ := HRW.out w1 _ hrg1
  have HR1 := Lib.hid hR1; have HE1 := Lib.hid hE1; have HW1 := Lib.hid hw1; have HB1 := Lib.hid hb1
  clear hw1 hb1 hrg1 hR1 hE1 hg1 hs1 HRW HW0 HB0 hown hown2 HF
  obtain ⟨q, hq⟩ : ∃ q, w.heap.size + 1 = q := ⟨_, rfl⟩
  have HQ : Hid (w.heap.size ≤ q) := Lib.hid (by omega)
  rw [hq] at HR1 HW1 ⊢
  clear hq
  go_wp2_with fail
  go_loopw [] (fun wr => ∃ (left : Lit → Bool) (cnt : Nat), Hid (RW mb (q + 1) E.length D E left cnt wr) ∧ Hid (∀ e ∈ E, left (.int .i64 ((e.1 : Nat) : Int)) = true ∨ e.2 = (p1, p2)) ∧ Hid (wr.rowIs q 56 2 (fun j => if j = 0 then .bool p1 else .bool p2)) ∧ Hid (Below w.heap.size w wr)) (fun wr => wr.rangeLeft mb (q + 1))
  case atStart => exact ⟨_, _, HR1, Lib.hid (fun e he => .inl (HE1.out e he)), HW1, HB1⟩
  case round =>
    clear HR1 HE1 HW1 HB1
    obtain ⟨left, cnt, HR, HL, HW, HB⟩ := hrel
    have hrg := HR.out.rg
    go_wp2_with (at_next; go_loud (refine wpList_next_ranges _ rfl _ rfl 3 lawKI wayR (Value.int .i64) mkV invKI invVW mb (q + 1) E.length D left cnt rfl hrg ?_ ?_))
    · intro hc0 hl0
      have HV : Hid ((decide (∀ e ∈ E, e.2 = (p1, p2))) = true) := Lib.hid (decide_eq_true fun e he => (HL.out e he).resolve_left (by rw [hl0]; simp))
      clear hrg hc0 hl0
      go_wp2
      go_ret
      exact ⟨by rw [HV.out]; rfl, HB.out⟩
    · intro x c kl ya yb w2 cnt2 hkey hlk hv hat hrg2 hlt hg2 hs2 hen
      obtain ⟨⟨c1, c2⟩⟩ := c
      obtain ⟨rfl, ⟨t9, hx, hmem⟩, hR2⟩ := HR.out.next hkey hlk hv hat hrg2
      unfold mkV mkW at hen ⊢
      simp only at hen ⊢
      have hw2 := HW.out.of_block (hg2.block q HW.out.lt (by intro e; injection e; omega))
      have hB2 := HB.out.grown hg2 HB.out.size (fun k e => by injection e with e; have := HQ.out; omega)
      have hR3 : RW mb (q + 1) E.length D E (fun z => left z && !z.sameKey (.int .i64 x)) cnt2 (w2.alloc (.cells #[.bool c1, .bool c2] 56)) := ⟨hR2.rg.alloc _, hR2.at_, hR2.lf⟩
      have hb3 : Below w2.heap.size w2 (w2.alloc (.cells #[.bool c1, .bool c2] 56)) := (by repeat (first | exact Below.refl _ _ | refine Below.drew ?_ | refine below_drewN ?_ _ | refine Below.alloc ?_ (by first | exact Nat.le_refl _ | (simp; done) | (simp; omega) | omega) _ | refine Below.setCell ?_ (by first | exact Nat.le_refl _ | (simp; done) | (simp; omega) | omega) _ | refine bExtW ?_ (by first | exact Nat.le_refl _ | (simp; done) | (simp; omega) | omega) | refine Below.trans ?_ (Below.mono (by assumption) (by first | exact Nat.le_refl _ | (simp; done) | (simp; omega) | omega))))
      have hw3 := rowBelow hw2 hb3 hw2.lt
      have hB3 := hB2.trans (hb3.mono hB2.size)
      have q0 : w2.cell? ⟨q, 0, none⟩ = some (.bool p1) := hw2.cell (i := 0) (by omega)
      have q1 : w2.cell? ⟨q, 1, none⟩ = some (.bool p2) := hw2.cell (i := 1) (by omega)
      have lq : LtW q w2 := hw2.lt
      have HMEM := Lib.hid hmem
      have HME : Hid (wr.rangeLeft mb (q + 1) = cnt ∧ cnt2 < cnt ∧ (w2.alloc (.cells #[.bool c1, .bool c2] 56)).rangeLeft mb (q + 1) = cnt2) := Lib.hid ⟨hrg.left_eq, hlt, hR3.rg.left_eq⟩
      have HL3 : Hid ((c1, c2) = (p1, p2) → ∀ e ∈ E, (left (.int .i64 ((e.1 : Nat) : Int)) && !(Lit.int .i64 ((e.1 : Nat) : Int)).sameKey (.int .i64 x)) = true ∨ e.2 = (p1, p2)) := Lib.hid (fun hcp e he => by
        rcases HL.out e he with h | h
        · by_cases hk : ((e.1 : Nat) : Int) = x
          · right
            have h1 := HR.out.at_ e he (.lit (.int .i64 0))
            have h2 := HR.out.at_ _ hmem (.lit (.int .i64 0))
            simp only at h2
            rw [hk, hx, h2] at h1
            injection h1 with h1
            injection h1 with _ h1
            rw [← hcp]
            exact (codeW_inj h1).symm
          · left
            rw [h, Bool.true_and, sameKey_ne (by intro e2; injection e2 with _ e2; exact hk e2)]
            rfl
        · exact .inr h)
      have HR3 := Lib.hid hR3; have HW3 := Lib.hid hw3; have HB3 := Lib.hid hB3
      clear hR2 hR3 hw2 hw3 hB2 hB3 hb3 hmem hrg hkey hlk hv hat hrg2 hlt hg2 hs2 HR HW HB HL
      by_cases h1 : c1 = p1
      · by_cases h2 : c2 = p2
        · subst h1 h2
          have e1 : (c1 == c1) = true := by simp
          have e2 : (c2 == c2) = true := by simp
          have HL4 := Lib.hid (HL3.out rfl)
          go_wp2
          go_roundw
          case rel => exact ⟨_, cnt2, HR3, HL4, HW3, HB3⟩
          case measure =>
            have := HME.out
            omega
        · subst h1
          have e1 : (c1 == c1) = true := by simp
          have e2 : (c2 == p2) = false := by simpa using h2
          have HV : Hid ((decide (∀ e ∈ E, e.2 = (c1, p2))) = false) := Lib.hid (decide_eq_false fun hall => h2 (congrArg (fun z : Bool × Bool => z.2) (hall _ HMEM.out)))
          go_wp2
          go_ret
          exact ⟨by rw [HV.out]; rfl, HB3.out⟩
      · have e1 : (c1 == p1) = false := by simpa using h1
        have HV : Hid ((decide (∀ e ∈ E, e.2 = (p1, p2))) = false) := Lib.hid (decide_eq_false fun hall => h1 (congrArg Prod.fst (hall _ HMEM.out)))
        go_wp2
        go_ret
        exact ⟨by rw [HV.out]; rfl, HB3.out⟩
end Go.Proofs.Ytooilennejakhaa

namespace Go.Proofs.Ytooilennejakhaa
open Go.RowKit
set_option linter.unusedVariables false
set_option linter.unusedSimpArgs false
open Go.Proofs.Ytooilennejakhaa.Z Go.Maps
namespace Z
/-- One point is looked at. -/
def kbst (g a b c : Int) (st : Int × List Pt) (z : Pt) : Int × List Pt :=
  if z = (0, 0) ∨ latB a b c z = false then st else if st.1 = 0 ∨ nrm g z < st.1 then (nrm g z, [z]) else if nrm g z = st.1 then (st.1, st.2 ++ [z]) else st
def kwpt (k : Nat) : Pt := (((k % 145 : Nat) : Int) - 72, ((k / 145 : Nat) : Int) - 72)
/-- The shortest of the first k points. -/
def kshL (g a b c : Int) (k : Nat) : Int × List Pt := ((List.range k).map kwpt).foldl (kbst g a b c) (0, [])
theorem kshL_succ (g a b c : Int) (k : Nat) : kshL g a b c (k + 1) = kbst g a b c (kshL g a b c k) (kwpt k) := by
  unfold kshL
  rw [List.range_succ, List.map_append, List.foldl_append]
  rfl
theorem kwpt_at {i j : Nat} (hi : i < 145) : kwpt (j * 145 + i) = ((i : Int) - 72, (j : Int) - 72) := by
  unfold kwpt
  rw [show (j * 145 + i) % 145 = i by omega, show (j * 145 + i) / 145 = j by omega]
theorem kshL_bd {g : Int} (hg : G g) (a b c : Int) : ∀ k, k ≤ 21025 → 0 ≤ (kshL g a b c k).1 ∧ (kshL g a b c k).1 ≤ 20000 ∧ (kshL g a b c k).2.length ≤ k ∧ ∀ z ∈ (kshL g a b c k).2, (-72 ≤ z.1 ∧ z.1 ≤ 72) ∧ (-72 ≤ z.2 ∧ z.2 ≤ 72)
  | 0, _ => by simp [kshL]
  | k + 1, hk => by
    obtain ⟨h1, h2, h3, h4⟩ := kshL_bd hg a b c k (by omega)
    have hw : (-72 ≤ (kwpt k).1 ∧ (kwpt k).1 ≤ 72) ∧ (-72 ≤ (kwpt k).2 ∧ (kwpt k).2 ≤ 72) := by
      unfold kwpt
      simp only
      omega
    have hn := nrm_bd hg (a := kwpt k) (B := 72) hw.1 hw.2
    have hn0 := nrm_nonneg hg (kwpt k)
    rw [kshL_succ]
    unfold kbst
    split
    · exact ⟨h1, h2, by omega, h4⟩
    · split
      · refine ⟨hn0, by omega, by simp, fun z hz => ?_⟩
        simp at hz
        subst hz
        exact hw
      · split
        · refine ⟨h1, h2, by rw [List.length_append, List.length_singleton]; omega, fun z hz => ?_⟩
          rcases List.mem_append.1 hz with h | h
          · exact h4 z h
          · simp at h
            subst h
            exact hw
        · exact ⟨h1, h2, by omega, h4⟩
/-- Does a mirror's line run along one of the shortest steps? -/
def alongB (g a b c : Int) (E : List (Nat × Bool × Bool)) : Bool := E.any fun e => (kshL g a b c 21025).2.any fun z => decide (rf g e.1 z = z)
end Z
theorem knorm (g x y : Int) (w : World) (hg : g = 4 ∨ g = 6) (hx : -100 ≤ x ∧ x ≤ 100) (hy : -100 ≤ y ∧ y ≤ 100) : ∃ q, Calls Try.prog 45 #[.int .i64 (g), .agg #[.int .i64 (x), .int .i64 (y)]] w fun r w' => r = .returned (.tuple #[.int .i64 (Z.nrm g (x, y)), .int .i64 (q)]) ∧ Below w.heap.size w w' := by
  have h := Norm_any g x y w (by omega) (by omega)
  have e : NV g x y = Z.nrm g (x, y) := by
    unfold NV Z.nrm
    rw [if_pos]
    simp [fltE, knB, smL, smB]
    omega
  rw [e] at h
  exact ⟨_, h⟩
theorem kapply2 (g : Int) (t : Nat) (x y : Int) (w : World) (hg : g = 4 ∨ g = 6) (ht : t < g.toNat) (hx : -100 ≤ x ∧ x ≤ 100) (hy : -100 ≤ y ∧ y ≤ 100) : ∃ q,
    Calls Try.prog 46 #[.int .i64 (g), .agg #[.int .i64 (t), .bool (true), .int .i64 (0), .int .i64 (0)], .agg #[.int .i64 (x), .int .i64 (y)]] w fun e w' => e = .returned (.tuple #[.agg #[.int .i64 ((rf g t (x, y)).1), .int .i64 ((rf g t (x, y)).2)], .int .i64 (q)]) ∧ Below w.heap.size w w' := by
  have hb := Z.rf_bd hg ht (x := x) (y := y) (B := 100) (by omega)
  have o1 : OkM g ⟨t, true, (0, 0)⟩ := ⟨hg, ht, by simp [smB]⟩
  have h3 : smB (To g ⟨t, true, (0,0)⟩ (x,y)).1 (To g ⟨t, true, (0,0)⟩ (x,y)).2 = true := by rw [rf_To]; simp [smB]; omega
  have h4 := apV_ok o1 (z := (x, y)) (by simp [smB]; omega)
  have h5 := Apply_any g t 0 0 x y true w (by omega) (by omega) (by omega) (by omega) (by omega) (by omega)
  simp only [tdX, tdY, tdE, h3, if_true] at h4
  rw [h4, rf_To] at h5
  exact ⟨0, h5⟩
end Go.Proofs.Ytooilennejakhaa
