/- Lemmas and contracts of functions (what each call returns, and that it changes nothing that was there) that the proof of a law of this seat uses; each lemma states its own conditions. -/
import Derived.Test.YtoooihoaapfjeaaB18
import Derived.Test.YtoooihoaapfjeaaB01
import Derived.ProofKit
import Derived.OpenShut
import Derived.ShutString
import Derived.ChangeOld
import Derived.Below
import Derived.Lib.SmallJoins
import Derived.Deep.Strs
import Derived.Deep.Grids
import Derived.Test.YtoooihoaapfjeaaB22
namespace Go.Proofs.Ytoooihoaapfjeaa
open Go.RowKit
set_option linter.unusedVariables false
set_option linter.unusedSimpArgs false
open Go.Shelf
open Ps
namespace Ps
theorem reach5 (sl : Int) : ∀ (L : List (Int × Nat)) (x : Int), (∀ p ∈ L, valid 1 p) → doesIt [5] sl [x] L → 5 - x ≤ 2 * (L.length : Int)
  | [], x, _, h => by
    have h : ([x] : List Int) = [5] := h
    injection h with h
    simp only [List.length_nil]
    omega
  | p :: L, x, hv, h => by
    have hp := hv p (by simp)
    have e : mv [x] p.1 p.2 = [if bit p.2 0 then x + p.1 else x] := rfl
    have h2 := h.2
    rw [e] at h2
    have := reach5 sl L _ (fun q hq => hv q (by simp [hq])) h2
    have h3 := hp.1
    simp only [List.length_cons]
    push_cast
    split at this <;> omega
theorem wr5 : wrP [0] [5] 1 = 0 := by decide
theorem dist5 : dist [5] 1 3 [0] := by
  refine ⟨[(2, 1), (2, 1), (1, 1)], rfl, ?_, ?_⟩
  · intro p hp
    simp only [List.mem_cons, List.not_mem_nil, or_false] at hp
    rcases hp with rfl | rfl | rfl <;> unfold valid <;> decide
  show okS [5] 1 [2] ∧ okS [5] 1 [4] ∧ okS [5] 1 [5] ∧ ([5] : List Int) = [5]
  decide
theorem dmin5 {k : Nat} (h : Dmin [5] 1 k [0]) : k = 3 := by
  have h1 := h.2 3 dist5
  obtain ⟨L, h2, h3, h4⟩ := h.1
  have h5 := reach5 1 L 0 h3 h4
  omega
end Ps
set_option maxRecDepth 100000 in
set_option maxHeartbeats 2000000 in
theorem alive13 (w : World) : Calls Try.prog 6 #[] w fun e w' => e = .returned (.bool true) ∧ Below w.heap.size w w' := by
  go_enter Try.func6, Try.ntmps6
  go_wp2_with fail
  have hb0 : Below w.heap.size w ((w.alloc (.cells #[.int .i64 0] 3)).alloc (.cells #[.int .i64 5] 3)) := (by repeat (first | exact Below.refl _ _ | refine Below.drew ?_ | refine below_drewN ?_ _ | refine Below.alloc ?_ (by first | exact Nat.le_refl _ | (simp; done) | (simp; omega) | omega) _ | refine Below.setCell ?_ (by first | exact Nat.le_refl _ | (simp; done) | (simp; omega) | omega) _ | refine bExtW ?_ (by first | exact Nat.le_refl _ | (simp; done) | (simp; omega) | omega) | refine Below.trans ?_ (Below.mono (by assumption) (by first | exact Nat.le_refl _ | (simp; done) | (simp; omega) | omega))))
  have r1 := (row_one w (.int .i64 0) 3).alloc (.cells #[.int .i64 5] 3)
  have r2 := row_one (w.alloc (.cells #[.int .i64 0] 3)) (.int .i64 5) 3
  rw [World.size_alloc] at r2
  have one : ∀ (w' : World) (b : Nat) (x : Int), w'.rowIs b 3 1 (fun _ => .int .i64 x) → IsInts w' (some ⟨b, 0, none⟩) 1 [x] := fun w' b x hr => ⟨rfl, fun _ => ⟨b, 0, rfl, hr.lt, fun j hj => by
    obtain rfl : j = 0 := by omega
    exact hr.cell (i := 0) (by omega)⟩⟩
  have HB0 := Lib.hid hb0
  refine (Plan_any (some ⟨w.heap.size, 0, none⟩) 1 1 [0] (some ⟨w.heap.size + 1, 0, none⟩) 1 1 [5] 1 _ (one _ _ _ r1) (one _ _ _ r2) (by omega) (by omega) (by omega)).mono ?_
  rintro r w1 ⟨hb1, hc⟩
  have HB1 : Hid (Below w.heap.size w w1) := Lib.hid (hb0.trans (hb1.mono hb0.size))
  clear r1 r2 one hb0 hb1
  rcases hc with ⟨h, _⟩ | ⟨_, h, _⟩ | ⟨_, k, L, A, C, _, hd, hf, rfl, _⟩
  · exact absurd wr5 h
  · exact absurd dist5 (h 3)
  · have hk := dmin5 hd
    have hl : L.length = 3 := (hf.does hd).1.trans hk
    rw [hl]
    clear hk hl hd hf
    go_wp2
    go_ret
    exact ⟨rfl, HB1.out⟩
set_option maxRecDepth 100000 in
set_option maxHeartbeats 8000000 in
theorem best_walk (fa : Option Addr) (fn fc : Nat) (zs : List Int) (ta : Option Addr) (tn tc : Nat) (to : List Int) (sl : Int) (la : Option Addr) (ln lc : Nat) (l : List (Int × Int)) (w : World) (hI : IsInts w fa fn zs) (hT : IsInts w ta tn to) (hL : IsPasses w la ln l) (hfn : fn ≤ 9223372036854775807) (htn : tn ≤ 9223372036854775807) (hln : ln ≤ 9223372036854775807) (hs : (-9223372036854775808 ≤ sl ∧ sl ≤ 9223372036854775807)) (hl : ∀ p ∈ l, (-9223372036854775808 ≤ p.1 ∧ p.1 ≤ 9223372036854775807) ∧ (-9223372036854775808 ≤ p.2 ∧ p.2 ≤ 9223372036854775807)) :
    Calls Try.prog 5 #[.slice fa fn fc, .slice ta tn tc, .int .i64 sl, .slice la ln lc] w fun e w' => e = .returned (.bool true) ∧ Below w.heap.size w w' := by
  have HI := Lib.hid hI; have HT := Lib.hid hT; have HL := Lib.hid hL
  have HCK := Lib.hid (fun (w' : World) (hb : Below w.heap.size w w') => Check_any fa fn fc zs ta tn tc to sl la ln lc l w' (hI.below hb) (hT.below hb) (hL.below hb) hfn htn hln hs hl)
  have HPL := Lib.hid (fun (w' : World) (hb : Below w.heap.size w w') => Plan_any fa fn fc zs ta tn tc to sl w' (hI.below hb) (hT.below hb) hfn htn hs)
  clear hI hT hL hl
  go_enter Try.func5, Try.ntmps5
  go_wp2_with fail
  refine (alive13 w).mono ?_
  rintro r w1 ⟨rfl, hb1⟩
  have HB1 := Lib.hid hb1
  clear hb1
  go_wp2_with fail
  refine (HPL.out w1 HB1.out).mono ?_
  rintro r w2 ⟨hb2, hc⟩
  have HB2 : Hid (Below w.heap.size w w2) := Lib.hid (HB1.out.trans (hb2.mono HB1.out.size))
  have HC := Lib.hid hc
  clear hb2 hc HPL
  rcases HC.out with ⟨h, rfl⟩ | ⟨h, hno, rfl⟩ | ⟨h, N, L, A, C, hN, hd, hf, rfl, hp⟩
  · have hne : (wrP zs to sl != 0) = true := by simpa using h
    have HCE : Hid ((decide (wrP zs to sl = 0) && chk to sl to.length zs l) = false) := Lib.hid (by rw [decide_eq_false h]; rfl)
    generalize wrP zs to sl = Er at *
    clear HC h
    go_wp2_with fail
    refine (HCK.out w2 HB2.out).mono ?_
    rintro r w3 ⟨rfl, hb3⟩
    have HB3 := Lib.hid (HB2.out.trans (hb3.mono HB2.out.size))
    rw [HCE.out]
    clear hb3
    have bee : (Er == Er) = true := by simp
    go_wp2
    go_ret
    exact ⟨rfl, HB3.out⟩
  · have HCE : Hid ((decide (wrP zs to sl = 0) && chk to sl to.length zs l) = false) := Lib.hid (by
      cases hx : chk to sl to.length zs l with
      | false => simp
      | true =>
        obtain ⟨L, h1, h2, h3⟩ := (chk_iff l zs).1 hx
        exact absurd ⟨L, rfl, h2, h3⟩ (hno L.length))
    have HW := Lib.hid h
    clear HC h hno
    go_wp2_with fail
    refine (HCK.out w2 HB2.out).mono ?_
    rintro r w3 ⟨rfl, hb3⟩
    have HB3 := Lib.hid (HB2.out.trans (hb3.mono HB2.out.size))
    rw [HCE.out, HW.out]
    clear hb3
    go_wp2
    go_ret
    exact ⟨rfl, HB3.out⟩
  · obtain ⟨hl1, hl2, hl3⟩ := hf.does hd
    obtain ⟨V, hV⟩ : ∃ V, (decide (wrP zs to sl = 0) && chk to sl to.length zs l) = V := ⟨_, rfl⟩
    have HVL : Hid (V = true → L.length ≤ ln) := Lib.hid (fun hv => by
      rw [hv, decide_eq_true h, Bool.true_and] at hV
      obtain ⟨L', h1, h2, h3⟩ := (chk_iff l zs).1 hV
      have := hd.2 L'.length ⟨L', rfl, h2, h3⟩
      have h4 : l.length = L'.length := by rw [← h1]; unfold pI; simp
      have h5 := HL.out.1
      omega)
    have hck2 := fun (w' : World) (hb : Below w2.heap.size w2 w') => Check_any fa fn fc zs ta tn tc to sl A L.length C (pI L) w' (HI.out.below (HB2.out.trans (hb.mono HB2.out.size))) (HT.out.below (HB2.out.trans (hb.mono HB2.out.size))) (hp.below hb) hfn htn (by omega) hs (fun p hp => by
      unfold pI at hp
      obtain ⟨q, hq, rfl⟩ := List.mem_map.1 hp
      have h1 := hl2 q hq
      have h2 := wrP_zero h
      have h3 : 2 ^ to.length ≤ 2 ^ 5 := Nat.pow_le_pow_right (by omega) (by omega)
      obtain ⟨h4, h5, h6⟩ := h1
      simp only
      omega)
    have hck3 : (decide (wrP zs to sl = 0) && chk to sl to.length zs (pI L)) = true := by
      rw [decide_eq_true h, (chk_iff (pI L) zs).2 ⟨L, rfl, hl2, hl3⟩]; rfl
    rw [hck3, h] at hck2
    have HC2 := Lib.hid hck2
    rw [hV, h] at HCK
    clear hck2 hck3 HC h hN hd hf hp hl1 hl2 hl3 hV
    obtain ⟨M, hM⟩ : ∃ M, L.length = M := ⟨_, rfl⟩
    rw [hM] at HC2 HVL ⊢
    clear hM
    go_wp2_with fail
    refine (HCK.out w2 HB2.out).mono ?_
    rintro r w3 ⟨rfl, hb3⟩
    have HB3 := Lib.hid hb3
    clear hb3
    go_wp2_with fail
    refine (HC2.out w3 HB3.out).mono ?_
    rintro r w4 ⟨rfl, hb4⟩
    have HB4 : Hid (Below w.heap.size w w4) := Lib.hid (HB2.out.trans ((HB3.out.trans (hb4.mono HB3.out.size)).mono HB2.out.size))
    clear hb4
    cases V
    · go_wp2
      go_ret
      exact ⟨rfl, HB4.out⟩
    · have hle := HVL.out rfl
      have dle : decide ((M : Int) ≤ (ln : Int)) = true := by simp; omega
      have dle' : decide (M ≤ ln) = true := by simpa using hle
      go_wp2
      go_ret
      exact ⟨rfl, HB4.out⟩
end Go.Proofs.Ytoooihoaapfjeaa

namespace Go.Proofs.Ytoooihoaapfjeaa
open Go.ChangeShapes Go.WideShapes Go.ChangeAt Go.RowKit Go.Joins
open Go.ChangeMaps (open_string shut_string)
set_option linter.unusedVariables false
set_option linter.unusedSimpArgs false
set_option maxRecDepth 100000
theorem int_wf {x : Int} (h : (Lit.int .i64 x).wf = true) : (-9223372036854775808 ≤ x ∧ x ≤ 9223372036854775807) := by
  simpa [Lit.wf, IntKind.min, IntKind.max, IntKind.signed, IntKind.bits] using h
section
variable {H : Type} {enc : TypeId × Value → H} {W : World} {base b0 : Nat} {spare : Addr → Bool} {held : Bool} {v : Value} {d : DataW H} {p : List MemPlace}
set_option maxRecDepth 100000 in
theorem ints_arg (hv : Value.okWide Try.prog W .any b0 22 v) (h : DataW.Trod enc Try.prog W 0 (fun _ => true) true 22 v d p) :
    ∃ a n c z, v = .slice a n c ∧ IsInts W a n z ∧ n ≤ 9223372036854775807 ∧ ∀ x ∈ z, (-9223372036854775808 ≤ x ∧ x ≤ 9223372036854775807) := by
  obtain ⟨a0, len0, cap0, rfl⟩ := okWide_slice Try.underlying22 hv
  obtain ⟨fuel, hf⟩ := h
  rcases open_ints Try.underlying22 Try.underlying3 (by kernel_rfl) hf with ⟨hcs, _⟩ | ⟨x, l, c, zs, hcs, _, hl, hm, hz, _, hcell, hwz⟩
  · simp [Value.cells] at hcs
    obtain ⟨rfl, rfl, rfl⟩ := hcs
    exact ⟨none, 0, 0, [], rfl, ⟨rfl, fun h => by omega⟩, by omega, by simp⟩
  · simp [Value.cells] at hcs
    obtain ⟨rfl, rfl, rfl⟩ := hcs
    simp only [if_true] at hz
    unfold maxLen at hm
    refine ⟨some x, len0, cap0, zs.take len0, rfl, ⟨by rw [List.length_take]; omega, fun hn => ?_⟩, by omega, fun y hy => int_wf (hwz y (List.mem_of_mem_take hy))⟩
    obtain ⟨b, off, spot⟩ := x
    have h0 := hcell 0 (by omega)
    have hspot : spot = none := by simpa [Addr.add] using World.cell?_spot h0
    subst hspot
    refine ⟨b, off, rfl, World.block_lt_of_cell? W _ h0, fun j hj => ?_⟩
    have := hcell j (by omega)
    rw [Addr.add_lit] at this
    rw [this, List.getD_eq_getElem?_getD, List.getD_eq_getElem?_getD, List.getElem?_take, if_pos hj]
end
end Go.Proofs.Ytoooihoaapfjeaa

namespace Go.Proofs.Ytoooihoaapfjeaa
open Go.ChangeShapes Go.WideShapes Go.ChangeAt Go.RowKit Go.Joins
set_option linter.unusedVariables false
set_option linter.unusedSimpArgs false
section
variable {H : Type} {enc : TypeId × Value → H} {W : World} {base b0 : Nat} {spare : Addr → Bool} {held : Bool} {v : Value} {d : DataW H} {p : List MemPlace}
set_option maxRecDepth 100000 in
theorem cellsPass : Try.prog.cellsOf 43 = 2 := by kernel_rfl
theorem cellsIntP : Try.prog.cellsOf 3 = 1 := by kernel_rfl
set_option maxRecDepth 100000 in
theorem passes_arg (hv : Value.okWide Try.prog W .any b0 24 v) (h : DataW.Trod enc Try.prog W 0 (fun _ => true) true 24 v d p) :
    ∃ a n c L, v = .slice a n c ∧ IsPasses W a n L ∧ n ≤ 9223372036854775807 ∧ ∀ p ∈ L, (-9223372036854775808 ≤ p.1 ∧ p.1 ≤ 9223372036854775807) ∧ (-9223372036854775808 ≤ p.2 ∧ p.2 ≤ 9223372036854775807) := by
  obtain ⟨a0, len0, cap0, rfl⟩ := okWide_slice Try.underlying24 hv
  obtain ⟨fuel, hf⟩ := h
  rcases Go.Deep.open_slice Try.underlying24 hf with ⟨hcs, _⟩ | ⟨x, l, c, m, n, D, Pl, hcs, _, hl, hm, hmm, hd, hx⟩
  · simp [Value.cells] at hcs
    obtain ⟨rfl, rfl, rfl⟩ := hcs
    exact ⟨none, 0, 0, [], rfl, ⟨rfl, fun h => by omega⟩, by omega, by simp⟩
  · simp [Value.cells] at hcs
    obtain ⟨rfl, rfl, rfl⟩ := hcs
    simp only [if_true] at hmm
    subst hmm
    haveI : Inhabited (Int × Int) := ⟨(0, 0)⟩
    obtain ⟨B, hB⟩ := Go.Deep.choose_lt (α := Int × Int) (n := len0) (p := fun i s => (W.cell? ((x.add (i * 2)).add 0) = some (.int .i64 s.1) ∧ W.cell? ((x.add (i * 2)).add 1) = some (.int .i64 s.2)) ∧ (-9223372036854775808 ≤ s.1 ∧ s.1 ≤ 9223372036854775807) ∧ (-9223372036854775808 ≤ s.2 ∧ s.2 ≤ 9223372036854775807)) (fun i hi => by
      obtain ⟨cs, hc, ht⟩ := hx i (by omega)
      rw [cellsPass] at hc
      obtain ⟨_, hcl, hce⟩ := World.cells?_some hc
      obtain ⟨z0, z1, k, _, _, g0, g1⟩ := trod_struct2 Try.underlying43 ht
      simp only [cellsIntP] at g0 g1
      obtain ⟨p0, e0, _, w0⟩ := DataW.trod_int Try.underlying3 g0
      obtain ⟨p1, e1, _, w1⟩ := DataW.trod_int Try.underlying3 g1
      match cs, hcl with
      | [c0, c1], _ =>
        simp at e0 e1
        subst e0 e1
        exact ⟨(p0, p1), ⟨hce 0 (by omega), hce 1 (by omega)⟩, int_wf w0, int_wf w1⟩)
    have hlen : ((List.range len0).map B).length = len0 := by simp
    unfold maxLen at hm
    refine ⟨some x, len0, _, (List.range len0).map B, rfl, ⟨hlen, fun hn => ?_⟩, by omega, fun q hq => ?_⟩
    · obtain ⟨b, off, spot⟩ := x
      have h0 := (hB 0 hn).1.1
      have hspot : spot = none := by simpa [Addr.add] using World.cell?_spot h0
      subst hspot
      refine ⟨b, off, rfl, World.block_lt_of_cell? W _ h0, fun j hj => ?_⟩
      have e : ((List.range len0).map B).getD j (0, 0) = B j := by simp [List.getD, hj]
      rw [e]
      obtain ⟨⟨t0, t1⟩, _⟩ := hB j hj
      simp only [Addr.add_lit, Nat.add_zero] at t0 t1
      exact ⟨t0, t1⟩
    · obtain ⟨j, hj, rfl⟩ := List.mem_map.1 hq
      exact (hB j (List.mem_range.1 hj)).2
end
end Go.Proofs.Ytoooihoaapfjeaa

namespace Go.Proofs.Ytoooihoaapfjeaa
open Go.RowKit
set_option linter.unusedVariables false
set_option linter.unusedSimpArgs false
open Ps
namespace Ps
/-- What is planned. -/
def PVal (zs to : List Int) (sl : Int) (n : Nat) (L : List (Int × Int)) (err : Int) : Prop :=
  (wrP zs to sl ≠ 0 ∧ n = 0 ∧ L = [] ∧ err = wrP zs to sl) ∨ (wrP zs to sl = 0 ∧ (∀ k, ¬ dist to sl k zs) ∧ n = 0 ∧ L = [] ∧ err = 6) ∨
  (wrP zs to sl = 0 ∧ ∃ k L0, Dmin to sl k zs ∧ firstL to sl k zs L0 ∧ n = L0.length ∧ L = pI L0 ∧ err = 0)
theorem PVal.uniq {zs to : List Int} {sl : Int} {n n' : Nat} {L L' : List (Int × Int)} {err err' : Int} (h : PVal zs to sl n L err) (h' : PVal zs to sl n' L' err') : n' = n ∧ L' = L ∧ err' = err := by
  rcases h with ⟨h1, rfl, rfl, rfl⟩ | ⟨h1, h2, rfl, rfl, rfl⟩ | ⟨h1, k, L0, h2, h3, rfl, rfl, rfl⟩ <;> rcases h' with ⟨g1, rfl, rfl, rfl⟩ | ⟨g1, g2, rfl, rfl, rfl⟩ | ⟨g1, k', L0', g2, g3, rfl, rfl, rfl⟩
  · exact ⟨rfl, rfl, rfl⟩
  · exact absurd g1 h1
  · exact absurd g1 h1
  · exact absurd h1 g1
  · exact ⟨rfl, rfl, rfl⟩
  · exact absurd g2.1 (h2 _)
  · exact absurd h1 g1
  · exact absurd h2.1 (g2 _)
  · obtain rfl := h2.uniq g2
    obtain rfl := h3.uniq g3
    exact ⟨rfl, rfl, rfl⟩
end Ps
theorem plan_out {zs to : List Int} {sl : Int} {w w' : World} {r : Ending} (h : PlanPost zs to sl w r w') : ∃ A n C L err, r = .returned (.tuple #[.slice A n C, .int .i64 (err)]) ∧ IsPasses w' A n L ∧ PVal zs to sl n L err ∧ n ≤ 1000000 := by
  rcases h.2 with ⟨h1, rfl⟩ | ⟨h1, h2, rfl⟩ | ⟨h1, k, L, A, C, hk, h2, h3, rfl, h4⟩
  · exact ⟨none, 0, 0, [], _, rfl, ⟨rfl, fun h => absurd h (by omega)⟩, .inl ⟨h1, rfl, rfl, rfl⟩, by omega⟩
  · exact ⟨none, 0, 0, [], _, rfl, ⟨rfl, fun h => absurd h (by omega)⟩, .inr (.inl ⟨h1, h2, rfl, rfl, rfl⟩), by omega⟩
  · exact ⟨A, L.length, C, pI L, _, rfl, h4, .inr (.inr ⟨h1, k, L, h2, h3, rfl, rfl, rfl⟩), by have := (h3.does h2).1; omega⟩
set_option maxRecDepth 100000 in
set_option maxHeartbeats 8000000 in
theorem plan_walk (fa : Option Addr) (fn fc : Nat) (zs : List Int) (ta : Option Addr) (tn tc : Nat) (to : List Int) (sl : Int) (la : Option Addr) (ln lc : Nat) (l : List (Int × Int)) (w : World) (hI : IsInts w fa fn zs) (hT : IsInts w ta tn to) (hL : IsPasses w la ln l) (hfn : fn ≤ 9223372036854775807) (htn : tn ≤ 9223372036854775807) (hln : ln ≤ 9223372036854775807) (hs : (-9223372036854775808 ≤ sl ∧ sl ≤ 9223372036854775807)) (hl : ∀ p ∈ l, (-9223372036854775808 ≤ p.1 ∧ p.1 ≤ 9223372036854775807) ∧ (-9223372036854775808 ≤ p.2 ∧ p.2 ≤ 9223372036854775807)) :
    Calls Try.prog 4 #[.slice fa fn fc, .slice ta tn tc, .int .i64 sl, .slice la ln lc] w fun e w' => e = .returned (.bool true) ∧ Below w.heap.size w w' := by
  have HW1 := Lib.hid (fun (w' : World) (hb : Below w.heap.size w w') => Wrong_any fa fn fc zs ta tn tc to sl w' (hI.below hb) (hT.below hb) hfn htn hs)
  have HW2 := Lib.hid (fun (w' : World) (hb : Below w.heap.size w w') => rWrong_any fa fn fc zs ta tn tc to sl w' (hI.below hb) (hT.below hb) hfn htn hs)
  have HP1 := Lib.hid (fun (w' : World) (hb : Below w.heap.size w w') => Plan_any fa fn fc zs ta tn tc to sl w' (hI.below hb) (hT.below hb) hfn htn hs)
  have HP2 := Lib.hid (fun (w' : World) (hb : Below w.heap.size w w') => rPlan_any fa fn fc zs ta tn tc to sl w' (hI.below hb) (hT.below hb) hfn htn hs)
  have HC1 := Lib.hid (fun (w' : World) (hb : Below w.heap.size w w') => Check_any fa fn fc zs ta tn tc to sl la ln lc l w' (hI.below hb) (hT.below hb) (hL.below hb) hfn htn hln hs hl)
  have HC2 := Lib.hid (fun (w' : World) (hb : Below w.heap.size w w') => rCheck_any fa fn fc zs ta tn tc to sl la ln lc l w' (hI.below hb) (hT.below hb) (hL.below hb) hfn htn hln hs hl)
  obtain ⟨V, hV⟩ : ∃ V, (decide (wrP zs to sl = 0) && chk to sl to.length zs l) = V := ⟨_, rfl⟩
  rw [hV] at HC1 HC2
  obtain ⟨Er, hEr⟩ : ∃ Er, wrP zs to sl = Er := ⟨_, rfl⟩
  rw [hEr] at HC1 HC2 HW1 HW2
  have b1 : (Er != Er) = false := by simp
  have b2 : (Er == Er) = true := by simp
  have b3 : (V == V) = true := by simp
  clear hI hT hL hl hV hEr
  go_enter Try.func4, Try.ntmps4
  go_wp2_with fail
  refine (HW1.out w (Below.refl _ _)).mono ?_
  rintro r w1 ⟨rfl, hb1⟩
  have HB1 := Lib.hid hb1
  clear hb1
  go_wp2_with fail
  refine (HW2.out w1 HB1.out).mono ?_
  rintro r w2 ⟨rfl, hb2⟩
  have HB2 := Lib.hid (HB1.out.trans (hb2.mono HB1.out.size))
  clear hb2
  go_wp2_with fail
  refine (HP1.out w2 HB2.out).mono ?_
  intro r w3 hp3
  have HB3 := Lib.hid (HB2.out.trans (hp3.1.mono HB2.out.size))
  obtain ⟨A3, n, C3, L, err, rfl, hi3, hv3, hn⟩ := plan_out hp3
  have HI3 := Lib.hid hi3; have HV3 := Lib.hid hv3
  clear hp3 hi3 hv3
  go_wp2_with fail
  refine (HP2.out w3 HB3.out).mono ?_
  intro r w4 hp4
  have HB4 := Lib.hid (HB3.out.trans (hp4.1.mono HB3.out.size))
  have HI34 := Lib.hid (HI3.out.below hp4.1)
  obtain ⟨A4, n4, C4, L4, err4, rfl, hi4, hv4, hn4⟩ := plan_out hp4
  obtain ⟨rfl, rfl, rfl⟩ := HV3.out.uniq hv4
  have HI4 := Lib.hid hi4
  clear hp4 hi4 hv4 HV3 HI3
  go_wp2_with fail
  refine (rSame_same A3 n4 C3 A4 C4 L4 w4 HI34.out HI4.out (by omega)).mono ?_
  rintro r w5 ⟨rfl, hb5⟩
  have HB5 := Lib.hid (HB4.out.trans (hb5.mono HB4.out.size))
  clear hb5
  have b4 : (err4 != err4) = false := by simp
  go_wp2_with fail
  refine (HC1.out w5 HB5.out).mono ?_
  rintro r w6 ⟨rfl, hb6⟩
  have HB6 := Lib.hid (HB5.out.trans (hb6.mono HB5.out.size))
  clear hb6
  go_wp2_with fail
  refine (HC2.out w6 HB6.out).mono ?_
  rintro r w7 ⟨rfl, hb7⟩
  have HB7 := Lib.hid (HB6.out.trans (hb7.mono HB6.out.size))
  clear hb7
  cases V <;>
  · go_wp2
    go_ret
    exact ⟨rfl, HB7.out⟩
end Go.Proofs.Ytoooihoaapfjeaa
