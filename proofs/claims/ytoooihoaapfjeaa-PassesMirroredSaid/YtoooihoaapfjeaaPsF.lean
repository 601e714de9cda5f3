/- Chapter 13: alive; nothing does it in less. -/
import Derived.Test.YtoooihoaapfjeaaPsE
namespace Go.Proofs.Ytoooihoaapfjeaa
open Go.RowKit
set_option linter.unusedVariables false
set_option linter.unusedSimpArgs false
open Go.Shelf
open Ps
namespace Ps
theorem reach5 (sl : Int) : ∀ (L : List (Int × Nat)) (x : Int), (∀ p ∈ L, valid 1 p) → doesIt [5] sl [x] L → 5 - x ≤ 2 * (L.length : Int)
  | [], x, _, h => by
    have h : ([x] : List Int) = [5] := h
    injection h with h
    simp only [List.length_nil]
    omega
  | p :: L, x, hv, h => by
    have hp := hv p (by simp)
    have e : mv [x] p.1 p.2 = [if bit p.2 0 then x + p.1 else x] := rfl
    have h2 := h.2
    rw [e] at h2
    have := reach5 sl L _ (fun q hq => hv q (by simp [hq])) h2
    have h3 := hp.1
    simp only [List.length_cons]
    push_cast
    split at this <;> omega
theorem wr5 : wrP [0] [5] 1 = 0 := by decide
theorem dist5 : dist [5] 1 3 [0] := by
  refine ⟨[(2, 1), (2, 1), (1, 1)], rfl, ?_, ?_⟩
  · intro p hp
    simp only [List.mem_cons, List.not_mem_nil, or_false] at hp
    rcases hp with rfl | rfl | rfl <;> unfold valid <;> decide
  show okS [5] 1 [2] ∧ okS [5] 1 [4] ∧ okS [5] 1 [5] ∧ ([5] : List Int) = [5]
  decide
theorem dmin5 {k : Nat} (h : Dmin [5] 1 k [0]) : k = 3 := by
  have h1 := h.2 3 dist5
  obtain ⟨L, h2, h3, h4⟩ := h.1
  have h5 := reach5 1 L 0 h3 h4
  omega
end Ps
set_option maxRecDepth 100000 in
set_option maxHeartbeats 2000000 in
theorem alive13 (w : World) : Calls Try.prog 6 #[] w fun e w' => e = .returned (.bool true) ∧ Below w.heap.size w w' := by
  go_enter Try.func6, Try.ntmps6
  go_wp2_with fail
  have hb0 : Below w.heap.size w ((w.alloc (.cells #[.int .i64 0] 3)).alloc (.cells #[.int .i64 5] 3)) := (by repeat (first | exact Below.refl _ _ | refine Below.drew ?_ | refine below_drewN ?_ _ | refine Below.alloc ?_ (by first | exact Nat.le_refl _ | (simp; done) | (simp; omega) | omega) _ | refine Below.setCell ?_ (by first | exact Nat.le_refl _ | (simp; done) | (simp; omega) | omega) _ | refine bExtW ?_ (by first | exact Nat.le_refl _ | (simp; done) | (simp; omega) | omega) | refine Below.trans ?_ (Below.mono (by assumption) (by first | exact Nat.le_refl _ | (simp; done) | (simp; omega) | omega))))
  have r1 := (row_one w (.int .i64 0) 3).alloc (.cells #[.int .i64 5] 3)
  have r2 := row_one (w.alloc (.cells #[.int .i64 0] 3)) (.int .i64 5) 3
  rw [World.size_alloc] at r2
  have one : ∀ (w' : World) (b : Nat) (x : Int), w'.rowIs b 3 1 (fun _ => .int .i64 x) → IsInts w' (some ⟨b, 0, none⟩) 1 [x] := fun w' b x hr => ⟨rfl, fun _ => ⟨b, 0, rfl, hr.lt, fun j hj => by
    obtain rfl : j = 0 := by omega
    exact hr.cell (i := 0) (by omega)⟩⟩
  have HB0 := Lib.hid hb0
  refine (Plan_any (some ⟨w.heap.size, 0, none⟩) 1 1 [0] (some ⟨w.heap.size + 1, 0, none⟩) 1 1 [5] 1 _ (one _ _ _ r1) (one _ _ _ r2) (by omega) (by omega) (by omega)).mono ?_
  rintro r w1 ⟨hb1, hc⟩
  have HB1 : Hid (Below w.heap.size w w1) := Lib.hid (hb0.trans (hb1.mono hb0.size))
  clear r1 r2 one hb0 hb1
  rcases hc with ⟨h, _⟩ | ⟨_, h, _⟩ | ⟨_, k, L, A, C, _, hd, hf, rfl, _⟩
  · exact absurd wr5 h
  · exact absurd dist5 (h 3)
  · have hk := dmin5 hd
    have hl : L.length = 3 := (hf.does hd).1.trans hk
    rw [hl]
    clear hk hl hd hf
    go_wp2
    go_ret
    exact ⟨rfl, HB1.out⟩
set_option maxRecDepth 100000 in
set_option maxHeartbeats 8000000 in
theorem best_walk (fa : Option Addr) (fn fc : Nat) (zs : List Int) (ta : Option Addr) (tn tc : Nat) (to : List Int) (sl : Int) (la : Option Addr) (ln lc : Nat) (l : List (Int × Int)) (w : World) (hI : IsInts w fa fn zs) (hT : IsInts w ta tn to) (hL : IsPasses w la ln l) (hfn : fn ≤ 9223372036854775807) (htn : tn ≤ 9223372036854775807) (hln : ln ≤ 9223372036854775807) (hs : (-9223372036854775808 ≤ sl ∧ sl ≤ 9223372036854775807)) (hl : ∀ p ∈ l, (-9223372036854775808 ≤ p.1 ∧ p.1 ≤ 9223372036854775807) ∧ (-9223372036854775808 ≤ p.2 ∧ p.2 ≤ 9223372036854775807)) :
    Calls Try.prog 5 #[.slice fa fn fc, .slice ta tn tc, .int .i64 sl, .slice la ln lc] w fun e w' => e = .returned (.bool true) ∧ Below w.heap.size w w' := by
  have HI := Lib.hid hI; have HT := Lib.hid hT; have HL := Lib.hid hL
  have HCK := Lib.hid (fun (w' : World) (hb : Below w.heap.size w w') => Check_any fa fn fc zs ta tn tc to sl la ln lc l w' (hI.below hb) (hT.below hb) (hL.below hb) hfn htn hln hs hl)
  have HPL := Lib.hid (fun (w' : World) (hb : Below w.heap.size w w') => Plan_any fa fn fc zs ta tn tc to sl w' (hI.below hb) (hT.below hb) hfn htn hs)
  clear hI hT hL hl
  go_enter Try.func5, Try.ntmps5
  go_wp2_with fail
  refine (alive13 w).mono ?_
  rintro r w1 ⟨rfl, hb1⟩
  have HB1 := Lib.hid hb1
  clear hb1
  go_wp2_with fail
  refine (HPL.out w1 HB1.out).mono ?_
  rintro r w2 ⟨hb2, hc⟩
  have HB2 : Hid (Below w.heap.size w w2) := Lib.hid (HB1.out.trans (hb2.mono HB1.out.size))
  have HC := Lib.hid hc
  clear hb2 hc HPL
  rcases HC.out with ⟨h, rfl⟩ | ⟨h, hno, rfl⟩ | ⟨h, N, L, A, C, hN, hd, hf, rfl, hp⟩
  · have hne : (wrP zs to sl != 0) = true := by simpa using h
    have HCE : Hid ((decide (wrP zs to sl = 0) && chk to sl to.length zs l) = false) := Lib.hid (by rw [decide_eq_false h]; rfl)
    generalize wrP zs to sl = Er at *
    clear HC h
    go_wp2_with fail
    refine (HCK.out w2 HB2.out).mono ?_
    rintro r w3 ⟨rfl, hb3⟩
    have HB3 := Lib.hid (HB2.out.trans (hb3.mono HB2.out.size))
    rw [HCE.out]
    clear hb3
    have bee : (Er == Er) = true := by simp
    go_wp2
    go_ret
    exact ⟨rfl, HB3.out⟩
  · have HCE : Hid ((decide (wrP zs to sl = 0) && chk to sl to.length zs l) = false) := Lib.hid (by
      cases hx : chk to sl to.length zs l with
      | false => simp
      | true =>
        obtain ⟨L, h1, h2, h3⟩ := (chk_iff l zs).1 hx
        exact absurd ⟨L, rfl, h2, h3⟩ (hno L.length))
    have HW := Lib.hid h
    clear HC h hno
    go_wp2_with fail
    refine (HCK.out w2 HB2.out).mono ?_
    rintro r w3 ⟨rfl, hb3⟩
    have HB3 := Lib.hid (HB2.out.trans (hb3.mono HB2.out.size))
    rw [HCE.out, HW.out]
    clear hb3
    go_wp2
    go_ret
    exact ⟨rfl, HB3.out⟩
  · obtain ⟨hl1, hl2, hl3⟩ := hf.does hd
    obtain ⟨V, hV⟩ : ∃ V, (decide (wrP zs to sl = 0) && chk to sl to.length zs l) = V := ⟨_, rfl⟩
    have HVL : Hid (V = true → L.length ≤ ln) := Lib.hid (fun hv => by
      rw [hv, decide_eq_true h, Bool.true_and] at hV
      obtain ⟨L', h1, h2, h3⟩ := (chk_iff l zs).1 hV
      have := hd.2 L'.length ⟨L', rfl, h2, h3⟩
      have h4 : l.length = L'.length := by rw [← h1]; unfold pI; simp
      have h5 := HL.out.1
      omega)
    have hck2 := fun (w' : World) (hb : Below w2.heap.size w2 w') => Check_any fa fn fc zs ta tn tc to sl A L.length C (pI L) w' (HI.out.below (HB2.out.trans (hb.mono HB2.out.size))) (HT.out.below (HB2.out.trans (hb.mono HB2.out.size))) (hp.below hb) hfn htn (by omega) hs (fun p hp => by
      unfold pI at hp
      obtain ⟨q, hq, rfl⟩ := List.mem_map.1 hp
      have h1 := hl2 q hq
      have h2 := wrP_zero h
      have h3 : 2 ^ to.length ≤ 2 ^ 5 := Nat.pow_le_pow_right (by omega) (by omega)
      obtain ⟨h4, h5, h6⟩ := h1
      simp only
      omega)
    have hck3 : (decide (wrP zs to sl = 0) && chk to sl to.length zs (pI L)) = true := by
      rw [decide_eq_true h, (chk_iff (pI L) zs).2 ⟨L, rfl, hl2, hl3⟩]; rfl
    rw [hck3, h] at hck2
    have HC2 := Lib.hid hck2
    rw [hV, h] at HCK
    clear hck2 hck3 HC h hN hd hf hp hl1 hl2 hl3 hV
    obtain ⟨M, hM⟩ : ∃ M, L.length = M := ⟨_, rfl⟩
    rw [hM] at HC2 HVL ⊢
    clear hM
    go_wp2_with fail
    refine (HCK.out w2 HB2.out).mono ?_
    rintro r w3 ⟨rfl, hb3⟩
    have HB3 := Lib.hid hb3
    clear hb3
    go_wp2_with fail
    refine (HC2.out w3 HB3.out).mono ?_
    rintro r w4 ⟨rfl, hb4⟩
    have HB4 : Hid (Below w.heap.size w w4) := Lib.hid (HB2.out.trans ((HB3.out.trans (hb4.mono HB3.out.size)).mono HB2.out.size))
    clear hb4
    cases V
    · go_wp2
      go_ret
      exact ⟨rfl, HB4.out⟩
    · have hle := HVL.out rfl
      have dle : decide ((M : Int) ≤ (ln : Int)) = true := by simp; omega
      have dle' : decide (M ≤ ln) = true := by simpa using hle
      go_wp2
      go_ret
      exact ⟨rfl, HB4.out⟩
end Go.Proofs.Ytoooihoaapfjeaa
