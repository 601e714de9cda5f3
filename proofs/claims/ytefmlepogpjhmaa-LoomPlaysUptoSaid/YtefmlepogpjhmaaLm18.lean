/- Chapter 10: the law of a loom, step by step: the walk. -/
import Derived.Test.YtefmlepogpjhmaaLm17
namespace Go.Proofs.Ytefmlepogpjhmaa
open Go.RowKit
set_option linter.unusedVariables false
set_option linter.unusedSimpArgs false
open Lm
/-- A row of what is seen, in memory. -/
theorem OutS.row {base : Nat} {A : Option Addr} {c : Nat} {L : List Seen} {w : World} (h : OutS base (.slice A L.length c) L w) : ∀ j, j < L.length → ∃ g r rc, A = some ⟨g, 0, none⟩ ∧ LtW g w ∧ IsBools w r (L.getD j ⟨0, 0, 0, [], 0, 0⟩).row.length (L.getD j ⟨0, 0, 0, [], 0, 0⟩).row ∧
    w.cell? ⟨g, j * 6, none⟩ = some (.int .i64 (L.getD j ⟨0, 0, 0, [], 0, 0⟩).do_) ∧ w.cell? ⟨g, j * 6 + 1, none⟩ = some (.int .i64 (L.getD j ⟨0, 0, 0, [], 0, 0⟩).st) ∧ w.cell? ⟨g, j * 6 + 2, none⟩ = some (.int .i64 (L.getD j ⟨0, 0, 0, [], 0, 0⟩).wv) ∧
    w.cell? ⟨g, j * 6 + 3, none⟩ = some (.slice r (L.getD j ⟨0, 0, 0, [], 0, 0⟩).row.length rc) ∧ w.cell? ⟨g, j * 6 + 4, none⟩ = some (.int .i64 (L.getD j ⟨0, 0, 0, [], 0, 0⟩).oe) ∧ w.cell? ⟨g, j * 6 + 5, none⟩ = some (.int .i64 (L.getD j ⟨0, 0, 0, [], 0, 0⟩).er) := by
  intro j hj
  obtain ⟨vs, hl, ho, hr⟩ := h
  obtain ⟨r, rc, er, hb⟩ := (hr j hj).bools
  rcases ho.2 with ⟨_, e⟩ | ⟨g, cap, cur, e1, e2, e3, e4, e5, e6, e7⟩
  · omega
  · injection e1 with e1
    subst e1
    have hg : g < w.heap.size := (Array.getElem?_eq_some_iff.1 e3).1
    have hcell : ∀ i, i < 6 → w.cell? ⟨g, j * 6 + i, none⟩ = (seenV (.slice r (L.getD j ⟨0, 0, 0, [], 0, 0⟩).row.length rc) (L.getD j ⟨0, 0, 0, [], 0, 0⟩))[i]? := fun i hi => by
      rw [← er, ← seenC_get vs L j i hl hj hi, ← e7, List.getElem?_take_of_lt (by omega), Array.getElem?_toList]
      simp [World.cell?, e3]
    exact ⟨g, r, rc, rfl, hg, hb, hcell 0 (by omega), hcell 1 (by omega), hcell 2 (by omega), hcell 3 (by omega), hcell 4 (by omega), hcell 5 (by omega)⟩
set_option maxRecDepth 100000 in
set_option maxHeartbeats 8000000 in
theorem loomPlays_walk (W H : Int) (A : Option Addr) (n c : Nat) (B : Option Addr) (m cw : Nat) (Sa : Option Addr) (sn sc : Nat) (L : List Seen) (D : List Int) (w : World) (hL : L.length ≤ 1048576) (hD : D.length ≤ 1048576) (hrow : ∀ j, j < L.length → (L.getD j ⟨0, 0, 0, [], 0, 0⟩).row.length ≤ 4096)
    (HL : ∀ w', Below w.heap.size w w' → Calls Try.prog 5 #[.agg #[.int .i64 (W), .int .i64 (H), .slice A n c], .slice B m cw, .slice Sa sn sc] w' (PlayPost L D w'))
    (HP : ∀ w', Below w.heap.size w w' → Calls Try.prog 6 #[.agg #[.int .i64 (W), .int .i64 (H), .slice A n c], .slice B m cw, .slice Sa sn sc] w' (PlayPost2 L D w')) :
    Calls Try.prog 3 #[.agg #[.int .i64 (W), .int .i64 (H), .slice A n c], .slice B m cw, .slice Sa sn sc] w fun e w' => e = .returned (.bool true) ∧ Below w.heap.size w w' := by
  have HL := Lib.hid HL; have HP := Lib.hid HP; have HROW := Lib.hid hrow
  clear hrow
  go_enter Try.func3, Try.ntmps3
  go_wp2_with fail
  have hb0 : Below w.heap.size w (w.alloc (.cells #[.int .i64 (W), .int .i64 (H), .slice A n c] 24)) := (by repeat (first | exact Below.refl _ _ | refine Below.drew ?_ | refine below_drewN ?_ _ | refine Below.alloc ?_ (by first | exact Nat.le_refl _ | (simp; done) | (simp; omega) | omega) _ | refine Below.setCell ?_ (by first | exact Nat.le_refl _ | (simp; done) | (simp; omega) | omega) _ | refine bExtW ?_ (by first | exact Nat.le_refl _ | (simp; done) | (simp; omega) | omega) | refine Below.trans ?_ (Below.mono (by assumption) (by first | exact Nat.le_refl _ | (simp; done) | (simp; omega) | omega))))
  refine (HL.out _ hb0).mono ?_
  rintro r w1 ⟨v1, A1, C1, rfl, ho1, hi1, hb1⟩
  have hm1 := rowBelow (tF_alloc w W H (.slice A n c) rfl) hb1 (by simp)
  have q0 : w1.cell? ⟨w.heap.size, 0, none⟩ = some (.int .i64 (W)) := hm1.cell (i := 0) (by omega)
  have q1 : w1.cell? ⟨w.heap.size, 1, none⟩ = some (.int .i64 (H)) := hm1.cell (i := 1) (by omega)
  have q2 : w1.cell? ⟨w.heap.size, 2, none⟩ = some (.slice A n c) := hm1.cell (i := 2) (by omega)
  have lmb : LtW w.heap.size w1 := hm1.lt
  have HB1 := Lib.hid (hb0.trans (hb1.mono hb0.size))
  have HO1 := Lib.hid ho1; have HI1 := Lib.hid hi1
  clear hb0 hb1 hm1 ho1 hi1
  go_wp2_with fail
  refine (HP.out _ HB1.out).mono ?_
  rintro r w2 ⟨v2, A2, C2, rfl, ho2, hi2, hb2⟩
  have ho1 := HO1.out.below hb2
  have hi1 := HI1.out.below hb2
  obtain ⟨AA1, cc1, rfl⟩ := ho1.form
  obtain ⟨AA2, cc2, rfl⟩ := ho2.form
  have HB2 := Lib.hid (HB1.out.trans (hb2.mono HB1.out.size))
  have HO1' := Lib.hid ho1; have HI1' := Lib.hid hi1; have HO2 := Lib.hid ho2; have HI2 := Lib.hid hi2
  clear HO1 HI1 HB1 ho1 hi1 ho2 hi2 hb2 q0 q1 q2 lmb
  go_wp2_with fail
  go_loopw [49] (fun iv wr => ∃ i : Nat, i ≤ D.length ∧ iv = .int .i64 i ∧ Hid (Below w2.heap.size w2 wr)) (fun iv _ => D.length - (intOf iv).toNat)
  case atStart => exact ⟨0, by omega, rfl, Lib.hid (Below.refl _ _)⟩
  case round =>
    obtain ⟨i, hi, rfl, HB⟩ := hrel
    by_cases hin : i < D.length
    · obtain ⟨b, o, rfl, hb, hc⟩ := (HI1'.out.below HB.out).2 (by omega)
      obtain ⟨b2, o2, rfl, hb2, hc2⟩ := (HI2.out.below HB.out).2 (by omega)
      have k1 := hc i hin; have k2 := hc2 i hin
      have l1 : LtW b wr := hb
      have l2 : LtW b2 wr := hb2
      have dk : decide ((i : Int) < (D.length : Int)) = true := by simp; omega
      have dk' : decide (i < D.length) = true := by simpa using hin
      clear hc hc2 hb hb2
      generalize D.getD i 0 = y at *
      go_wp2_with fail
      (refine wp_region_ext (by kernel_rfl) (by kernel_rfl) ?_; (repeat (first | ((with_reducible refine ext_step (fun K hK => ?_)); go_simp; first | (refine hK _ ?_; clear hK K) | (apply Exists.intro; refine ⟨fun _ _ => ?_, hK _ ?_⟩; fail; clear hK K)))); refine wpQuiet_nil ?_; intro E d)
      have HB3 : Hid (Below w2.heap.size w2 (extW wr E d)) := Lib.hid (bExtW HB.out HB.out.size)
      clear HB k1 k2
      generalize extW wr E d = w5 at *
      go_wp2
      go_roundw
      case rel => exact ⟨i + 1, by omega, by go_num, HB3⟩
      case measure => simp [intOf]; omega
    · obtain rfl : i = D.length := by omega
      have dk : decide ((D.length : Int) < (D.length : Int)) = false := by simp
      clear hi dk
      have HB9 := HB
      clear HB
      go_wp2_with fail
      go_loopw [64] (fun iv wq => ∃ j : Nat, j ≤ L.length ∧ iv = .int .i64 j ∧ Hid (Below w2.heap.size w2 wq)) (fun iv _ => L.length - (intOf iv).toNat)
      case atStart => exact ⟨0, by omega, rfl, HB9⟩
      case round =>
        clear HB9
        obtain ⟨j, hj, rfl, HB⟩ := hrel
        by_cases hjn : j < L.length
        · obtain ⟨g1, r1, rc1, rfl, l1, hr1, c0, c1, c2, c3, c4, c5⟩ := (HO1'.out.below HB.out).row j hjn
          obtain ⟨g2, r2, rc2, rfl, l2, hr2, d0, d1, d2, d3, d4, d5⟩ := (HO2.out.below HB.out).row j hjn
          have dk : decide ((j : Int) < (L.length : Int)) = true := by simp; omega
          have dk' : decide (j < L.length) = true := by simpa using hjn
          have hrl := HROW.out j hjn
          generalize L.getD j ⟨0, 0, 0, [], 0, 0⟩ = x at *
          obtain ⟨xdo, xst, xwv, xrow, xoe, xer⟩ := x
          simp only at *
          have HR1 := Lib.hid hr1; have HR2 := Lib.hid hr2
          clear hr1 hr2
          go_wp2_with fail
          go_region
          · skip
            go_wp2_with fail
            refine (SameBits_ok r1 xrow.length rc1 r2 rc2 xrow _ (HR1.out.below (by repeat (first | exact Below.refl _ _ | refine Below.drew ?_ | refine below_drewN ?_ _ | refine Below.alloc ?_ (by first | exact Nat.le_refl _ | (simp; done) | (simp; omega) | omega) _ | refine Below.setCell ?_ (by first | exact Nat.le_refl _ | (simp; done) | (simp; omega) | omega) _ | refine bExtW ?_ (by first | exact Nat.le_refl _ | (simp; done) | (simp; omega) | omega) | refine Below.trans ?_ (Below.mono (by assumption) (by first | exact Nat.le_refl _ | (simp; done) | (simp; omega) | omega))))) (HR2.out.below (by repeat (first | exact Below.refl _ _ | refine Below.drew ?_ | refine below_drewN ?_ _ | refine Below.alloc ?_ (by first | exact Nat.le_refl _ | (simp; done) | (simp; omega) | omega) _ | refine Below.setCell ?_ (by first | exact Nat.le_refl _ | (simp; done) | (simp; omega) | omega) _ | refine bExtW ?_ (by first | exact Nat.le_refl _ | (simp; done) | (simp; omega) | omega) | refine Below.trans ?_ (Below.mono (by assumption) (by first | exact Nat.le_refl _ | (simp; done) | (simp; omega) | omega))))) (by omega)).mono ?_
            rintro r w5 ⟨rfl, hb5⟩
            have hbw : Below wr.heap.size wr w5 := Below.trans (by repeat (first | exact Below.refl _ _ | refine Below.drew ?_ | refine below_drewN ?_ _ | refine Below.alloc ?_ (by first | exact Nat.le_refl _ | (simp; done) | (simp; omega) | omega) _ | refine Below.setCell ?_ (by first | exact Nat.le_refl _ | (simp; done) | (simp; omega) | omega) _ | refine bExtW ?_ (by first | exact Nat.le_refl _ | (simp; done) | (simp; omega) | omega) | refine Below.trans ?_ (Below.mono (by assumption) (by first | exact Nat.le_refl _ | (simp; done) | (simp; omega) | omega)))) (hb5.mono (by simp; omega))
            have HB3 : Hid (Below w2.heap.size w2 w5) := Lib.hid (HB.out.trans (hbw.mono HB.out.size))
            clear hb5 hbw HB
            go_wp2
            go_roundw
            case rel => exact ⟨j + 1, by omega, by go_num, HB3⟩
            case measure => simp [intOf]; omega
          · skip
            go_wp2_with fail
            refine (SameBits_ok r1 xrow.length rc1 r2 rc2 xrow _ (HR1.out.below (by repeat (first | exact Below.refl _ _ | refine Below.drew ?_ | refine below_drewN ?_ _ | refine Below.alloc ?_ (by first | exact Nat.le_refl _ | (simp; done) | (simp; omega) | omega) _ | refine Below.setCell ?_ (by first | exact Nat.le_refl _ | (simp; done) | (simp; omega) | omega) _ | refine bExtW ?_ (by first | exact Nat.le_refl _ | (simp; done) | (simp; omega) | omega) | refine Below.trans ?_ (Below.mono (by assumption) (by first | exact Nat.le_refl _ | (simp; done) | (simp; omega) | omega))))) (HR2.out.below (by repeat (first | exact Below.refl _ _ | refine Below.drew ?_ | refine below_drewN ?_ _ | refine Below.alloc ?_ (by first | exact Nat.le_refl _ | (simp; done) | (simp; omega) | omega) _ | refine Below.setCell ?_ (by first | exact Nat.le_refl _ | (simp; done) | (simp; omega) | omega) _ | refine bExtW ?_ (by first | exact Nat.le_refl _ | (simp; done) | (simp; omega) | omega) | refine Below.trans ?_ (Below.mono (by assumption) (by first | exact Nat.le_refl _ | (simp; done) | (simp; omega) | omega))))) (by omega)).mono ?_
            rintro r w5 ⟨rfl, hb5⟩
            have hbw : Below wr.heap.size wr w5 := Below.trans (by repeat (first | exact Below.refl _ _ | refine Below.drew ?_ | refine below_drewN ?_ _ | refine Below.alloc ?_ (by first | exact Nat.le_refl _ | (simp; done) | (simp; omega) | omega) _ | refine Below.setCell ?_ (by first | exact Nat.le_refl _ | (simp; done) | (simp; omega) | omega) _ | refine bExtW ?_ (by first | exact Nat.le_refl _ | (simp; done) | (simp; omega) | omega) | refine Below.trans ?_ (Below.mono (by assumption) (by first | exact Nat.le_refl _ | (simp; done) | (simp; omega) | omega)))) (hb5.mono (by simp; omega))
            have HB3 : Hid (Below w2.heap.size w2 w5) := Lib.hid (HB.out.trans (hbw.mono HB.out.size))
            clear hb5 hbw HB
            go_wp2
            go_roundw
            case rel => exact ⟨j + 1, by omega, by go_num, HB3⟩
            case measure => simp [intOf]; omega
        · obtain rfl : j = L.length := by omega
          have dk : decide ((L.length : Int) < (L.length : Int)) = false := by simp
          go_wp2
          go_ret
          exact ⟨rfl, HB2.out.trans (HB.out.mono HB2.out.size)⟩
end Go.Proofs.Ytefmlepogpjhmaa
