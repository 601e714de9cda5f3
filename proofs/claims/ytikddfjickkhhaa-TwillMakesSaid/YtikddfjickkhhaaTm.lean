/- Lemmas and contracts of functions (what each call returns, and that it changes nothing that was there) that the proof of a law of this seat uses; each lemma states its own conditions. -/
import Derived.Test.YtikddfjickkhhaaMl9
namespace Go.Proofs.Ytikddfjickkhhaa
open Go.RowKit
set_option linter.unusedVariables false
set_option linter.unusedSimpArgs false
open Lo Tw
theorem IsBools.over {w w' : World} {a : Option Addr} {n : Nat} {bs : List Bool} {k : Nat} {W H : Int} {A : Option Addr} {m C : Nat} (h : IsBools w a n bs) (hn : n ≤ 9223372036854775807) (hr : w.rowIs k 26 3 (tF W H (.slice A m C))) (hX : BelowX w.heap.size k w w') : IsBools w' a n bs :=
  (OkT.over (c := n) ⟨h, Nat.le_refl _, hn⟩ hr hX).bits
set_option maxRecDepth 100000 in
set_option maxHeartbeats 8000000 in
theorem makes_walk (a : Option Addr) (n c : Nat) (zs : List Int) (move ends : Int) (W1 H1 : Int) (a1 : Option Addr) (n1 c1 : Nat) (aa : List Bool) (w : World)
    (hi : IsInts w a n zs) (hn : n ≤ 9223372036854775807) (hm : (-9223372036854775808 ≤ move ∧ move ≤ 9223372036854775807)) (he : (-9223372036854775808 ≤ ends ∧ ends ≤ 9223372036854775807)) (hA : OkT w a1 n1 c1 aa) (u1 : (-9223372036854775808 ≤ W1 ∧ W1 ≤ 9223372036854775807)) (v1 : (-9223372036854775808 ≤ H1 ∧ H1 ≤ 9223372036854775807)) :
    Calls Try.prog 10 #[.slice a n c, .int .i64 (move), .int .i64 (ends), .agg #[.int .i64 (W1), .int .i64 (H1), .slice a1 n1 c1]] w fun e w' => e = .returned (.bool true) ∧ Below w.heap.size w w' := by
  have m1 : n1 ≤ 9223372036854775807 := Nat.le_trans hA.cap hA.lim
  obtain ⟨X, Y, np, Lp, pe, hnp, hP1, hP2⟩ := TwillU a n c zs move hn hm
  obtain ⟨nl, Ll, le, hnl, hL1, hL2⟩ := MovesU ends he
  obtain ⟨X2, Y2, nt, Lt, te, hnt, hT1, hT2⟩ := SatinU ends move he hm
  obtain ⟨be, fe, hF1, hF2⟩ := EvenU W1 H1 a1 n1 c1 aa u1 v1 m1
  have HI := Lib.hid hi
  have HA := Lib.hid hA
  have HP1 := Lib.hid hP1; have HP2 := Lib.hid hP2
  have HT1 := Lib.hid hT1; have HT2 := Lib.hid hT2
  have HL1 := Lib.hid hL1; have HL2 := Lib.hid hL2
  have HF1 := Lib.hid hF1; have HF2 := Lib.hid hF2
  clear hi hA hP1 hP2 hT1 hT2 hL1 hL2 hF1 hF2
  go_enter Try.func10, Try.ntmps10
  go_wp2_with fail
  refine (HP1.out _ (HI.out.below (by repeat (first | exact Below.refl _ _ | refine Below.drew ?_ | refine below_drewN ?_ _ | refine Below.alloc ?_ (by first | exact Nat.le_refl _ | (simp; done) | (simp; omega) | omega) _ | refine Below.setCell ?_ (by first | exact Nat.le_refl _ | (simp; done) | (simp; omega) | omega) _ | refine bExtW ?_ (by first | exact Nat.le_refl _ | (simp; done) | (simp; omega) | omega) | refine Below.trans ?_ (Below.mono (by assumption) (by first | exact Nat.le_refl _ | (simp; done) | (simp; omega) | omega)))))).mono ?_
  rintro r wx ⟨A1, C1, rfl, hT, hb⟩
  obtain ⟨E1, d1, rfl⟩ := bExt hb
  have HX1 := Lib.hid hT
  clear hb hT
  go_wp2_with fail
  refine (HP2.out _ (HI.out.below (by repeat (first | exact Below.refl _ _ | refine Below.drew ?_ | refine below_drewN ?_ _ | refine Below.alloc ?_ (by first | exact Nat.le_refl _ | (simp; done) | (simp; omega) | omega) _ | refine Below.setCell ?_ (by first | exact Nat.le_refl _ | (simp; done) | (simp; omega) | omega) _ | refine bExtW ?_ (by first | exact Nat.le_refl _ | (simp; done) | (simp; omega) | omega) | refine Below.trans ?_ (Below.mono (by assumption) (by first | exact Nat.le_refl _ | (simp; done) | (simp; omega) | omega)))))).mono ?_
  rintro r wx ⟨A2, C2, rfl, hT, hb⟩
  obtain ⟨E2, d2, rfl⟩ := bExt hb
  have HX2 := Lib.hid hT
  clear hb hT
  go_wp2_with fail
  refine (Same_any X Y A1 np C1 Lp X Y A2 np C2 Lp _ (HX1.out.below (by repeat (first | exact Below.refl _ _ | refine Below.drew ?_ | refine below_drewN ?_ _ | refine Below.alloc ?_ (by first | exact Nat.le_refl _ | (simp; done) | (simp; omega) | omega) _ | refine Below.setCell ?_ (by first | exact Nat.le_refl _ | (simp; done) | (simp; omega) | omega) _ | refine bExtW ?_ (by first | exact Nat.le_refl _ | (simp; done) | (simp; omega) | omega) | refine Below.trans ?_ (Below.mono (by assumption) (by first | exact Nat.le_refl _ | (simp; done) | (simp; omega) | omega))))) (HX2.out.below (by repeat (first | exact Below.refl _ _ | refine Below.drew ?_ | refine below_drewN ?_ _ | refine Below.alloc ?_ (by first | exact Nat.le_refl _ | (simp; done) | (simp; omega) | omega) _ | refine Below.setCell ?_ (by first | exact Nat.le_refl _ | (simp; done) | (simp; omega) | omega) _ | refine bExtW ?_ (by first | exact Nat.le_refl _ | (simp; done) | (simp; omega) | omega) | refine Below.trans ?_ (Below.mono (by assumption) (by first | exact Nat.le_refl _ | (simp; done) | (simp; omega) | omega))))) hnp hnp).mono ?_
  rw [decide_eq_true (p := (X = X ∧ Y = Y ∧ Lp = Lp)) ⟨rfl, rfl, rfl⟩]
  rintro r wx ⟨rfl, hb⟩
  obtain ⟨E3, d3, rfl⟩ := bExt hb
  clear hb
  go_wp2_with fail
  refine (HL1.out _).mono ?_
  rintro r wx ⟨A4, C4, rfl, hT, hb⟩
  obtain ⟨E4, d4, rfl⟩ := bExt hb
  have HX4 := Lib.hid hT
  clear hb hT
  go_wp2_with fail
  refine (HL2.out _).mono ?_
  rintro r wx ⟨A5, C5, rfl, hT, hb⟩
  obtain ⟨E5, d5, rfl⟩ := bExt hb
  have HX5 := Lib.hid hT
  clear hb hT
  go_wp2_with fail
  refine (SameNumbers_any A4 nl C4 Ll A5 nl C5 Ll _ (HX4.out.below (by repeat (first | exact Below.refl _ _ | refine Below.drew ?_ | refine below_drewN ?_ _ | refine Below.alloc ?_ (by first | exact Nat.le_refl _ | (simp; done) | (simp; omega) | omega) _ | refine Below.setCell ?_ (by first | exact Nat.le_refl _ | (simp; done) | (simp; omega) | omega) _ | refine bExtW ?_ (by first | exact Nat.le_refl _ | (simp; done) | (simp; omega) | omega) | refine Below.trans ?_ (Below.mono (by assumption) (by first | exact Nat.le_refl _ | (simp; done) | (simp; omega) | omega))))) (HX5.out.below (by repeat (first | exact Below.refl _ _ | refine Below.drew ?_ | refine below_drewN ?_ _ | refine Below.alloc ?_ (by first | exact Nat.le_refl _ | (simp; done) | (simp; omega) | omega) _ | refine Below.setCell ?_ (by first | exact Nat.le_refl _ | (simp; done) | (simp; omega) | omega) _ | refine bExtW ?_ (by first | exact Nat.le_refl _ | (simp; done) | (simp; omega) | omega) | refine Below.trans ?_ (Below.mono (by assumption) (by first | exact Nat.le_refl _ | (simp; done) | (simp; omega) | omega))))) hnl hnl).mono ?_
  rw [decide_eq_true (p := (Ll = Ll)) rfl]
  rintro r wx ⟨rfl, hb⟩
  obtain ⟨E6, d6, rfl⟩ := bExt hb
  clear hb
  go_wp2_with fail
  have hq := rowBelow (tF_alloc w W1 H1 (.slice a1 n1 c1) rfl) (show Below (w.alloc (.cells #[.int .i64 (W1), .int .i64 (H1), .slice a1 n1 c1] 26)).heap.size (w.alloc (.cells #[.int .i64 (W1), .int .i64 (H1), .slice a1 n1 c1] 26)) (extW (extW (extW (extW ((extW ((extW (w.alloc (.cells #[.int .i64 (W1), .int .i64 (H1), .slice a1 n1 c1] 26)) E1 d1).alloc (.cells #[.int .i64 (X), .int .i64 (Y), .slice A1 np C1] 26)) E2 d2).alloc (.cells #[.int .i64 (X), .int .i64 (Y), .slice A2 np C2] 26)) E3 d3) E4 d4) E5 d5) E6 d6) from (by repeat (first | exact Below.refl _ _ | refine Below.drew ?_ | refine below_drewN ?_ _ | refine Below.alloc ?_ (by first | exact Nat.le_refl _ | (simp; done) | (simp; omega) | omega) _ | refine Below.setCell ?_ (by first | exact Nat.le_refl _ | (simp; done) | (simp; omega) | omega) _ | refine bExtW ?_ (by first | exact Nat.le_refl _ | (simp; done) | (simp; omega) | omega) | refine Below.trans ?_ (Below.mono (by assumption) (by first | exact Nat.le_refl _ | (simp; done) | (simp; omega) | omega))))) (by simp)
  have h5 := rowBelow (tF_alloc (extW (w.alloc (.cells #[.int .i64 (W1), .int .i64 (H1), .slice a1 n1 c1] 26)) E1 d1) X Y (.slice A1 np C1) rfl) (show Below ((extW (w.alloc (.cells #[.int .i64 (W1), .int .i64 (H1), .slice a1 n1 c1] 26)) E1 d1).alloc (.cells #[.int .i64 (X), .int .i64 (Y), .slice A1 np C1] 26)).heap.size ((extW (w.alloc (.cells #[.int .i64 (W1), .int .i64 (H1), .slice a1 n1 c1] 26)) E1 d1).alloc (.cells #[.int .i64 (X), .int .i64 (Y), .slice A1 np C1] 26)) (extW (extW (extW (extW ((extW ((extW (w.alloc (.cells #[.int .i64 (W1), .int .i64 (H1), .slice a1 n1 c1] 26)) E1 d1).alloc (.cells #[.int .i64 (X), .int .i64 (Y), .slice A1 np C1] 26)) E2 d2).alloc (.cells #[.int .i64 (X), .int .i64 (Y), .slice A2 np C2] 26)) E3 d3) E4 d4) E5 d5) E6 d6) from (by repeat (first | exact Below.refl _ _ | refine Below.drew ?_ | refine below_drewN ?_ _ | refine Below.alloc ?_ (by first | exact Nat.le_refl _ | (simp; done) | (simp; omega) | omega) _ | refine Below.setCell ?_ (by first | exact Nat.le_refl _ | (simp; done) | (simp; omega) | omega) _ | refine bExtW ?_ (by first | exact Nat.le_refl _ | (simp; done) | (simp; omega) | omega) | refine Below.trans ?_ (Below.mono (by assumption) (by first | exact Nat.le_refl _ | (simp; done) | (simp; omega) | omega))))) (by rw [World.size_alloc]; omega)
  have h7 := rowBelow (tF_alloc (extW ((extW (w.alloc (.cells #[.int .i64 (W1), .int .i64 (H1), .slice a1 n1 c1] 26)) E1 d1).alloc (.cells #[.int .i64 (X), .int .i64 (Y), .slice A1 np C1] 26)) E2 d2) X Y (.slice A2 np C2) rfl) (show Below ((extW ((extW (w.alloc (.cells #[.int .i64 (W1), .int .i64 (H1), .slice a1 n1 c1] 26)) E1 d1).alloc (.cells #[.int .i64 (X), .int .i64 (Y), .slice A1 np C1] 26)) E2 d2).alloc (.cells #[.int .i64 (X), .int .i64 (Y), .slice A2 np C2] 26)).heap.size ((extW ((extW (w.alloc (.cells #[.int .i64 (W1), .int .i64 (H1), .slice a1 n1 c1] 26)) E1 d1).alloc (.cells #[.int .i64 (X), .int .i64 (Y), .slice A1 np C1] 26)) E2 d2).alloc (.cells #[.int .i64 (X), .int .i64 (Y), .slice A2 np C2] 26)) (extW (extW (extW (extW ((extW ((extW (w.alloc (.cells #[.int .i64 (W1), .int .i64 (H1), .slice a1 n1 c1] 26)) E1 d1).alloc (.cells #[.int .i64 (X), .int .i64 (Y), .slice A1 np C1] 26)) E2 d2).alloc (.cells #[.int .i64 (X), .int .i64 (Y), .slice A2 np C2] 26)) E3 d3) E4 d4) E5 d5) E6 d6) from (by repeat (first | exact Below.refl _ _ | refine Below.drew ?_ | refine below_drewN ?_ _ | refine Below.alloc ?_ (by first | exact Nat.le_refl _ | (simp; done) | (simp; omega) | omega) _ | refine Below.setCell ?_ (by first | exact Nat.le_refl _ | (simp; done) | (simp; omega) | omega) _ | refine bExtW ?_ (by first | exact Nat.le_refl _ | (simp; done) | (simp; omega) | omega) | refine Below.trans ?_ (Below.mono (by assumption) (by first | exact Nat.le_refl _ | (simp; done) | (simp; omega) | omega))))) (by rw [World.size_alloc]; omega)
  have hbw : Below w.heap.size w (extW (extW (extW (extW ((extW ((extW (w.alloc (.cells #[.int .i64 (W1), .int .i64 (H1), .slice a1 n1 c1] 26)) E1 d1).alloc (.cells #[.int .i64 (X), .int .i64 (Y), .slice A1 np C1] 26)) E2 d2).alloc (.cells #[.int .i64 (X), .int .i64 (Y), .slice A2 np C2] 26)) E3 d3) E4 d4) E5 d5) E6 d6) := (by repeat (first | exact Below.refl _ _ | refine Below.drew ?_ | refine below_drewN ?_ _ | refine Below.alloc ?_ (by first | exact Nat.le_refl _ | (simp; done) | (simp; omega) | omega) _ | refine Below.setCell ?_ (by first | exact Nat.le_refl _ | (simp; done) | (simp; omega) | omega) _ | refine bExtW ?_ (by first | exact Nat.le_refl _ | (simp; done) | (simp; omega) | omega) | refine Below.trans ?_ (Below.mono (by assumption) (by first | exact Nat.le_refl _ | (simp; done) | (simp; omega) | omega))))
  have hsz7 : (extW ((extW (w.alloc (.cells #[.int .i64 (W1), .int .i64 (H1), .slice a1 n1 c1] 26)) E1 d1).alloc (.cells #[.int .i64 (X), .int .i64 (Y), .slice A1 np C1] 26)) E2 d2).heap.size = w.heap.size + 1 + E1.size + 1 + E2.size := by simp
  have hsz5 : (extW (w.alloc (.cells #[.int .i64 (W1), .int .i64 (H1), .slice a1 n1 c1] 26)) E1 d1).heap.size = w.heap.size + 1 + E1.size := by simp
  rw [hsz5] at h5
  rw [hsz7] at h7
  generalize (extW (extW (extW (extW ((extW ((extW (w.alloc (.cells #[.int .i64 (W1), .int .i64 (H1), .slice a1 n1 c1] 26)) E1 d1).alloc (.cells #[.int .i64 (X), .int .i64 (Y), .slice A1 np C1] 26)) E2 d2).alloc (.cells #[.int .i64 (X), .int .i64 (Y), .slice A2 np C2] 26)) E3 d3) E4 d4) E5 d5) E6 d6) = W5 at *
  obtain ⟨q, hqe⟩ : ∃ q, q = w.heap.size := ⟨_, rfl⟩
  rw [← hqe] at hq h5 h7 ⊢
  obtain ⟨k5, hk5⟩ : ∃ k, q + 1 + E1.size = k := ⟨_, rfl⟩
  rw [hk5] at h5 h7 ⊢
  obtain ⟨k7, hk7⟩ : ∃ k, k5 + 1 + E2.size = k := ⟨_, rfl⟩
  rw [hk7] at h7 ⊢
  have hq5 : q < k5 := by omega
  have h57 : k5 < k7 := by omega
  have HQW := Lib.hid hqe
  clear hsz5 hsz7 hk5 hk7 hqe HX1 HX2 HX4 HX5
  refine (HT1.out _).mono ?_
  rintro r wx ⟨A4, C4, rfl, hT, hb⟩
  obtain ⟨E4, d4, rfl⟩ := bExt hb
  have HX4 := Lib.hid hT
  have hqx := rowBelow hq hb hq.lt
  have h5x := rowBelow h5 hb h5.lt
  have h7x := rowBelow h7 hb h7.lt
  have hbwx := hbw.trans (hb.mono hbw.size)
  clear hb hT hq h5 h7 hbw
  generalize extW W5 E4 d4 = W6 at *
  have q0 : W6.cell? ⟨q, 0, none⟩ = some (.int .i64 (W1)) := hqx.cell (i := 0) (by omega)
  have q1 : W6.cell? ⟨q, 1, none⟩ = some (.int .i64 (H1)) := hqx.cell (i := 1) (by omega)
  have q2 : W6.cell? ⟨q, 2, none⟩ = some (.slice a1 n1 c1) := hqx.cell (i := 2) (by omega)
  have r0 : W6.cell? ⟨k5, 0, none⟩ = some (.int .i64 (X)) := h5x.cell (i := 0) (by omega)
  have r1 : W6.cell? ⟨k5, 1, none⟩ = some (.int .i64 (Y)) := h5x.cell (i := 1) (by omega)
  have r2 : W6.cell? ⟨k5, 2, none⟩ = some (.slice A1 np C1) := h5x.cell (i := 2) (by omega)
  have f0 := h5x.frozen 0; have f1 := h5x.frozen 1; have f2 := h5x.frozen 2
  have nq : ¬ q = k5 := by omega
  have nq' : ¬ k5 = q := by omega
  have HQX := Lib.hid hqx; have H5X := Lib.hid h5x; have H7X := Lib.hid h7x; have HBX := Lib.hid hbwx
  clear hqx h5x h7x hbwx
  go_wp2_with fail
  have hX := (((BelowX.refl (base := W6.heap.size) (mb := k5) (W := W6) (Nat.le_refl _)).set 0 (.int .i64 (X2))).set 1 (.int .i64 (Y2))).set 2 (.slice A4 nt C4)
  have HX4' := Lib.hid (HX4.out.over hnt H5X.out hX)
  have hq := hX.rowIs HQX.out HQX.out.lt nq
  have h7 := hX.rowIs H7X.out H7X.out.lt (by omega)
  have h5 := (((H5X.out.set 0 (.int .i64 (X2))).set 1 (.int .i64 (Y2))).set 2 (.slice A4 nt C4)).congr (g := tF X2 Y2 (.slice A4 nt C4)) (fun i hi => by
    have hi3 : i = 0 ∨ i = 1 ∨ i = 2 := by omega
    rcases hi3 with rfl | rfl | rfl <;> rfl)
  have hbw := ((HBX.out.setCell (p := ⟨k5, 0, none⟩) (by simp; have := HQW.out; omega) (.int .i64 (X2))).setCell (p := ⟨k5, 1, none⟩) (by simp; have := HQW.out; omega) (.int .i64 (Y2))).setCell (p := ⟨k5, 2, none⟩) (by simp; have := HQW.out; omega) (.slice A4 nt C4)
  generalize ((W6.setCell ⟨k5, 0, none⟩ (.int .i64 (X2))).setCell ⟨k5, 1, none⟩ (.int .i64 (Y2))).setCell ⟨k5, 2, none⟩ (.slice A4 nt C4) = W7 at *
  clear q0 q1 q2 r0 r1 r2 f0 f1 f2 HQX H5X H7X HBX hX HX4
  refine (HT2.out _).mono ?_
  rintro r wx ⟨A5, C5, rfl, hT, hb⟩
  obtain ⟨E5, d5, rfl⟩ := bExt hb
  have HX5 := Lib.hid hT
  have HX4 := Lib.hid (HX4'.out.below hb)
  have hqx := rowBelow hq hb hq.lt
  have h5x := rowBelow h5 hb h5.lt
  have h7x := rowBelow h7 hb h7.lt
  have hbwx := hbw.trans (hb.mono hbw.size)
  clear hb hT hq h5 h7 hbw HX4'
  generalize extW W7 E5 d5 = W8 at *
  have hX := (((BelowX.refl (base := W8.heap.size) (mb := k7) (W := W8) (Nat.le_refl _)).set 0 (.int .i64 (X2))).set 1 (.int .i64 (Y2))).set 2 (.slice A5 nt C5)
  have HY4 := Lib.hid (HX4.out.over hnt h7x hX)
  have HY5 := Lib.hid (HX5.out.over hnt h7x hX)
  have HQY := Lib.hid (hX.rowIs hqx hqx.lt (by omega))
  have HBY := Lib.hid (((hbwx.setCell (p := ⟨k7, 0, none⟩) (by simp; have := HQW.out; omega) (.int .i64 (X2))).setCell (p := ⟨k7, 1, none⟩) (by simp; have := HQW.out; omega) (.int .i64 (Y2))).setCell (p := ⟨k7, 2, none⟩) (by simp; have := HQW.out; omega) (.slice A5 nt C5))
  have q0 : W8.cell? ⟨k5, 0, none⟩ = some (.int .i64 (X2)) := h5x.cell (i := 0) (by omega)
  have q1 : W8.cell? ⟨k5, 1, none⟩ = some (.int .i64 (Y2)) := h5x.cell (i := 1) (by omega)
  have q2 : W8.cell? ⟨k5, 2, none⟩ = some (.slice A4 nt C4) := h5x.cell (i := 2) (by omega)
  have r0 : W8.cell? ⟨k7, 0, none⟩ = some (.int .i64 (X)) := h7x.cell (i := 0) (by omega)
  have r1 : W8.cell? ⟨k7, 1, none⟩ = some (.int .i64 (Y)) := h7x.cell (i := 1) (by omega)
  have r2 : W8.cell? ⟨k7, 2, none⟩ = some (.slice A2 np C2) := h7x.cell (i := 2) (by omega)
  have f0 := h7x.frozen 0; have f1 := h7x.frozen 1; have f2 := h7x.frozen 2
  have n57 : ¬ k5 = k7 := by omega
  have n75 : ¬ k7 = k5 := by omega
  clear hqx h5x h7x hbwx hX HX4 HX5
  go_wp2_with fail
  generalize ((W8.setCell ⟨k7, 0, none⟩ (.int .i64 (X2))).setCell ⟨k7, 1, none⟩ (.int .i64 (Y2))).setCell ⟨k7, 2, none⟩ (.slice A5 nt C5) = W9 at *
  clear q0 q1 q2 r0 r1 r2 f0 f1 f2 nq nq' n57 n75
  refine (Same_any X2 Y2 A4 nt C4 Lt X2 Y2 A5 nt C5 Lt _ HY4.out HY5.out hnt hnt).mono ?_
  rw [decide_eq_true (p := (X2 = X2 ∧ Y2 = Y2 ∧ Lt = Lt)) ⟨rfl, rfl, rfl⟩]
  rintro r wx ⟨rfl, hb⟩
  have hq := rowBelow HQY.out hb HQY.out.lt
  have hbw := HBY.out.trans (hb.mono HBY.out.size)
  clear hb
  generalize wx = W10 at *
  have q0 : W10.cell? ⟨q, 0, none⟩ = some (.int .i64 (W1)) := hq.cell (i := 0) (by omega)
  have q1 : W10.cell? ⟨q, 1, none⟩ = some (.int .i64 (H1)) := hq.cell (i := 1) (by omega)
  have q2 : W10.cell? ⟨q, 2, none⟩ = some (.slice a1 n1 c1) := hq.cell (i := 2) (by omega)
  have lq : LtW q W10 := hq.lt
  have HA10 := Lib.hid (HA.out.below hbw)
  have HBW := Lib.hid hbw
  clear hq hbw
  (go_wp2_with fail; refine (HF1.out _ (HA10.out.below (by repeat (first | exact Below.refl _ _ | refine Below.drew ?_ | refine below_drewN ?_ _ | refine Below.alloc ?_ (by first | exact Nat.le_refl _ | (simp; done) | (simp; omega) | omega) _ | refine Below.setCell ?_ (by first | exact Nat.le_refl _ | (simp; done) | (simp; omega) | omega) _ | refine bExtW ?_ (by first | exact Nat.le_refl _ | (simp; done) | (simp; omega) | omega) | refine Below.trans ?_ (Below.mono (by assumption) (by first | exact Nat.le_refl _ | (simp; done) | (simp; omega) | omega)))))).mono ?_; rintro r w1 ⟨rfl, hb⟩; obtain ⟨E, d, rfl⟩ := bExt hb; clear hb)
  (go_wp2_with fail; refine (HF2.out _ (HA10.out.below (by repeat (first | exact Below.refl _ _ | refine Below.drew ?_ | refine below_drewN ?_ _ | refine Below.alloc ?_ (by first | exact Nat.le_refl _ | (simp; done) | (simp; omega) | omega) _ | refine Below.setCell ?_ (by first | exact Nat.le_refl _ | (simp; done) | (simp; omega) | omega) _ | refine bExtW ?_ (by first | exact Nat.le_refl _ | (simp; done) | (simp; omega) | omega) | refine Below.trans ?_ (Below.mono (by assumption) (by first | exact Nat.le_refl _ | (simp; done) | (simp; omega) | omega)))))).mono ?_; rintro r w1 ⟨rfl, hb⟩; obtain ⟨E, d, rfl⟩ := bExt hb; clear hb)
  go_wp2
  go_ret
  exact ⟨by simp, HBW.out.trans ((show Below W10.heap.size W10 _ from (by repeat (first | exact Below.refl _ _ | refine Below.drew ?_ | refine below_drewN ?_ _ | refine Below.alloc ?_ (by first | exact Nat.le_refl _ | (simp; done) | (simp; omega) | omega) _ | refine Below.setCell ?_ (by first | exact Nat.le_refl _ | (simp; done) | (simp; omega) | omega) _ | refine bExtW ?_ (by first | exact Nat.le_refl _ | (simp; done) | (simp; omega) | omega) | refine Below.trans ?_ (Below.mono (by assumption) (by first | exact Nat.le_refl _ | (simp; done) | (simp; omega) | omega))))).mono HBW.out.size)⟩
end Go.Proofs.Ytikddfjickkhhaa
