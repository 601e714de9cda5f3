/- Lemmas and contracts of functions (what each call returns, and that it changes nothing that was there) that the proof of a law of this seat uses; each lemma states its own conditions. -/
import Derived.Test.YtkffljkgblcgdaaDr5
namespace Go.Proofs.Ytkffljkgblcgdaa
open Go.RowKit
set_option linter.unusedVariables false
set_option linter.unusedSimpArgs false
open Lo
theorem tr_lt {W H : Nat} {bs : List Bool} : ∀ x ∈ trL W H bs, x < (picks W H bs).length := by
  intro x hx
  obtain ⟨j, hj, rfl⟩ := List.getElem_of_mem hx
  have hj' := hj
  rw [trL_len] at hj'
  have a := (frs_row (rowL bs W) hj').1
  rw [← alike_gS] at a
  change (trL W H bs).getD j 0 < (picks W H bs).length at a
  rwa [List.getD_eq_getElem?_getD, List.getElem?_eq_getElem hj] at a
theorem th_lt {W H : Nat} {bs : List Bool} : ∀ x ∈ thL W H bs, x < (ends W H bs).length := tr_lt (W := H) (H := W) (bs := turnL W H bs)
theorem usedN_nat (L : List Nat) (n : Nat) : usedN (fun i => (natI L).getD i 0) n = usedN (fun i => L.getD i 0) n := usedN_eq fun i j _ _ => by
  simp only [natI_getN]; omega
theorem draw_few (W H : Nat) (bs : List Bool) (hW : W ≤ 64) (hH : H ≤ 64) (hp : 0 < W * H) (hl : bs.length = W * H) (A1 A2 A5 : Option Addr) (c1 c2 c5 : Nat) (w : World) (h1 : IsInts w A1 W (natI (thL W H bs))) (h2 : IsInts w A2 H (natI (trL W H bs))) (h5 : OkT w A5 ((ends W H bs).length * (picks W H bs).length) c5 (tieL W H bs)) :
    Calls Try.prog 17 #[.agg #[.slice A1 W c1, .int .i64 ((ends W H bs).length), .int .i64 ((picks W H bs).length), .slice A5 ((ends W H bs).length * (picks W H bs).length) c5, .slice A2 H c2]] w (TruPost W H (W * H) bs w) := by
  have hW0 : 0 < W := Nat.pos_of_ne_zero fun e => by rw [e, Nat.zero_mul] at hp; omega
  have hH0 : 0 < H := Nat.pos_of_ne_zero fun e => by rw [e, Nat.mul_zero] at hp; omega
  have := dDraw_ok A1 W c1 (thL W H bs) (ends W H bs).length (picks W H bs).length A5 ((ends W H bs).length * (picks W H bs).length) c5 (tieL W H bs) A2 H c2 (trL W H bs) w h1 h2 h5 (Nat.le_trans (frs_len_le _ _) hW) (Nat.le_trans (frs_len_le _ _) hH) rfl (thL_len _ _ _) (trL_len _ _ _) hW0 hW hH0 hH th_lt tr_lt
  rwa [dd_fewest hl] at this
theorem used_few1 (W H : Nat) (bs : List Bool) (hW : W ≤ 64) (A : Option Addr) (c : Nat) (w : World) (h : IsInts w A W (natI (thL W H bs))) :
    Calls Try.prog 19 #[.slice A W c] w fun e w' => e = .returned (.int .i64 ((ends W H bs).length)) ∧ Below w.heap.size w w' := by
  have := used_any A W c _ w h hW
  rwa [usedN_nat, used_th.1] at this
theorem used_few2 (W H : Nat) (bs : List Bool) (hH : H ≤ 64) (A : Option Addr) (c : Nat) (w : World) (h : IsInts w A H (natI (trL W H bs))) :
    Calls Try.prog 19 #[.slice A H c] w fun e w' => e = .returned (.int .i64 ((picks W H bs).length)) ∧ Below w.heap.size w w' := by
  have := used_any A H c _ w h hH
  rwa [usedN_nat, used_tr.1] at this
theorem same_self (W H : Nat) (n : Nat) (bs : List Bool) (hn : n ≤ 4096) (a1 a2 : Option Addr) (c1 c2 : Nat) (w : World) (h1 : OkT w a1 n c1 bs) (h2 : OkT w a2 n c2 bs) :
    Calls Try.prog 18 #[.agg #[.int .i64 (W), .int .i64 (H), .slice a1 n c1], .agg #[.int .i64 (W), .int .i64 (H), .slice a2 n c2]] w fun e w' => e = .returned (.bool true) ∧ Below w.heap.size w w' := by
  have := Same_any W H a1 n c1 bs W H a2 n c2 bs w h1.bits h2.bits (by omega) (by omega)
  rwa [decide_eq_true (p := (((W : Nat) : Int) = ((W : Nat) : Int) ∧ ((H : Nat) : Int) = ((H : Nat) : Int) ∧ bs = bs)) ⟨rfl, rfl, rfl⟩] at this
def FewG (W H et pt : Nat) (TH TR : List Int) (TIE : List Bool) (w : World) (r : Ending) (w' : World) : Prop := ∃ A1 c1 A2 c2 A5 c5, r = .returned (.tuple #[.agg #[.slice A1 W c1, .int .i64 (et), .int .i64 (pt), .slice A5 (et * pt) c5, .slice A2 H c2], .int .i64 (0)]) ∧ IsInts w' A1 W TH ∧ OkT w' A5 (et * pt) c5 TIE ∧ IsInts w' A2 H TR ∧ Below w.heap.size w w' ∧ (∀ b o, A1 = some ⟨b, o, none⟩ → w.heap.size ≤ b) ∧ (∀ b o, A2 = some ⟨b, o, none⟩ → w.heap.size ≤ b) ∧ ∀ b o, A5 = some ⟨b, o, none⟩ → w.heap.size ≤ b
/-- What is known of the fewest draft of a truth. -/
structure FK (W H n : Nat) (bs : List Bool) (et pt : Nat) (TH TR : List Int) (TIE : List Bool) : Prop where
  few : ∀ (a : Option Addr) (c : Nat) (w : World), OkT w a n c bs → Calls Try.prog 16 #[.agg #[.int .i64 (W), .int .i64 (H), .slice a n c]] w (FewG W H et pt TH TR TIE w)
  draw : ∀ (A1 A2 A5 : Option Addr) (c1 c2 c5 : Nat) (w : World), IsInts w A1 W TH → IsInts w A2 H TR → OkT w A5 (et * pt) c5 TIE → Calls Try.prog 17 #[.agg #[.slice A1 W c1, .int .i64 (et), .int .i64 (pt), .slice A5 (et * pt) c5, .slice A2 H c2]] w (TruPost W H n bs w)
  u1 : ∀ (A : Option Addr) (c : Nat) (w : World), IsInts w A W TH → Calls Try.prog 19 #[.slice A W c] w fun e w' => e = .returned (.int .i64 (et)) ∧ Below w.heap.size w w'
  u2 : ∀ (A : Option Addr) (c : Nat) (w : World), IsInts w A H TR → Calls Try.prog 19 #[.slice A H c] w fun e w' => e = .returned (.int .i64 (pt)) ∧ Below w.heap.size w w'
  same : ∀ (a1 a2 : Option Addr) (c1 c2 : Nat) (w : World), OkT w a1 n c1 bs → OkT w a2 n c2 bs → Calls Try.prog 18 #[.agg #[.int .i64 (W), .int .i64 (H), .slice a1 n c1], .agg #[.int .i64 (W), .int .i64 (H), .slice a2 n c2]] w fun e w' => e = .returned (.bool true) ∧ Below w.heap.size w w'
theorem FK.of (W H n : Nat) (bs : List Bool) (hW : W ≤ 64) (hH : H ≤ 64) (hn : n = W * H) (hp : 0 < n) (hl : bs.length = n) : FK W H n bs (ends W H bs).length (picks W H bs).length (natI (thL W H bs)) (natI (trL W H bs)) (tieL W H bs) := by
  have hn4 : n ≤ 4096 := by rw [hn]; exact mul64n hW hH
  subst hn
  exact ⟨fun a c w h => dFew_ok W H (W * H) a c bs w h hW hH rfl hp, fun A1 A2 A5 c1 c2 c5 w h1 h2 h5 => draw_few W H bs hW hH hp hl A1 A2 A5 c1 c2 c5 w h1 h2 h5, fun A c w h => used_few1 W H bs hW A c w h, fun A c w h => used_few2 W H bs hH A c w h, fun a1 a2 c1 c2 w h1 h2 => same_self W H (W * H) bs hn4 a1 a2 c1 c2 w h1 h2⟩
set_option maxRecDepth 100000 in
set_option maxHeartbeats 8000000 in
theorem fw_bb (tha : Option Addr) (nt ct : Nat) (th : List Int) (W H : Int) (a : Option Addr) (n c : Nat) (tra : Option Addr) (nr cr : Nat) (tr : List Int) (MW MH : Int) (ma : Option Addr) (mn mc : Nat) (mb : List Bool) (e1 e2 : Int) (w : World) (hth : IsInts w tha nt th) (htr : IsInts w tra nr tr) (hM : OkT w ma mn mc mb)
    (k1 : Hid (e1 ≠ 0 ∧ ∀ w, OkT w ma mn mc mb → Calls Try.prog 16 #[.agg #[.int .i64 (MW), .int .i64 (MH), .slice ma mn mc]] w fun e w' => e = .returned (.tuple #[.agg #[.slice none 0 0, .int .i64 (0), .int .i64 (0), .slice none 0 0, .slice none 0 0], .int .i64 (e1)]) ∧ Below w.heap.size w w'))
    (k2 : Hid (e2 ≠ 0 ∧ ∀ w, IsInts w tha nt th → IsInts w tra nr tr → Calls Try.prog 17 #[.agg #[.slice tha nt ct, .int .i64 (W), .int .i64 (H), .slice a n c, .slice tra nr cr]] w fun e w' => e = .returned (.tuple #[.agg #[.int .i64 0, .int .i64 0, .slice none 0 0], .int .i64 (e2)]) ∧ Below w.heap.size w w')) :
    Calls Try.prog 3 #[.agg #[.slice tha nt ct, .int .i64 (W), .int .i64 (H), .slice a n c, .slice tra nr cr], .agg #[.int .i64 (MW), .int .i64 (MH), .slice ma mn mc]] w fun e w' => e = .returned (.bool true) ∧ Below w.heap.size w w' := by
  have g1 : (e1 == 0) = false := by simpa using k1.out.1
  have g2 : (e2 != 0) = true := by simpa using k2.out.1
  have HTH := Lib.hid hth; have HTR := Lib.hid htr; have HM := Lib.hid hM
  clear hth htr hM
  go_enter Try.func3, Try.ntmps3
  go_wp2_with fail
  refine (alive6_any _).mono ?_
  rintro r w1 ⟨rfl, hb⟩
  have hq1 := rowBelow ((dF_alloc w (.slice tha nt ct) W H (.slice a n c) (.slice tra nr cr)).alloc (.cells #[.int .i64 (MW), .int .i64 (MH), .slice ma mn mc] 25)) hb (by simp; omega)
  have hm1 := rowBelow (tF_alloc (w.alloc (.cells #[.slice tha nt ct, .int .i64 (W), .int .i64 (H), .slice a n c, .slice tra nr cr] 27)) MW MH (.slice ma mn mc) rfl) hb (by simp)
  have hb1 : Below w.heap.size w w1 := (by repeat (first | exact Below.refl _ _ | refine Below.drew ?_ | refine below_drewN ?_ _ | refine Below.alloc ?_ (by first | exact Nat.le_refl _ | (simp; done) | (simp; omega) | omega) _ | refine Below.setCell ?_ (by first | exact Nat.le_refl _ | (simp; done) | (simp; omega) | omega) _ | refine bExtW ?_ (by first | exact Nat.le_refl _ | (simp; done) | (simp; omega) | omega) | refine Below.trans ?_ (Below.mono (by assumption) (by first | exact Nat.le_refl _ | (simp; done) | (simp; omega) | omega))))
  rw [World.size_alloc] at hm1
  have HB0 := Lib.hid (Nat.le_refl w.heap.size)
  generalize hqe : w.heap.size = q at *
  have HQE := Lib.hid hqe
  clear hqe hb
  have q0 : w1.cell? ⟨q, 0, none⟩ = some (.slice tha nt ct) := hq1.cell (i := 0) (by omega)
  have q1 : w1.cell? ⟨q, 1, none⟩ = some (.int .i64 (W)) := hq1.cell (i := 1) (by omega)
  have q2 : w1.cell? ⟨q, 2, none⟩ = some (.int .i64 (H)) := hq1.cell (i := 2) (by omega)
  have q3 : w1.cell? ⟨q, 3, none⟩ = some (.slice a n c) := hq1.cell (i := 3) (by omega)
  have q4 : w1.cell? ⟨q, 4, none⟩ = some (.slice tra nr cr) := hq1.cell (i := 4) (by omega)
  have lq : LtW q w1 := hq1.lt
  have m0 : w1.cell? ⟨q + 1, 0, none⟩ = some (.int .i64 (MW)) := hm1.cell (i := 0) (by omega)
  have m1 : w1.cell? ⟨q + 1, 1, none⟩ = some (.int .i64 (MH)) := hm1.cell (i := 1) (by omega)
  have m2 : w1.cell? ⟨q + 1, 2, none⟩ = some (.slice ma mn mc) := hm1.cell (i := 2) (by omega)
  have lm : LtW (q + 1) w1 := hm1.lt
  have HQ1 := Lib.hid hq1; have HM1 := Lib.hid hm1; have HB1 := Lib.hid hb1
  clear hq1 hm1 hb1 HB0
  go_wp2_with fail
  refine (k1.out.2 _ (HM.out.below (by rw [HQE.out]; exact HB1.out))).mono ?_
  rintro r w2 ⟨rfl, hb2⟩
  have hq2 := rowBelow HQ1.out hb2 lq
  have hs2 := hb2.size
  have HB2 := Lib.hid (HB1.out.trans (hb2.mono (Nat.le_of_lt lq)))
  clear q0 q1 q2 q3 q4 lq m0 m1 m2 lm hb2
  have q0 : (w2).cell? ⟨q, 0, none⟩ = some (.slice tha nt ct) := (hq2).cell (i := 0) (by omega)
  have q1 : (w2).cell? ⟨q, 1, none⟩ = some (.int .i64 (W)) := (hq2).cell (i := 1) (by omega)
  have q2 : (w2).cell? ⟨q, 2, none⟩ = some (.int .i64 (H)) := (hq2).cell (i := 2) (by omega)
  have q3 : (w2).cell? ⟨q, 3, none⟩ = some (.slice a n c) := (hq2).cell (i := 3) (by omega)
  have q4 : (w2).cell? ⟨q, 4, none⟩ = some (.slice tra nr cr) := (hq2).cell (i := 4) (by omega)
  have lq : LtW q (w2) := (hq2).lt
  clear hq2
  go_wp2_with fail
  refine (k2.out.2 _ (HTH.out.below (by rw [HQE.out]; exact HB2.out.alloc (Nat.le_of_lt lq) _)) (HTR.out.below (by rw [HQE.out]; exact HB2.out.alloc (Nat.le_of_lt lq) _))).mono ?_
  rintro r w3 ⟨rfl, hb3⟩
  have hb3 : Below q w w3 := (HB2.out.alloc (Nat.le_of_lt lq) _).trans (hb3.mono (by simp; exact Nat.le_succ_of_le (Nat.le_of_lt lq)))
  have HB3 := Lib.hid hb3
  have hs3 := hb3.size
  clear hb3
  go_wp2
  go_ret
  exact ⟨rfl, by rw [HQE.out]; exact HB3.out.alloc (by have := HB3.out.size; rw [HQE.out] at this; exact this) _⟩
set_option maxRecDepth 100000 in
set_option maxHeartbeats 8000000 in
theorem fw_ob (tha : Option Addr) (nt ct : Nat) (th : List Int) (W H : Int) (a : Option Addr) (n c : Nat) (tra : Option Addr) (nr cr : Nat) (tr : List Int) (MW MH : Nat) (ma : Option Addr) (mn mc : Nat) (mb : List Bool) (eu pu : Nat) (TH TR : List Int) (TIE : List Bool) (e2 : Int) (w : World) (hth : IsInts w tha nt th) (htr : IsInts w tra nr tr) (hM : OkT w ma mn mc mb) (hmn : 0 < mn)
    (KF : FK MW MH mn mb eu pu TH TR TIE)
    (k2 : Hid (e2 ≠ 0 ∧ ∀ w, IsInts w tha nt th → IsInts w tra nr tr → Calls Try.prog 17 #[.agg #[.slice tha nt ct, .int .i64 (W), .int .i64 (H), .slice a n c, .slice tra nr cr]] w fun e w' => e = .returned (.tuple #[.agg #[.int .i64 0, .int .i64 0, .slice none 0 0], .int .i64 (e2)]) ∧ Below w.heap.size w w')) :
    Calls Try.prog 3 #[.agg #[.slice tha nt ct, .int .i64 (W), .int .i64 (H), .slice a n c, .slice tra nr cr], .agg #[.int .i64 (MW), .int .i64 (MH), .slice ma mn mc]] w fun e w' => e = .returned (.bool true) ∧ Below w.heap.size w w' := by
  have g2 : (e2 != 0) = true := by simpa using k2.out.1
  have HTH := Lib.hid hth; have HTR := Lib.hid htr; have HM := Lib.hid hM
  clear hth htr hM
  go_enter Try.func3, Try.ntmps3
  go_wp2_with fail
  refine (alive6_any _).mono ?_
  rintro r w1 ⟨rfl, hb⟩
  have hq1 := rowBelow ((dF_alloc w (.slice tha nt ct) W H (.slice a n c) (.slice tra nr cr)).alloc (.cells #[.int .i64 (MW), .int .i64 (MH), .slice ma mn mc] 25)) hb (by simp; omega)
  have hm1 := rowBelow (tF_alloc (w.alloc (.cells #[.slice tha nt ct, .int .i64 (W), .int .i64 (H), .slice a n c, .slice tra nr cr] 27)) MW MH (.slice ma mn mc) rfl) hb (by simp)
  have hb1 : Below w.heap.size w w1 := (by repeat (first | exact Below.refl _ _ | refine Below.drew ?_ | refine below_drewN ?_ _ | refine Below.alloc ?_ (by first | exact Nat.le_refl _ | (simp; done) | (simp; omega) | omega) _ | refine Below.setCell ?_ (by first | exact Nat.le_refl _ | (simp; done) | (simp; omega) | omega) _ | refine bExtW ?_ (by first | exact Nat.le_refl _ | (simp; done) | (simp; omega) | omega) | refine Below.trans ?_ (Below.mono (by assumption) (by first | exact Nat.le_refl _ | (simp; done) | (simp; omega) | omega))))
  rw [World.size_alloc] at hm1
  have HB0 := Lib.hid (Nat.le_refl w.heap.size)
  generalize hqe : w.heap.size = q at *
  have HQE := Lib.hid hqe
  clear hqe hb
  have q0 : w1.cell? ⟨q, 0, none⟩ = some (.slice tha nt ct) := hq1.cell (i := 0) (by omega)
  have q1 : w1.cell? ⟨q, 1, none⟩ = some (.int .i64 (W)) := hq1.cell (i := 1) (by omega)
  have q2 : w1.cell? ⟨q, 2, none⟩ = some (.int .i64 (H)) := hq1.cell (i := 2) (by omega)
  have q3 : w1.cell? ⟨q, 3, none⟩ = some (.slice a n c) := hq1.cell (i := 3) (by omega)
  have q4 : w1.cell? ⟨q, 4, none⟩ = some (.slice tra nr cr) := hq1.cell (i := 4) (by omega)
  have lq : LtW q w1 := hq1.lt
  have m0 : w1.cell? ⟨q + 1, 0, none⟩ = some (.int .i64 (MW)) := hm1.cell (i := 0) (by omega)
  have m1 : w1.cell? ⟨q + 1, 1, none⟩ = some (.int .i64 (MH)) := hm1.cell (i := 1) (by omega)
  have m2 : w1.cell? ⟨q + 1, 2, none⟩ = some (.slice ma mn mc) := hm1.cell (i := 2) (by omega)
  have lm : LtW (q + 1) w1 := hm1.lt
  have HQ1 := Lib.hid hq1; have HM1 := Lib.hid hm1; have HB1 := Lib.hid hb1
  clear hq1 hm1 hb1 HB0
  go_wp2_with fail
  refine (KF.few _ _ _ (HM.out.below (by rw [HQE.out]; exact HB1.out))).mono ?_
  rintro r w2 ⟨A1, c1, A2, c2, A5, c5, rfl, hI1, hT5, hI2, hb2, hg1, hg2, hg5⟩
  have hq2 := rowBelow HQ1.out hb2 lq
  have hm2 := rowBelow HM1.out hb2 lm
  have hs2 := hb2.size
  have hqs : q + 1 < w1.heap.size := lm
  have HB2 := Lib.hid (HB1.out.trans (hb2.mono (Nat.le_of_lt lq)))
  clear q0 q1 q2 q3 q4 lq m0 m1 m2 lm hb2 hg1 hg2 hg5 HQ1 HM1 HB1
  go_wp2_with fail
  refine (KF.draw A1 A2 A5 c1 c2 c5 _ (hI1.below (by repeat (first | exact Below.refl _ _ | refine Below.drew ?_ | refine below_drewN ?_ _ | refine Below.alloc ?_ (by first | exact Nat.le_refl _ | (simp; done) | (simp; omega) | omega) _ | refine Below.setCell ?_ (by first | exact Nat.le_refl _ | (simp; done) | (simp; omega) | omega) _ | refine bExtW ?_ (by first | exact Nat.le_refl _ | (simp; done) | (simp; omega) | omega) | refine Below.trans ?_ (Below.mono (by assumption) (by first | exact Nat.le_refl _ | (simp; done) | (simp; omega) | omega))))) (hI2.below (by repeat (first | exact Below.refl _ _ | refine Below.drew ?_ | refine below_drewN ?_ _ | refine Below.alloc ?_ (by first | exact Nat.le_refl _ | (simp; done) | (simp; omega) | omega) _ | refine Below.setCell ?_ (by first | exact Nat.le_refl _ | (simp; done) | (simp; omega) | omega) _ | refine bExtW ?_ (by first | exact Nat.le_refl _ | (simp; done) | (simp; omega) | omega) | refine Below.trans ?_ (Below.mono (by assumption) (by first | exact Nat.le_refl _ | (simp; done) | (simp; omega) | omega))))) (hT5.below (by repeat (first | exact Below.refl _ _ | refine Below.drew ?_ | refine below_drewN ?_ _ | refine Below.alloc ?_ (by first | exact Nat.le_refl _ | (simp; done) | (simp; omega) | omega) _ | refine Below.setCell ?_ (by first | exact Nat.le_refl _ | (simp; done) | (simp; omega) | omega) _ | refine bExtW ?_ (by first | exact Nat.le_refl _ | (simp; done) | (simp; omega) | omega) | refine Below.trans ?_ (Below.mono (by assumption) (by first | exact Nat.le_refl _ | (simp; done) | (simp; omega) | omega)))))).mono ?_
  rintro r w3 ⟨B, CB, rfl, hT3, hb3, hg3⟩
  have hq3 := rowBelow (hq2.alloc (.cells #[.slice A1 MW c1, .int .i64 (eu), .int .i64 (pu), .slice A5 (eu * pu) c5, .slice A2 MH c2] 27)) hb3 (by simp; omega)
  have hm3 := rowBelow (hm2.alloc (.cells #[.slice A1 MW c1, .int .i64 (eu), .int .i64 (pu), .slice A5 (eu * pu) c5, .slice A2 MH c2] 27)) hb3 (by simp; omega)
  have hf3 := rowBelow (dF_alloc w2 (.slice A1 MW c1) eu pu (.slice A5 (eu * pu) c5) (.slice A2 MH c2)) hb3 (by simp)
  have hI13 := (hI1.below (Below.alloc (Below.refl _ _) (Nat.le_refl _) (.cells #[.slice A1 MW c1, .int .i64 (eu), .int .i64 (pu), .slice A5 (eu * pu) c5, .slice A2 MH c2] 27))).below hb3
  have hI23 := (hI2.below (Below.alloc (Below.refl _ _) (Nat.le_refl _) (.cells #[.slice A1 MW c1, .int .i64 (eu), .int .i64 (pu), .slice A5 (eu * pu) c5, .slice A2 MH c2] 27))).below hb3
  have HB3 : Hid (Below q w w3) := Lib.hid ((HB2.out.alloc (by omega) _).trans (hb3.mono (by simp; omega)))
  have hs3 : w2.heap.size + 1 ≤ w3.heap.size := by have := hb3.size; simp at this; exact this
  clear hb3 hg3 hq2 hm2 hI1 hI2 hT5
  generalize hfb : w2.heap.size = fb at *
  clear hfb
  have m0 : w3.cell? ⟨q + 1, 0, none⟩ = some (.int .i64 (MW)) := hm3.cell (i := 0) (by omega)
  have m1 : w3.cell? ⟨q + 1, 1, none⟩ = some (.int .i64 (MH)) := hm3.cell (i := 1) (by omega)
  have m2 : w3.cell? ⟨q + 1, 2, none⟩ = some (.slice ma mn mc) := hm3.cell (i := 2) (by omega)
  have lm : LtW (q + 1) w3 := hm3.lt
  have f0 : w3.cell? ⟨fb, 0, none⟩ = some (.slice A1 MW c1) := hf3.cell (i := 0) (by omega)
  have f1 : w3.cell? ⟨fb, 1, none⟩ = some (.int .i64 (eu)) := hf3.cell (i := 1) (by omega)
  have f2 : w3.cell? ⟨fb, 2, none⟩ = some (.int .i64 (pu)) := hf3.cell (i := 2) (by omega)
  have f4 : w3.cell? ⟨fb, 4, none⟩ = some (.slice A2 MH c2) := hf3.cell (i := 4) (by omega)
  have lf : LtW fb w3 := hf3.lt
  have HQ3 := Lib.hid hq3; have HF3 := Lib.hid hf3; have HI1 := Lib.hid hI13; have HI2 := Lib.hid hI23; have HT3 := Lib.hid hT3
  have HM3 := Lib.hid (HM.out.below (by rw [HQE.out]; exact HB3.out))
  clear hq3 hm3 hf3 hI13 hI23 hT3
  go_wp2_with fail
  (refine wp_region_ext (by kernel_rfl) (by kernel_rfl) ?_; (repeat (first | ((with_reducible refine ext_step (fun K hK => ?_)); go_simp; first | (refine hK _ ?_; clear hK K) | (apply Exists.intro; refine ⟨fun _ _ => ?_, hK _ ?_⟩; (first | (go_at_call 18; exact extOf (KF.same B ma CB mc _ (HT3.out.below (by repeat (first | exact Below.refl _ _ | refine Below.drew ?_ | refine below_drewN ?_ _ | refine Below.alloc ?_ (by first | exact Nat.le_refl _ | (simp; done) | (simp; omega) | omega) _ | refine Below.setCell ?_ (by first | exact Nat.le_refl _ | (simp; done) | (simp; omega) | omega) _ | refine bExtW ?_ (by first | exact Nat.le_refl _ | (simp; done) | (simp; omega) | omega) | refine Below.trans ?_ (Below.mono (by assumption) (by first | exact Nat.le_refl _ | (simp; done) | (simp; omega) | omega))))) (HM3.out.below (by repeat (first | exact Below.refl _ _ | refine Below.drew ?_ | refine below_drewN ?_ _ | refine Below.alloc ?_ (by first | exact Nat.le_refl _ | (simp; done) | (simp; omega) | omega) _ | refine Below.setCell ?_ (by first | exact Nat.le_refl _ | (simp; done) | (simp; omega) | omega) _ | refine bExtW ?_ (by first | exact Nat.le_refl _ | (simp; done) | (simp; omega) | omega) | refine Below.trans ?_ (Below.mono (by assumption) (by first | exact Nat.le_refl _ | (simp; done) | (simp; omega) | omega))))))) | (go_at_call 19; with_reducible exact extOf (KF.u1 A1 c1 _ (HI1.out.below (by repeat (first | exact Below.refl _ _ | refine Below.drew ?_ | refine below_drewN ?_ _ | refine Below.alloc ?_ (by first | exact Nat.le_refl _ | (simp; done) | (simp; omega) | omega) _ | refine Below.setCell ?_ (by first | exact Nat.le_refl _ | (simp; done) | (simp; omega) | omega) _ | refine bExtW ?_ (by first | exact Nat.le_refl _ | (simp; done) | (simp; omega) | omega) | refine Below.trans ?_ (Below.mono (by assumption) (by first | exact Nat.le_refl _ | (simp; done) | (simp; omega) | omega))))))) | (go_at_call 19; with_reducible exact extOf (KF.u2 A2 c2 _ (HI2.out.below (by repeat (first | exact Below.refl _ _ | refine Below.drew ?_ | refine below_drewN ?_ _ | refine Below.alloc ?_ (by first | exact Nat.le_refl _ | (simp; done) | (simp; omega) | omega) _ | refine Below.setCell ?_ (by first | exact Nat.le_refl _ | (simp; done) | (simp; omega) | omega) _ | refine bExtW ?_ (by first | exact Nat.le_refl _ | (simp; done) | (simp; omega) | omega) | refine Below.trans ?_ (Below.mono (by assumption) (by first | exact Nat.le_refl _ | (simp; done) | (simp; omega) | omega)))))))); clear hK K)))); refine wpQuiet_nil ?_; intro E d)
  have hq8 := HQ3.out.alloc (.cells #[.int .i64 (MW), .int .i64 (MH), .slice B mn CB] 25)
  have hf8 := HF3.out.alloc (.cells #[.int .i64 (MW), .int .i64 (MH), .slice B mn CB] 25)
  have hb8 : Below (w3.alloc (.cells #[.int .i64 (MW), .int .i64 (MH), .slice B mn CB] 25)).heap.size (w3.alloc (.cells #[.int .i64 (MW), .int .i64 (MH), .slice B mn CB] 25)) (extW (w3.alloc (.cells #[.int .i64 (MW), .int .i64 (MH), .slice B mn CB] 25)) E d) := bExtW (Below.refl _ _) (Nat.le_refl _)
  have hq8 := rowBelow hq8 hb8 hq8.lt
  have hf8 := rowBelow hf8 hb8 hf8.lt
  have HB8 : Hid (Below q w (extW (w3.alloc (.cells #[.int .i64 (MW), .int .i64 (MH), .slice B mn CB] 25)) E d)) := Lib.hid ((HB3.out.alloc (by omega) _).trans (hb8.mono (by simp; omega)))
  clear hb8 m0 m1 m2 lm f0 f1 f2 f4 lf HQ3 HF3 HI1 HI2 HT3 HM3 HB3 HB2
  generalize extW (w3.alloc (.cells #[.int .i64 (MW), .int .i64 (MH), .slice B mn CB] 25)) E d = W8 at *
  have q0 : (W8).cell? ⟨q, 0, none⟩ = some (.slice tha nt ct) := (hq8).cell (i := 0) (by omega)
  have q1 : (W8).cell? ⟨q, 1, none⟩ = some (.int .i64 (W)) := (hq8).cell (i := 1) (by omega)
  have q2 : (W8).cell? ⟨q, 2, none⟩ = some (.int .i64 (H)) := (hq8).cell (i := 2) (by omega)
  have q3 : (W8).cell? ⟨q, 3, none⟩ = some (.slice a n c) := (hq8).cell (i := 3) (by omega)
  have q4 : (W8).cell? ⟨q, 4, none⟩ = some (.slice tra nr cr) := (hq8).cell (i := 4) (by omega)
  have lq : LtW q (W8) := (hq8).lt
  have lq' : q ≤ W8.heap.size := Nat.le_of_lt lq
  clear hq8
  go_wp2_with fail
  refine (k2.out.2 _ (HTH.out.below (by rw [HQE.out]; exact HB8.out)) (HTR.out.below (by rw [HQE.out]; exact HB8.out))).mono ?_
  rintro r w9 ⟨rfl, hb9⟩
  have HB9 : Hid (Below q w w9) := Lib.hid (HB8.out.trans (hb9.mono lq'))
  have hs9 := hb9.size
  clear hb9
  go_wp2
  go_ret
  exact ⟨rfl, by rw [HQE.out]; exact HB9.out.alloc (by have := HB9.out.size; rw [HQE.out] at this; exact this) _⟩
set_option maxRecDepth 100000 in
set_option maxHeartbeats 8000000 in
theorem fw_bo (tha : Option Addr) (nt ct : Nat) (th : List Int) (W H : Int) (a : Option Addr) (n c : Nat) (tie : List Bool) (tra : Option Addr) (nr cr : Nat) (tr : List Int) (MW MH : Int) (ma : Option Addr) (mn mc : Nat) (mb : List Bool) (ee : Int) (xn : Nat) (X : List Bool) (et pt : Nat) (TH TR : List Int) (TIE : List Bool) (n1 n2 : Nat) (w : World) (hth : IsInts w tha nt th) (htr : IsInts w tra nr tr) (htt : OkT w a n c tie) (hM : OkT w ma mn mc mb)
    (k1 : Hid (ee ≠ 0 ∧ ∀ w, OkT w ma mn mc mb → Calls Try.prog 16 #[.agg #[.int .i64 (MW), .int .i64 (MH), .slice ma mn mc]] w fun e w' => e = .returned (.tuple #[.agg #[.slice none 0 0, .int .i64 (0), .int .i64 (0), .slice none 0 0, .slice none 0 0], .int .i64 (ee)]) ∧ Below w.heap.size w w'))
    (KD : Hid (∀ w, IsInts w tha nt th → IsInts w tra nr tr → OkT w a n c tie → Calls Try.prog 17 #[.agg #[.slice tha nt ct, .int .i64 (W), .int .i64 (H), .slice a n c, .slice tra nr cr]] w (TruPost nt nr xn X w)))
    (KX : FK nt nr xn X et pt TH TR TIE)
    (KU1 : Hid (∀ w, IsInts w tha nt th → Calls Try.prog 19 #[.slice tha nt ct] w fun e w' => e = .returned (.int .i64 (n1)) ∧ Below w.heap.size w w'))
    (KU2 : Hid (∀ w, IsInts w tra nr tr → Calls Try.prog 19 #[.slice tra nr cr] w fun e w' => e = .returned (.int .i64 (n2)) ∧ Below w.heap.size w w')) (hg1 : et ≤ n1) (hg2 : pt ≤ n2) :
    Calls Try.prog 3 #[.agg #[.slice tha nt ct, .int .i64 (W), .int .i64 (H), .slice a n c, .slice tra nr cr], .agg #[.int .i64 (MW), .int .i64 (MH), .slice ma mn mc]] w fun e w' => e = .returned (.bool true) ∧ Below w.heap.size w w' := by
  have g1 : (ee == 0) = false := by simpa using k1.out.1
  have HTH := Lib.hid hth; have HTR := Lib.hid htr; have HTT := Lib.hid htt; have HM := Lib.hid hM
  have dc1 : decide ((et : Int) ≤ (n1 : Int)) = true := by simp; omega
  have dc2 : decide ((pt : Int) ≤ (n2 : Int)) = true := by simp; omega
  have dc3 : decide (et ≤ n1) = true := by simp; omega
  have dc4 : decide (pt ≤ n2) = true := by simp; omega
  clear hth htr htt hM
  go_enter Try.func3, Try.ntmps3
  go_wp2_with fail
  refine (alive6_any _).mono ?_
  rintro r w1 ⟨rfl, hb⟩
  have hq1 := rowBelow ((dF_alloc w (.slice tha nt ct) W H (.slice a n c) (.slice tra nr cr)).alloc (.cells #[.int .i64 (MW), .int .i64 (MH), .slice ma mn mc] 25)) hb (by simp; omega)
  have hm1 := rowBelow (tF_alloc (w.alloc (.cells #[.slice tha nt ct, .int .i64 (W), .int .i64 (H), .slice a n c, .slice tra nr cr] 27)) MW MH (.slice ma mn mc) rfl) hb (by simp)
  have hb1 : Below w.heap.size w w1 := (by repeat (first | exact Below.refl _ _ | refine Below.drew ?_ | refine below_drewN ?_ _ | refine Below.alloc ?_ (by first | exact Nat.le_refl _ | (simp; done) | (simp; omega) | omega) _ | refine Below.setCell ?_ (by first | exact Nat.le_refl _ | (simp; done) | (simp; omega) | omega) _ | refine bExtW ?_ (by first | exact Nat.le_refl _ | (simp; done) | (simp; omega) | omega) | refine Below.trans ?_ (Below.mono (by assumption) (by first | exact Nat.le_refl _ | (simp; done) | (simp; omega) | omega))))
  rw [World.size_alloc] at hm1
  have HB0 := Lib.hid (Nat.le_refl w.heap.size)
  generalize hqe : w.heap.size = q at *
  have HQE := Lib.hid hqe
  clear hqe hb
  have q0 : w1.cell? ⟨q, 0, none⟩ = some (.slice tha nt ct) := hq1.cell (i := 0) (by omega)
  have q1 : w1.cell? ⟨q, 1, none⟩ = some (.int .i64 (W)) := hq1.cell (i := 1) (by omega)
  have q2 : w1.cell? ⟨q, 2, none⟩ = some (.int .i64 (H)) := hq1.cell (i := 2) (by omega)
  have q3 : w1.cell? ⟨q, 3, none⟩ = some (.slice a n c) := hq1.cell (i := 3) (by omega)
  have q4 : w1.cell? ⟨q, 4, none⟩ = some (.slice tra nr cr) := hq1.cell (i := 4) (by omega)
  have lq : LtW q w1 := hq1.lt
  have m0 : w1.cell? ⟨q + 1, 0, none⟩ = some (.int .i64 (MW)) := hm1.cell (i := 0) (by omega)
  have m1 : w1.cell? ⟨q + 1, 1, none⟩ = some (.int .i64 (MH)) := hm1.cell (i := 1) (by omega)
  have m2 : w1.cell? ⟨q + 1, 2, none⟩ = some (.slice ma mn mc) := hm1.cell (i := 2) (by omega)
  have lm : LtW (q + 1) w1 := hm1.lt
  have HQ1 := Lib.hid hq1; have HM1 := Lib.hid hm1; have HB1 := Lib.hid hb1
  clear hq1 hm1 hb1 HB0
  go_wp2_with fail
  refine (k1.out.2 _ (HM.out.below (by rw [HQE.out]; exact HB1.out))).mono ?_
  rintro r w2 ⟨rfl, hb2⟩
  have hq2 := rowBelow HQ1.out hb2 lq
  have hs2 := hb2.size
  have hqs : q + 1 < w1.heap.size := lm
  have HB2 := Lib.hid (HB1.out.trans (hb2.mono (Nat.le_of_lt lq)))
  clear q0 q1 q2 q3 q4 lq m0 m1 m2 lm hb2
  have q0 : (w2).cell? ⟨q, 0, none⟩ = some (.slice tha nt ct) := (hq2).cell (i := 0) (by omega)
  have q1 : (w2).cell? ⟨q, 1, none⟩ = some (.int .i64 (W)) := (hq2).cell (i := 1) (by omega)
  have q2 : (w2).cell? ⟨q, 2, none⟩ = some (.int .i64 (H)) := (hq2).cell (i := 2) (by omega)
  have q3 : (w2).cell? ⟨q, 3, none⟩ = some (.slice a n c) := (hq2).cell (i := 3) (by omega)
  have q4 : (w2).cell? ⟨q, 4, none⟩ = some (.slice tra nr cr) := (hq2).cell (i := 4) (by omega)
  have lq : LtW q (w2) := (hq2).lt
  go_wp2_with fail
  have hq8 := hq2.alloc (.cells #[.slice none 0 0, .int .i64 (0), .int .i64 (0), .slice none 0 0, .slice none 0 0] 27)
  have hf8 := dF_alloc w2 (.slice none 0 0) 0 0 (.slice none 0 0) (.slice none 0 0)
  have hqf : q < w2.heap.size := lq
  have HB8 : Hid (Below q w (w2.alloc (.cells #[.slice none 0 0, .int .i64 (0), .int .i64 (0), .slice none 0 0, .slice none 0 0] 27))) := Lib.hid (HB2.out.alloc (Nat.le_of_lt hqf) _)
  clear q0 q1 q2 q3 q4 lq hq2 HB2
  generalize hW8 : w2.alloc (.cells #[.slice none 0 0, .int .i64 (0), .int .i64 (0), .slice none 0 0, .slice none 0 0] 27) = W8 at *
  clear hW8
  generalize hfb : w2.heap.size = fb at *
  clear hfb
  have q0 := 0; have q1 := 0; have q2 := 0; have q3 := 0; have q4 := 0; have lq := 0
  refine (KD.out _ (HTH.out.below (by rw [HQE.out]; exact HB8.out)) (HTR.out.below (by rw [HQE.out]; exact HB8.out)) (HTT.out.below (by rw [HQE.out]; exact HB8.out))).mono ?_
  rintro r w9 ⟨A, C, rfl, hT9, hb9, hg9⟩
  have hq9 := rowBelow hq8 hb9 hq8.lt
  have hf9 := rowBelow hf8 hb9 hf8.lt
  have hf8l : fb < W8.heap.size := hf8.lt
  have hs9 := hb9.size
  have HB9 : Hid (Below q w w9) := Lib.hid (HB8.out.trans (hb9.mono (by omega)))
  have HGA := Lib.hid hg9
  clear hb9 hg9 hq8 hf8 q0 q1 q2 q3 q4 lq
  go_wp2_with fail
  refine (KX.few _ _ _ (hT9.below (by repeat (first | exact Below.refl _ _ | refine Below.drew ?_ | refine below_drewN ?_ _ | refine Below.alloc ?_ (by first | exact Nat.le_refl _ | (simp; done) | (simp; omega) | omega) _ | refine Below.setCell ?_ (by first | exact Nat.le_refl _ | (simp; done) | (simp; omega) | omega) _ | refine bExtW ?_ (by first | exact Nat.le_refl _ | (simp; done) | (simp; omega) | omega) | refine Below.trans ?_ (Below.mono (by assumption) (by first | exact Nat.le_refl _ | (simp; done) | (simp; omega) | omega)))))).mono ?_
  rintro r w11 ⟨B1, d1, B2, d2, B5, d5, rfl, hJ1, hJ5, hJ2, hb11, hg1, hg2, hg5⟩
  have ht11 := rowBelow (tF_alloc w9 nt nr (.slice A xn C) rfl) hb11 (by simp)
  have hq11 := rowBelow (hq9.alloc (.cells #[.int .i64 (nt), .int .i64 (nr), .slice A xn C] 25)) hb11 (by simp; omega)
  have hf11 := rowBelow (hf9.alloc (.cells #[.int .i64 (nt), .int .i64 (nr), .slice A xn C] 25)) hb11 (by simp; omega)
  have hT11 := (hT9.below (Below.alloc (Below.refl _ _) (Nat.le_refl _) (.cells #[.int .i64 (nt), .int .i64 (nr), .slice A xn C] 25))).below hb11
  have HB11 : Hid (Below q w w11) := Lib.hid ((HB9.out.alloc (by omega) _).trans (hb11.mono (by simp; omega)))
  have hs11 : w9.heap.size + 1 ≤ w11.heap.size := by have := hb11.size; simp at this; exact this
  have HG1 : Hid (∀ b o, B1 = some ⟨b, o, none⟩ → b ≠ fb) := Lib.hid fun b o e => by have := hg1 b o e; simp at this; omega
  have HG2 : Hid (∀ b o, B2 = some ⟨b, o, none⟩ → b ≠ fb) := Lib.hid fun b o e => by have := hg2 b o e; simp at this; omega
  have HG5 : Hid (∀ b o, B5 = some ⟨b, o, none⟩ → b ≠ fb) := Lib.hid fun b o e => by have := hg5 b o e; simp at this; omega
  clear hb11 hg1 hg2 hg5 hq9 hf9 hT9
  generalize htb : w9.heap.size = tb at *
  clear htb
  have f0 := hf11.frozen 0; have f1 := hf11.frozen 1; have f2 := hf11.frozen 2; have f3 := hf11.frozen 3; have f4 := hf11.frozen 4
  have lf : LtW fb w11 := hf11.lt
  have k0 : w11.cell? ⟨fb, 0, none⟩ = some (.slice none 0 0) := hf11.cell (i := 0) (by omega)
  have k1 : w11.cell? ⟨fb, 1, none⟩ = some (.int .i64 (0)) := hf11.cell (i := 1) (by omega)
  have k2 : w11.cell? ⟨fb, 2, none⟩ = some (.int .i64 (0)) := hf11.cell (i := 2) (by omega)
  have k3 : w11.cell? ⟨fb, 3, none⟩ = some (.slice none 0 0) := hf11.cell (i := 3) (by omega)
  have k4 : w11.cell? ⟨fb, 4, none⟩ = some (.slice none 0 0) := hf11.cell (i := 4) (by omega)
  have HQ11 := Lib.hid hq11; have HF11 := Lib.hid hf11; have HT11 := Lib.hid hT11; have HTB := Lib.hid ht11; have HJ1 := Lib.hid hJ1; have HJ2 := Lib.hid hJ2; have HJ5 := Lib.hid hJ5
  clear hq11 hf11 hT11 ht11 hJ1 hJ2 hJ5
  go_upto_region 12 with fail
  have BX := Lib.hid ((((((BelowX.refl (base := w11.heap.size) (mb := fb) (W := w11) (Nat.le_refl _)).set 0 (.slice B1 nt d1)).set 1 (.int .i64 (et))).set 2 (.int .i64 (pt))).set 3 (.slice B5 (et * pt) d5)).set 4 (.slice B2 nr d2))
  have hf12 := dF_congr (v0 := .slice B1 nt d1) (W := et) (H := pt) (v3 := .slice B5 (et * pt) d5) (v4 := .slice B2 nr d2) (((((HF11.out.set 0 (.slice B1 nt d1)).set 1 (.int .i64 (et))).set 2 (.int .i64 (pt))).set 3 (.slice B5 (et * pt) d5)).set 4 (.slice B2 nr d2)) rfl rfl rfl rfl rfl
  have hb12 : Below q w (((((w11.setCell ⟨fb, 0, none⟩ (.slice B1 nt d1)).setCell ⟨fb, 1, none⟩ (.int .i64 (et))).setCell ⟨fb, 2, none⟩ (.int .i64 (pt))).setCell ⟨fb, 3, none⟩ (.slice B5 (et * pt) d5)).setCell ⟨fb, 4, none⟩ (.slice B2 nr d2)) := ((((HB11.out.setCell (by simp; omega) _).setCell (by simp; omega) _).setCell (by simp; omega) _).setCell (by simp; omega) _).setCell (by simp; omega) _
  clear f0 f1 f2 f3 f4 k0 k1 k2 k3 k4 lf
  generalize ((((w11.setCell ⟨fb, 0, none⟩ (.slice B1 nt d1)).setCell ⟨fb, 1, none⟩ (.int .i64 (et))).setCell ⟨fb, 2, none⟩ (.int .i64 (pt))).setCell ⟨fb, 3, none⟩ (.slice B5 (et * pt) d5)).setCell ⟨fb, 4, none⟩ (.slice B2 nr d2) = W12 at *
  have hq12 := BX.out.rowIs HQ11.out (by omega) (by omega)
  have ht12 := BX.out.rowIs HTB.out (by omega) (by omega)
  have hT12 := BX.out.okT HT11.out rfl (fun b o e => by have := HGA.out b o e; omega)
  have hJ12 := BX.out.ints HJ1.out HG1.out rfl
  have hJ22 := BX.out.ints HJ2.out HG2.out rfl
  have hJ52 := BX.out.okT HJ5.out rfl HG5.out
  have f0 : W12.cell? ⟨fb, 0, none⟩ = some (.slice B1 nt d1) := hf12.cell (i := 0) (by omega)
  have f1 : W12.cell? ⟨fb, 1, none⟩ = some (.int .i64 (et)) := hf12.cell (i := 1) (by omega)
  have f2 : W12.cell? ⟨fb, 2, none⟩ = some (.int .i64 (pt)) := hf12.cell (i := 2) (by omega)
  have f3 : W12.cell? ⟨fb, 3, none⟩ = some (.slice B5 (et * pt) d5) := hf12.cell (i := 3) (by omega)
  have f4 : W12.cell? ⟨fb, 4, none⟩ = some (.slice B2 nr d2) := hf12.cell (i := 4) (by omega)
  have lf : LtW fb W12 := hf12.lt
  have hs12 : w11.heap.size ≤ W12.heap.size := BX.out.size
  have HQ12 := Lib.hid hq12; have HF12 := Lib.hid hf12; have HTB12 := Lib.hid ht12; have HT12 := Lib.hid hT12; have HJ12 := Lib.hid hJ12; have HJ22 := Lib.hid hJ22; have HJ52 := Lib.hid hJ52; have HB12 := Lib.hid hb12
  clear hq12 hf12 ht12 hT12 hJ12 hJ22 hJ52 hb12 HQ11 HF11 HTB HT11 HJ1 HJ2 HJ5 BX HB11
  go_wp2_with fail
  refine (KX.draw B1 B2 B5 d1 d2 d5 _ HJ12.out HJ22.out HJ52.out).mono ?_
  rintro r w14 ⟨D, CD, rfl, hT14, hb14, hg14⟩
  have hq14 := rowBelow HQ12.out hb14 (by omega)
  have hf14 := rowBelow HF12.out hb14 (by omega)
  have ht14 := rowBelow HTB12.out hb14 (by omega)
  have HT14 := Lib.hid (HT12.out.below hb14)
  have HD14 := Lib.hid hT14
  have hs14 := hb14.size
  have HB14 : Hid (Below q w w14) := Lib.hid (HB12.out.trans (hb14.mono (by omega)))
  have HTH14 := Lib.hid (HTH.out.below (by rw [HQE.out]; exact HB14.out))
  have HTR14 := Lib.hid (HTR.out.below (by rw [HQE.out]; exact HB14.out))
  clear f0 f1 f2 f3 f4 lf hb14 hg14 hT14
  have t0 : w14.cell? ⟨tb, 0, none⟩ = some (.int .i64 (nt)) := ht14.cell (i := 0) (by omega)
  have t1 : w14.cell? ⟨tb, 1, none⟩ = some (.int .i64 (nr)) := ht14.cell (i := 1) (by omega)
  have t2 : w14.cell? ⟨tb, 2, none⟩ = some (.slice A xn C) := ht14.cell (i := 2) (by omega)
  have lt : LtW tb w14 := ht14.lt
  have q0 : w14.cell? ⟨q, 0, none⟩ = some (.slice tha nt ct) := hq14.cell (i := 0) (by omega)
  have q4 : w14.cell? ⟨q, 4, none⟩ = some (.slice tra nr cr) := hq14.cell (i := 4) (by omega)
  have lq : LtW q w14 := hq14.lt
  have f1 : w14.cell? ⟨fb, 1, none⟩ = some (.int .i64 (et)) := hf14.cell (i := 1) (by omega)
  have f2 : w14.cell? ⟨fb, 2, none⟩ = some (.int .i64 (pt)) := hf14.cell (i := 2) (by omega)
  have lf : LtW fb w14 := hf14.lt
  clear hq14 hf14 ht14 HQ12 HF12 HTB12 HT12 HJ12 HJ22 HJ52 HB12
  go_wp2_with fail
  (refine wp_region_ext (by kernel_rfl) (by kernel_rfl) ?_; (repeat (first | ((with_reducible refine ext_step (fun K hK => ?_)); go_simp; first | (refine hK _ ?_; clear hK K) | (apply Exists.intro; refine ⟨fun _ _ => ?_, hK _ ?_⟩; (first | (go_at_call 18; exact extOf (KX.same A D C CD _ (HT14.out.below (by repeat (first | exact Below.refl _ _ | refine Below.drew ?_ | refine below_drewN ?_ _ | refine Below.alloc ?_ (by first | exact Nat.le_refl _ | (simp; done) | (simp; omega) | omega) _ | refine Below.setCell ?_ (by first | exact Nat.le_refl _ | (simp; done) | (simp; omega) | omega) _ | refine bExtW ?_ (by first | exact Nat.le_refl _ | (simp; done) | (simp; omega) | omega) | refine Below.trans ?_ (Below.mono (by assumption) (by first | exact Nat.le_refl _ | (simp; done) | (simp; omega) | omega))))) (HD14.out.below (by repeat (first | exact Below.refl _ _ | refine Below.drew ?_ | refine below_drewN ?_ _ | refine Below.alloc ?_ (by first | exact Nat.le_refl _ | (simp; done) | (simp; omega) | omega) _ | refine Below.setCell ?_ (by first | exact Nat.le_refl _ | (simp; done) | (simp; omega) | omega) _ | refine bExtW ?_ (by first | exact Nat.le_refl _ | (simp; done) | (simp; omega) | omega) | refine Below.trans ?_ (Below.mono (by assumption) (by first | exact Nat.le_refl _ | (simp; done) | (simp; omega) | omega))))))) | (go_at_call 19; with_reducible exact extOf (KU1.out _ (HTH14.out.below (by repeat (first | exact Below.refl _ _ | refine Below.drew ?_ | refine below_drewN ?_ _ | refine Below.alloc ?_ (by first | exact Nat.le_refl _ | (simp; done) | (simp; omega) | omega) _ | refine Below.setCell ?_ (by first | exact Nat.le_refl _ | (simp; done) | (simp; omega) | omega) _ | refine bExtW ?_ (by first | exact Nat.le_refl _ | (simp; done) | (simp; omega) | omega) | refine Below.trans ?_ (Below.mono (by assumption) (by first | exact Nat.le_refl _ | (simp; done) | (simp; omega) | omega))))))) | (go_at_call 19; with_reducible exact extOf (KU2.out _ (HTR14.out.below (by repeat (first | exact Below.refl _ _ | refine Below.drew ?_ | refine below_drewN ?_ _ | refine Below.alloc ?_ (by first | exact Nat.le_refl _ | (simp; done) | (simp; omega) | omega) _ | refine Below.setCell ?_ (by first | exact Nat.le_refl _ | (simp; done) | (simp; omega) | omega) _ | refine bExtW ?_ (by first | exact Nat.le_refl _ | (simp; done) | (simp; omega) | omega) | refine Below.trans ?_ (Below.mono (by assumption) (by first | exact Nat.le_refl _ | (simp; done) | (simp; omega) | omega)))))))); clear hK K)))); refine wpQuiet_nil ?_; intro E d)
  go_wp2
  go_ret
  exact ⟨rfl, by rw [HQE.out]; exact bExtW (HB14.out.alloc (by omega) _) (by simp; omega)⟩
set_option maxRecDepth 100000 in
set_option maxHeartbeats 8000000 in
theorem fw_oo (tha : Option Addr) (nt ct : Nat) (th : List Int) (W H : Int) (a : Option Addr) (n c : Nat) (tie : List Bool) (tra : Option Addr) (nr cr : Nat) (tr : List Int) (MW MH : Nat) (ma : Option Addr) (mn mc : Nat) (mb : List Bool) (eu pu : Nat) (UH UR : List Int) (UIE : List Bool) (xn : Nat) (X : List Bool) (et pt : Nat) (TH TR : List Int) (TIE : List Bool) (n1 n2 : Nat) (w : World) (hth : IsInts w tha nt th) (htr : IsInts w tra nr tr) (htt : OkT w a n c tie) (hM : OkT w ma mn mc mb)
    (hmn : 0 < mn) (KF : FK MW MH mn mb eu pu UH UR UIE)
    (KD : Hid (∀ w, IsInts w tha nt th → IsInts w tra nr tr → OkT w a n c tie → Calls Try.prog 17 #[.agg #[.slice tha nt ct, .int .i64 (W), .int .i64 (H), .slice a n c, .slice tra nr cr]] w (TruPost nt nr xn X w)))
    (KX : FK nt nr xn X et pt TH TR TIE)
    (KU1 : Hid (∀ w, IsInts w tha nt th → Calls Try.prog 19 #[.slice tha nt ct] w fun e w' => e = .returned (.int .i64 (n1)) ∧ Below w.heap.size w w'))
    (KU2 : Hid (∀ w, IsInts w tra nr tr → Calls Try.prog 19 #[.slice tra nr cr] w fun e w' => e = .returned (.int .i64 (n2)) ∧ Below w.heap.size w w')) (hg1 : et ≤ n1) (hg2 : pt ≤ n2) :
    Calls Try.prog 3 #[.agg #[.slice tha nt ct, .int .i64 (W), .int .i64 (H), .slice a n c, .slice tra nr cr], .agg #[.int .i64 (MW), .int .i64 (MH), .slice ma mn mc]] w fun e w' => e = .returned (.bool true) ∧ Below w.heap.size w w' := by
  have HTH := Lib.hid hth; have HTR := Lib.hid htr; have HTT := Lib.hid htt; have HM := Lib.hid hM
  have dc1 : decide ((et : Int) ≤ (n1 : Int)) = true := by simp; omega
  have dc2 : decide ((pt : Int) ≤ (n2 : Int)) = true := by simp; omega
  have dc3 : decide (et ≤ n1) = true := by simp; omega
  have dc4 : decide (pt ≤ n2) = true := by simp; omega
  clear hth htr htt hM
  go_enter Try.func3, Try.ntmps3
  go_wp2_with fail
  refine (alive6_any _).mono ?_
  rintro r w1 ⟨rfl, hb⟩
  have hq1 := rowBelow ((dF_alloc w (.slice tha nt ct) W H (.slice a n c) (.slice tra nr cr)).alloc (.cells #[.int .i64 (MW), .int .i64 (MH), .slice ma mn mc] 25)) hb (by simp; omega)
  have hm1 := rowBelow (tF_alloc (w.alloc (.cells #[.slice tha nt ct, .int .i64 (W), .int .i64 (H), .slice a n c, .slice tra nr cr] 27)) MW MH (.slice ma mn mc) rfl) hb (by simp)
  have hb1 : Below w.heap.size w w1 := (by repeat (first | exact Below.refl _ _ | refine Below.drew ?_ | refine below_drewN ?_ _ | refine Below.alloc ?_ (by first | exact Nat.le_refl _ | (simp; done) | (simp; omega) | omega) _ | refine Below.setCell ?_ (by first | exact Nat.le_refl _ | (simp; done) | (simp; omega) | omega) _ | refine bExtW ?_ (by first | exact Nat.le_refl _ | (simp; done) | (simp; omega) | omega) | refine Below.trans ?_ (Below.mono (by assumption) (by first | exact Nat.le_refl _ | (simp; done) | (simp; omega) | omega))))
  rw [World.size_alloc] at hm1
  have HB0 := Lib.hid (Nat.le_refl w.heap.size)
  generalize hqe : w.heap.size = q at *
  have HQE := Lib.hid hqe
  clear hqe hb
  have q0 : w1.cell? ⟨q, 0, none⟩ = some (.slice tha nt ct) := hq1.cell (i := 0) (by omega)
  have q1 : w1.cell? ⟨q, 1, none⟩ = some (.int .i64 (W)) := hq1.cell (i := 1) (by omega)
  have q2 : w1.cell? ⟨q, 2, none⟩ = some (.int .i64 (H)) := hq1.cell (i := 2) (by omega)
  have q3 : w1.cell? ⟨q, 3, none⟩ = some (.slice a n c) := hq1.cell (i := 3) (by omega)
  have q4 : w1.cell? ⟨q, 4, none⟩ = some (.slice tra nr cr) := hq1.cell (i := 4) (by omega)
  have lq : LtW q w1 := hq1.lt
  have m0 : w1.cell? ⟨q + 1, 0, none⟩ = some (.int .i64 (MW)) := hm1.cell (i := 0) (by omega)
  have m1 : w1.cell? ⟨q + 1, 1, none⟩ = some (.int .i64 (MH)) := hm1.cell (i := 1) (by omega)
  have m2 : w1.cell? ⟨q + 1, 2, none⟩ = some (.slice ma mn mc) := hm1.cell (i := 2) (by omega)
  have lm : LtW (q + 1) w1 := hm1.lt
  have HQ1 := Lib.hid hq1; have HM1 := Lib.hid hm1; have HB1 := Lib.hid hb1
  clear hq1 hm1 hb1 HB0
  go_wp2_with fail
  refine (KF.few _ _ _ (HM.out.below (by rw [HQE.out]; exact HB1.out))).mono ?_
  rintro r w2 ⟨A1, c1, A2, c2, A5, c5, rfl, hI1, hT5, hI2, hb2, hg1, hg2, hg5⟩
  have hq2 := rowBelow HQ1.out hb2 lq
  have hm2 := rowBelow HM1.out hb2 lm
  have hs2 := hb2.size
  have hqs : q + 1 < w1.heap.size := lm
  have HB2 := Lib.hid (HB1.out.trans (hb2.mono (Nat.le_of_lt lq)))
  clear q0 q1 q2 q3 q4 lq m0 m1 m2 lm hb2 hg1 hg2 hg5 HQ1 HM1 HB1
  go_wp2_with fail
  refine (KF.draw A1 A2 A5 c1 c2 c5 _ (hI1.below (by repeat (first | exact Below.refl _ _ | refine Below.drew ?_ | refine below_drewN ?_ _ | refine Below.alloc ?_ (by first | exact Nat.le_refl _ | (simp; done) | (simp; omega) | omega) _ | refine Below.setCell ?_ (by first | exact Nat.le_refl _ | (simp; done) | (simp; omega) | omega) _ | refine bExtW ?_ (by first | exact Nat.le_refl _ | (simp; done) | (simp; omega) | omega) | refine Below.trans ?_ (Below.mono (by assumption) (by first | exact Nat.le_refl _ | (simp; done) | (simp; omega) | omega))))) (hI2.below (by repeat (first | exact Below.refl _ _ | refine Below.drew ?_ | refine below_drewN ?_ _ | refine Below.alloc ?_ (by first | exact Nat.le_refl _ | (simp; done) | (simp; omega) | omega) _ | refine Below.setCell ?_ (by first | exact Nat.le_refl _ | (simp; done) | (simp; omega) | omega) _ | refine bExtW ?_ (by first | exact Nat.le_refl _ | (simp; done) | (simp; omega) | omega) | refine Below.trans ?_ (Below.mono (by assumption) (by first | exact Nat.le_refl _ | (simp; done) | (simp; omega) | omega))))) (hT5.below (by repeat (first | exact Below.refl _ _ | refine Below.drew ?_ | refine below_drewN ?_ _ | refine Below.alloc ?_ (by first | exact Nat.le_refl _ | (simp; done) | (simp; omega) | omega) _ | refine Below.setCell ?_ (by first | exact Nat.le_refl _ | (simp; done) | (simp; omega) | omega) _ | refine bExtW ?_ (by first | exact Nat.le_refl _ | (simp; done) | (simp; omega) | omega) | refine Below.trans ?_ (Below.mono (by assumption) (by first | exact Nat.le_refl _ | (simp; done) | (simp; omega) | omega)))))).mono ?_
  rintro r w3 ⟨B, CB, rfl, hT3, hb3, hg3⟩
  have hq3 := rowBelow (hq2.alloc (.cells #[.slice A1 MW c1, .int .i64 (eu), .int .i64 (pu), .slice A5 (eu * pu) c5, .slice A2 MH c2] 27)) hb3 (by simp; omega)
  have hm3 := rowBelow (hm2.alloc (.cells #[.slice A1 MW c1, .int .i64 (eu), .int .i64 (pu), .slice A5 (eu * pu) c5, .slice A2 MH c2] 27)) hb3 (by simp; omega)
  have hf3 := rowBelow (dF_alloc w2 (.slice A1 MW c1) eu pu (.slice A5 (eu * pu) c5) (.slice A2 MH c2)) hb3 (by simp)
  have hI13 := (hI1.below (Below.alloc (Below.refl _ _) (Nat.le_refl _) (.cells #[.slice A1 MW c1, .int .i64 (eu), .int .i64 (pu), .slice A5 (eu * pu) c5, .slice A2 MH c2] 27))).below hb3
  have hI23 := (hI2.below (Below.alloc (Below.refl _ _) (Nat.le_refl _) (.cells #[.slice A1 MW c1, .int .i64 (eu), .int .i64 (pu), .slice A5 (eu * pu) c5, .slice A2 MH c2] 27))).below hb3
  have HB3 : Hid (Below q w w3) := Lib.hid ((HB2.out.alloc (by omega) _).trans (hb3.mono (by simp; omega)))
  have hs3 : w2.heap.size + 1 ≤ w3.heap.size := by have := hb3.size; simp at this; exact this
  clear hb3 hg3 hq2 hm2 hI1 hI2 hT5
  generalize hfb : w2.heap.size = fb at *
  clear hfb
  have m0 : w3.cell? ⟨q + 1, 0, none⟩ = some (.int .i64 (MW)) := hm3.cell (i := 0) (by omega)
  have m1 : w3.cell? ⟨q + 1, 1, none⟩ = some (.int .i64 (MH)) := hm3.cell (i := 1) (by omega)
  have m2 : w3.cell? ⟨q + 1, 2, none⟩ = some (.slice ma mn mc) := hm3.cell (i := 2) (by omega)
  have lm : LtW (q + 1) w3 := hm3.lt
  have f0 : w3.cell? ⟨fb, 0, none⟩ = some (.slice A1 MW c1) := hf3.cell (i := 0) (by omega)
  have f1 : w3.cell? ⟨fb, 1, none⟩ = some (.int .i64 (eu)) := hf3.cell (i := 1) (by omega)
  have f2 : w3.cell? ⟨fb, 2, none⟩ = some (.int .i64 (pu)) := hf3.cell (i := 2) (by omega)
  have f4 : w3.cell? ⟨fb, 4, none⟩ = some (.slice A2 MH c2) := hf3.cell (i := 4) (by omega)
  have lf : LtW fb w3 := hf3.lt
  have HQ3 := Lib.hid hq3; have HF3 := Lib.hid hf3; have HI1 := Lib.hid hI13; have HI2 := Lib.hid hI23; have HT3 := Lib.hid hT3
  have HM3 := Lib.hid (HM.out.below (by rw [HQE.out]; exact HB3.out))
  clear hq3 hm3 hf3 hI13 hI23 hT3
  go_wp2_with fail
  (refine wp_region_ext (by kernel_rfl) (by kernel_rfl) ?_; (repeat (first | ((with_reducible refine ext_step (fun K hK => ?_)); go_simp; first | (refine hK _ ?_; clear hK K) | (apply Exists.intro; refine ⟨fun _ _ => ?_, hK _ ?_⟩; (first | (go_at_call 18; exact extOf (KF.same B ma CB mc _ (HT3.out.below (by repeat (first | exact Below.refl _ _ | refine Below.drew ?_ | refine below_drewN ?_ _ | refine Below.alloc ?_ (by first | exact Nat.le_refl _ | (simp; done) | (simp; omega) | omega) _ | refine Below.setCell ?_ (by first | exact Nat.le_refl _ | (simp; done) | (simp; omega) | omega) _ | refine bExtW ?_ (by first | exact Nat.le_refl _ | (simp; done) | (simp; omega) | omega) | refine Below.trans ?_ (Below.mono (by assumption) (by first | exact Nat.le_refl _ | (simp; done) | (simp; omega) | omega))))) (HM3.out.below (by repeat (first | exact Below.refl _ _ | refine Below.drew ?_ | refine below_drewN ?_ _ | refine Below.alloc ?_ (by first | exact Nat.le_refl _ | (simp; done) | (simp; omega) | omega) _ | refine Below.setCell ?_ (by first | exact Nat.le_refl _ | (simp; done) | (simp; omega) | omega) _ | refine bExtW ?_ (by first | exact Nat.le_refl _ | (simp; done) | (simp; omega) | omega) | refine Below.trans ?_ (Below.mono (by assumption) (by first | exact Nat.le_refl _ | (simp; done) | (simp; omega) | omega))))))) | (go_at_call 19; with_reducible exact extOf (KF.u1 A1 c1 _ (HI1.out.below (by repeat (first | exact Below.refl _ _ | refine Below.drew ?_ | refine below_drewN ?_ _ | refine Below.alloc ?_ (by first | exact Nat.le_refl _ | (simp; done) | (simp; omega) | omega) _ | refine Below.setCell ?_ (by first | exact Nat.le_refl _ | (simp; done) | (simp; omega) | omega) _ | refine bExtW ?_ (by first | exact Nat.le_refl _ | (simp; done) | (simp; omega) | omega) | refine Below.trans ?_ (Below.mono (by assumption) (by first | exact Nat.le_refl _ | (simp; done) | (simp; omega) | omega))))))) | (go_at_call 19; with_reducible exact extOf (KF.u2 A2 c2 _ (HI2.out.below (by repeat (first | exact Below.refl _ _ | refine Below.drew ?_ | refine below_drewN ?_ _ | refine Below.alloc ?_ (by first | exact Nat.le_refl _ | (simp; done) | (simp; omega) | omega) _ | refine Below.setCell ?_ (by first | exact Nat.le_refl _ | (simp; done) | (simp; omega) | omega) _ | refine bExtW ?_ (by first | exact Nat.le_refl _ | (simp; done) | (simp; omega) | omega) | refine Below.trans ?_ (Below.mono (by assumption) (by first | exact Nat.le_refl _ | (simp; done) | (simp; omega) | omega)))))))); clear hK K)))); refine wpQuiet_nil ?_; intro E d)
  have hq8 := HQ3.out.alloc (.cells #[.int .i64 (MW), .int .i64 (MH), .slice B mn CB] 25)
  have hf8 := HF3.out.alloc (.cells #[.int .i64 (MW), .int .i64 (MH), .slice B mn CB] 25)
  have hb8 : Below (w3.alloc (.cells #[.int .i64 (MW), .int .i64 (MH), .slice B mn CB] 25)).heap.size (w3.alloc (.cells #[.int .i64 (MW), .int .i64 (MH), .slice B mn CB] 25)) (extW (w3.alloc (.cells #[.int .i64 (MW), .int .i64 (MH), .slice B mn CB] 25)) E d) := bExtW (Below.refl _ _) (Nat.le_refl _)
  have hq8 := rowBelow hq8 hb8 hq8.lt
  have hf8 := rowBelow hf8 hb8 hf8.lt
  have HB8 : Hid (Below q w (extW (w3.alloc (.cells #[.int .i64 (MW), .int .i64 (MH), .slice B mn CB] 25)) E d)) := Lib.hid ((HB3.out.alloc (by omega) _).trans (hb8.mono (by simp; omega)))
  clear hb8 m0 m1 m2 lm f0 f1 f2 f4 lf HQ3 HF3 HI1 HI2 HT3 HM3 HB3 HB2
  generalize extW (w3.alloc (.cells #[.int .i64 (MW), .int .i64 (MH), .slice B mn CB] 25)) E d = W8 at *
  have q0 : (W8).cell? ⟨q, 0, none⟩ = some (.slice tha nt ct) := (hq8).cell (i := 0) (by omega)
  have q1 : (W8).cell? ⟨q, 1, none⟩ = some (.int .i64 (W)) := (hq8).cell (i := 1) (by omega)
  have q2 : (W8).cell? ⟨q, 2, none⟩ = some (.int .i64 (H)) := (hq8).cell (i := 2) (by omega)
  have q3 : (W8).cell? ⟨q, 3, none⟩ = some (.slice a n c) := (hq8).cell (i := 3) (by omega)
  have q4 : (W8).cell? ⟨q, 4, none⟩ = some (.slice tra nr cr) := (hq8).cell (i := 4) (by omega)
  have lq : LtW q (W8) := (hq8).lt
  go_wp2_with fail
  refine (KD.out _ (HTH.out.below (by rw [HQE.out]; exact HB8.out)) (HTR.out.below (by rw [HQE.out]; exact HB8.out)) (HTT.out.below (by rw [HQE.out]; exact HB8.out))).mono ?_
  rintro r w9 ⟨A, C, rfl, hT9, hb9, hg9⟩
  have hq9 := rowBelow hq8 hb9 hq8.lt
  have hf9 := rowBelow hf8 hb9 hf8.lt
  have hf8l : fb < W8.heap.size := hf8.lt
  have hs9 := hb9.size
  have HB9 : Hid (Below q w w9) := Lib.hid (HB8.out.trans (hb9.mono (by omega)))
  have HGA := Lib.hid hg9
  clear hb9 hg9 hq8 hf8 q0 q1 q2 q3 q4 lq
  go_wp2_with fail
  refine (KX.few _ _ _ (hT9.below (by repeat (first | exact Below.refl _ _ | refine Below.drew ?_ | refine below_drewN ?_ _ | refine Below.alloc ?_ (by first | exact Nat.le_refl _ | (simp; done) | (simp; omega) | omega) _ | refine Below.setCell ?_ (by first | exact Nat.le_refl _ | (simp; done) | (simp; omega) | omega) _ | refine bExtW ?_ (by first | exact Nat.le_refl _ | (simp; done) | (simp; omega) | omega) | refine Below.trans ?_ (Below.mono (by assumption) (by first | exact Nat.le_refl _ | (simp; done) | (simp; omega) | omega)))))).mono ?_
  rintro r w11 ⟨B1, d1, B2, d2, B5, d5, rfl, hJ1, hJ5, hJ2, hb11, hg1, hg2, hg5⟩
  have ht11 := rowBelow (tF_alloc w9 nt nr (.slice A xn C) rfl) hb11 (by simp)
  have hq11 := rowBelow (hq9.alloc (.cells #[.int .i64 (nt), .int .i64 (nr), .slice A xn C] 25)) hb11 (by simp; omega)
  have hf11 := rowBelow (hf9.alloc (.cells #[.int .i64 (nt), .int .i64 (nr), .slice A xn C] 25)) hb11 (by simp; omega)
  have hT11 := (hT9.below (Below.alloc (Below.refl _ _) (Nat.le_refl _) (.cells #[.int .i64 (nt), .int .i64 (nr), .slice A xn C] 25))).below hb11
  have HB11 : Hid (Below q w w11) := Lib.hid ((HB9.out.alloc (by omega) _).trans (hb11.mono (by simp; omega)))
  have hs11 : w9.heap.size + 1 ≤ w11.heap.size := by have := hb11.size; simp at this; exact this
  have HG1 : Hid (∀ b o, B1 = some ⟨b, o, none⟩ → b ≠ fb) := Lib.hid fun b o e => by have := hg1 b o e; simp at this; omega
  have HG2 : Hid (∀ b o, B2 = some ⟨b, o, none⟩ → b ≠ fb) := Lib.hid fun b o e => by have := hg2 b o e; simp at this; omega
  have HG5 : Hid (∀ b o, B5 = some ⟨b, o, none⟩ → b ≠ fb) := Lib.hid fun b o e => by have := hg5 b o e; simp at this; omega
  clear hb11 hg1 hg2 hg5 hq9 hf9 hT9
  generalize htb : w9.heap.size = tb at *
  clear htb
  have f0 := hf11.frozen 0; have f1 := hf11.frozen 1; have f2 := hf11.frozen 2; have f3 := hf11.frozen 3; have f4 := hf11.frozen 4
  have lf : LtW fb w11 := hf11.lt
  have k0 : w11.cell? ⟨fb, 0, none⟩ = some (.slice A1 MW c1) := hf11.cell (i := 0) (by omega)
  have k1 : w11.cell? ⟨fb, 1, none⟩ = some (.int .i64 (eu)) := hf11.cell (i := 1) (by omega)
  have k2 : w11.cell? ⟨fb, 2, none⟩ = some (.int .i64 (pu)) := hf11.cell (i := 2) (by omega)
  have k3 : w11.cell? ⟨fb, 3, none⟩ = some (.slice A5 (eu * pu) c5) := hf11.cell (i := 3) (by omega)
  have k4 : w11.cell? ⟨fb, 4, none⟩ = some (.slice A2 MH c2) := hf11.cell (i := 4) (by omega)
  have HQ11 := Lib.hid hq11; have HF11 := Lib.hid hf11; have HT11 := Lib.hid hT11; have HTB := Lib.hid ht11; have HJ1 := Lib.hid hJ1; have HJ2 := Lib.hid hJ2; have HJ5 := Lib.hid hJ5
  clear hq11 hf11 hT11 ht11 hJ1 hJ2 hJ5
  go_upto_region 12 with fail
  have BX := Lib.hid ((((((BelowX.refl (base := w11.heap.size) (mb := fb) (W := w11) (Nat.le_refl _)).set 0 (.slice B1 nt d1)).set 1 (.int .i64 (et))).set 2 (.int .i64 (pt))).set 3 (.slice B5 (et * pt) d5)).set 4 (.slice B2 nr d2))
  have hf12 := dF_congr (v0 := .slice B1 nt d1) (W := et) (H := pt) (v3 := .slice B5 (et * pt) d5) (v4 := .slice B2 nr d2) (((((HF11.out.set 0 (.slice B1 nt d1)).set 1 (.int .i64 (et))).set 2 (.int .i64 (pt))).set 3 (.slice B5 (et * pt) d5)).set 4 (.slice B2 nr d2)) rfl rfl rfl rfl rfl
  have hb12 : Below q w (((((w11.setCell ⟨fb, 0, none⟩ (.slice B1 nt d1)).setCell ⟨fb, 1, none⟩ (.int .i64 (et))).setCell ⟨fb, 2, none⟩ (.int .i64 (pt))).setCell ⟨fb, 3, none⟩ (.slice B5 (et * pt) d5)).setCell ⟨fb, 4, none⟩ (.slice B2 nr d2)) := ((((HB11.out.setCell (by simp; omega) _).setCell (by simp; omega) _).setCell (by simp; omega) _).setCell (by simp; omega) _).setCell (by simp; omega) _
  clear f0 f1 f2 f3 f4 k0 k1 k2 k3 k4 lf
  generalize ((((w11.setCell ⟨fb, 0, none⟩ (.slice B1 nt d1)).setCell ⟨fb, 1, none⟩ (.int .i64 (et))).setCell ⟨fb, 2, none⟩ (.int .i64 (pt))).setCell ⟨fb, 3, none⟩ (.slice B5 (et * pt) d5)).setCell ⟨fb, 4, none⟩ (.slice B2 nr d2) = W12 at *
  have hq12 := BX.out.rowIs HQ11.out (by omega) (by omega)
  have ht12 := BX.out.rowIs HTB.out (by omega) (by omega)
  have hT12 := BX.out.okT HT11.out rfl (fun b o e => by have := HGA.out b o e; omega)
  have hJ12 := BX.out.ints HJ1.out HG1.out rfl
  have hJ22 := BX.out.ints HJ2.out HG2.out rfl
  have hJ52 := BX.out.okT HJ5.out rfl HG5.out
  have f0 : W12.cell? ⟨fb, 0, none⟩ = some (.slice B1 nt d1) := hf12.cell (i := 0) (by omega)
  have f1 : W12.cell? ⟨fb, 1, none⟩ = some (.int .i64 (et)) := hf12.cell (i := 1) (by omega)
  have f2 : W12.cell? ⟨fb, 2, none⟩ = some (.int .i64 (pt)) := hf12.cell (i := 2) (by omega)
  have f3 : W12.cell? ⟨fb, 3, none⟩ = some (.slice B5 (et * pt) d5) := hf12.cell (i := 3) (by omega)
  have f4 : W12.cell? ⟨fb, 4, none⟩ = some (.slice B2 nr d2) := hf12.cell (i := 4) (by omega)
  have lf : LtW fb W12 := hf12.lt
  have hs12 : w11.heap.size ≤ W12.heap.size := BX.out.size
  have HQ12 := Lib.hid hq12; have HF12 := Lib.hid hf12; have HTB12 := Lib.hid ht12; have HT12 := Lib.hid hT12; have HJ12 := Lib.hid hJ12; have HJ22 := Lib.hid hJ22; have HJ52 := Lib.hid hJ52; have HB12 := Lib.hid hb12
  clear hq12 hf12 ht12 hT12 hJ12 hJ22 hJ52 hb12 HQ11 HF11 HTB HT11 HJ1 HJ2 HJ5 BX HB11
  go_wp2_with fail
  refine (KX.draw B1 B2 B5 d1 d2 d5 _ HJ12.out HJ22.out HJ52.out).mono ?_
  rintro r w14 ⟨D, CD, rfl, hT14, hb14, hg14⟩
  have hq14 := rowBelow HQ12.out hb14 (by omega)
  have hf14 := rowBelow HF12.out hb14 (by omega)
  have ht14 := rowBelow HTB12.out hb14 (by omega)
  have HT14 := Lib.hid (HT12.out.below hb14)
  have HD14 := Lib.hid hT14
  have hs14 := hb14.size
  have HB14 : Hid (Below q w w14) := Lib.hid (HB12.out.trans (hb14.mono (by omega)))
  have HTH14 := Lib.hid (HTH.out.below (by rw [HQE.out]; exact HB14.out))
  have HTR14 := Lib.hid (HTR.out.below (by rw [HQE.out]; exact HB14.out))
  clear f0 f1 f2 f3 f4 lf hb14 hg14 hT14
  have t0 : w14.cell? ⟨tb, 0, none⟩ = some (.int .i64 (nt)) := ht14.cell (i := 0) (by omega)
  have t1 : w14.cell? ⟨tb, 1, none⟩ = some (.int .i64 (nr)) := ht14.cell (i := 1) (by omega)
  have t2 : w14.cell? ⟨tb, 2, none⟩ = some (.slice A xn C) := ht14.cell (i := 2) (by omega)
  have lt : LtW tb w14 := ht14.lt
  have q0 : w14.cell? ⟨q, 0, none⟩ = some (.slice tha nt ct) := hq14.cell (i := 0) (by omega)
  have q4 : w14.cell? ⟨q, 4, none⟩ = some (.slice tra nr cr) := hq14.cell (i := 4) (by omega)
  have lq : LtW q w14 := hq14.lt
  have f1 : w14.cell? ⟨fb, 1, none⟩ = some (.int .i64 (et)) := hf14.cell (i := 1) (by omega)
  have f2 : w14.cell? ⟨fb, 2, none⟩ = some (.int .i64 (pt)) := hf14.cell (i := 2) (by omega)
  have lf : LtW fb w14 := hf14.lt
  clear hq14 hf14 ht14 HQ12 HF12 HTB12 HT12 HJ12 HJ22 HJ52 HB12
  go_wp2_with fail
  (refine wp_region_ext (by kernel_rfl) (by kernel_rfl) ?_; (repeat (first | ((with_reducible refine ext_step (fun K hK => ?_)); go_simp; first | (refine hK _ ?_; clear hK K) | (apply Exists.intro; refine ⟨fun _ _ => ?_, hK _ ?_⟩; (first | (go_at_call 18; exact extOf (KX.same A D C CD _ (HT14.out.below (by repeat (first | exact Below.refl _ _ | refine Below.drew ?_ | refine below_drewN ?_ _ | refine Below.alloc ?_ (by first | exact Nat.le_refl _ | (simp; done) | (simp; omega) | omega) _ | refine Below.setCell ?_ (by first | exact Nat.le_refl _ | (simp; done) | (simp; omega) | omega) _ | refine bExtW ?_ (by first | exact Nat.le_refl _ | (simp; done) | (simp; omega) | omega) | refine Below.trans ?_ (Below.mono (by assumption) (by first | exact Nat.le_refl _ | (simp; done) | (simp; omega) | omega))))) (HD14.out.below (by repeat (first | exact Below.refl _ _ | refine Below.drew ?_ | refine below_drewN ?_ _ | refine Below.alloc ?_ (by first | exact Nat.le_refl _ | (simp; done) | (simp; omega) | omega) _ | refine Below.setCell ?_ (by first | exact Nat.le_refl _ | (simp; done) | (simp; omega) | omega) _ | refine bExtW ?_ (by first | exact Nat.le_refl _ | (simp; done) | (simp; omega) | omega) | refine Below.trans ?_ (Below.mono (by assumption) (by first | exact Nat.le_refl _ | (simp; done) | (simp; omega) | omega))))))) | (go_at_call 19; with_reducible exact extOf (KU1.out _ (HTH14.out.below (by repeat (first | exact Below.refl _ _ | refine Below.drew ?_ | refine below_drewN ?_ _ | refine Below.alloc ?_ (by first | exact Nat.le_refl _ | (simp; done) | (simp; omega) | omega) _ | refine Below.setCell ?_ (by first | exact Nat.le_refl _ | (simp; done) | (simp; omega) | omega) _ | refine bExtW ?_ (by first | exact Nat.le_refl _ | (simp; done) | (simp; omega) | omega) | refine Below.trans ?_ (Below.mono (by assumption) (by first | exact Nat.le_refl _ | (simp; done) | (simp; omega) | omega))))))) | (go_at_call 19; with_reducible exact extOf (KU2.out _ (HTR14.out.below (by repeat (first | exact Below.refl _ _ | refine Below.drew ?_ | refine below_drewN ?_ _ | refine Below.alloc ?_ (by first | exact Nat.le_refl _ | (simp; done) | (simp; omega) | omega) _ | refine Below.setCell ?_ (by first | exact Nat.le_refl _ | (simp; done) | (simp; omega) | omega) _ | refine bExtW ?_ (by first | exact Nat.le_refl _ | (simp; done) | (simp; omega) | omega) | refine Below.trans ?_ (Below.mono (by assumption) (by first | exact Nat.le_refl _ | (simp; done) | (simp; omega) | omega)))))))); clear hK K)))); refine wpQuiet_nil ?_; intro E d)
  go_wp2
  go_ret
  exact ⟨rfl, by rw [HQE.out]; exact bExtW (HB14.out.alloc (by omega) _) (by simp; omega)⟩
end Go.Proofs.Ytkffljkgblcgdaa
