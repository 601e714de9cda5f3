/- Lemmas on which the law of this seat rests; each states its own conditions. -/
import Derived.Test.YtajdoobkfbdgoaaGreatDoorB28
import Derived.Test.YtajdoobkfbdgoaaGreatDoorB33
import Derived.Test.YtajdoobkfbdgoaaGreatDoorB25
import Derived.Test.YtajdoobkfbdgoaaGreatDoorB29
import Derived.Test.YtajdoobkfbdgoaaGreatDoorB07
set_option linter.unusedVariables false
set_option linter.unusedSimpArgs false
namespace Go.Proofs.YtajdoobkfbdgoaaGreatDoor
section
open Go.RowKit
open Lo
theorem tr_le {W H : Nat} {bs : List Bool} {y : Nat} (hy : y < H) : (trL W H bs).getD y 0 ≤ (frs (trL W H bs) y).length := by
 unfold trL
 rw [alike_gS, gS_num _ hy, (frs_gS (rowL bs W) (H := H) y (by omega)).1]
 exact fIdx_le _ _
theorem DB.below {base mb : Nat} {vt : Value} {W H : Int} {vr : Value} {L : List Bool} {W1 w w' : World} {v : Value} (h : DB base mb vt W H vr L W1 v w) (hb : Below w.heap.size w w') : DB base mb vt W H vr L W1 v w' :=
 ⟨rowBelow h.row hb h.row.lt, ownBelow h.own hb, ⟨hb.os.trans h.bel.os, hb.tape.trans h.bel.tape, hb.output.trans h.bel.output, Nat.le_trans h.bel.size hb.size, fun k hk hkm => (hb.block k (Nat.lt_of_lt_of_le hk h.bel.size)).trans (h.bel.block k hk hkm)⟩⟩
theorem DB.setW {base mb : Nat} {vt : Value} {W H : Int} {vr : Value} {L : List Bool} {W1 w : World} {v : Value} (h : DB base mb vt W H vr L W1 v w) (hm : mb < base) (W' : Int) : DB base mb vt W' H vr L W1 v (w.setCell ⟨mb, 1, none⟩ (.int .i64 (W'))) :=
 ⟨dF_congr (h.row.set 1 _) rfl rfl rfl rfl rfl, ownsRow_setCell_below h.own (a := ⟨mb, 1, none⟩) hm _, h.bel.set 1 _⟩
theorem DB.setH {base mb : Nat} {vt : Value} {W H : Int} {vr : Value} {L : List Bool} {W1 w : World} {v : Value} (h : DB base mb vt W H vr L W1 v w) (hm : mb < base) (H' : Int) : DB base mb vt W H' vr L W1 v (w.setCell ⟨mb, 2, none⟩ (.int .i64 (H'))) :=
 ⟨dF_congr (h.row.set 2 _) rfl rfl rfl rfl rfl, ownsRow_setCell_below h.own (a := ⟨mb, 2, none⟩) hm _, h.bel.set 2 _⟩
def RFewPost (W H : Nat) (bs : List Bool) (w : World) (r : Ending) (w' : World) : Prop := ∃ A1 c1 A2 c2 A5 c5, r = .returned (.tuple #[.agg #[.slice A1 W c1, .int .i64 ((ends W H bs).length), .int .i64 ((picks W H bs).length), .slice A5 ((ends W H bs).length * (picks W H bs).length) c5, .slice A2 H c2], .int .i64 (0)]) ∧ IsInts w' A1 W (natI (thL W H bs)) ∧ OkT w' A5 ((ends W H bs).length * (picks W H bs).length) c5 (tieL W H bs) ∧ IsInts w' A2 H (natI (trL W H bs)) ∧ Below w.heap.size w w' ∧ (∀ b o, A1 = some ⟨b, o, none⟩ → w.heap.size ≤ b) ∧ (∀ b o, A2 = some ⟨b, o, none⟩ → w.heap.size ≤ b) ∧ ∀ b o, A5 = some ⟨b, o, none⟩ → w.heap.size ≤ b
set_option maxRecDepth 100000 in
set_option maxHeartbeats 8000000 in
theorem rFew_ok (W H n : Nat) (a : Option Addr) (c : Nat) (bs : List Bool) (w : World) (hT : OkT w a n c bs) (hW : W ≤ 64) (hH : H ≤ 64) (hn : n = W * H) (hp : 0 < n) :
  Calls Tryz.prog 19 #[.agg #[.int .i64 (W), .int .i64 (H), .slice a n c]] w (RFewPost W H bs w) := by
 have hn4 : n ≤ 4096 := by rw [hn]; exact mul64n hW hH
 have hz : wrT W H n = 0 := by rw [hn]; exact wrT_ok hW hH
 have hn0 : ((n : Int) == 0) = false := by simp; omega
 have HWR := Lib.hid (fun w => r5Wrong_any W H a n c w (wfN W hW) (wfN H hH) (by omega))
 rw [hz] at HWR
 have HTN := Lib.hid fun w h => rTurned_ok W H n hn a c bs w h hW hH
 have HA1 : Hid (∀ A C w, OkT w A n C (turnL W H bs) → Calls Tryz.prog 54 #[.agg #[.int .i64 (H), .int .i64 (W), .slice A n C]] w (IntsPostG (thL W H bs) w)) := Lib.hid fun A C w h => rAlike_okG H W n (by rw [hn, Nat.mul_comm]) A C (turnL W H bs) w h hH hW
 have HA2 : Hid (∀ w, OkT w a n c bs → Calls Tryz.prog 54 #[.agg #[.int .i64 (W), .int .i64 (H), .slice a n c]] w (IntsPostG (trL W H bs) w)) := Lib.hid fun w h => rAlike_okG W H n hn a c bs w h hW hH
 have HBC : Hid (∀ y x w, y < H → x < W → IsBools w a n bs → Calls Tryz.prog 55 #[.agg #[.int .i64 (W), .int .i64 (H), .slice a n c], .int .i64 (y), .int .i64 (x)] w fun e w' => e = .returned (.bool (bs.getD (y * W + x) false)) ∧ Below w.heap.size w w') := Lib.hid fun y x w h4 h5 h => rBit_ok W H n a c bs w h y x _ rfl (by rw [hn]; exact place_lt' h5 h4) hn4 (by omega) (by omega) (by omega)
 have HT := Lib.hid hT
 have HN := Lib.hid hn
 have HLE : Hid (∀ y, y < H → (trL W H bs).getD y 0 ≤ (frs (trL W H bs) y).length) := Lib.hid fun y h => tr_le h
 have HEN : Hid ((frs (thL W H bs) W).length ≤ 64) := Lib.hid (Nat.le_trans (frs_len_le _ _) hW)
 have HTIE : Hid (tieL W H bs = ((frs (trL W H bs) H).map fun y => (frs (thL W H bs) W).map fun x => bs.getD (y * W + x) false).flatten) := Lib.hid rfl
 have HEE : Hid (ends W H bs = frs (thL W H bs) W) := Lib.hid rfl
 have HPP : Hid (picks W H bs = frs (trL W H bs) H) := Lib.hid rfl
 have hth := thL_len W H bs
 have htr := trL_len W H bs
 generalize hTH : thL W H bs = TH at *
 generalize hTR : trL W H bs = TR at *
 have HTH := Lib.hid hTH; have HTR := Lib.hid hTR
 clear hT hn hz hTH hTR
 go_enter Tryz.func19, Tryz.ntmps19
 go_wp2_with fail
 refine (HWR.out _).mono ?_
 rintro r w1 ⟨rfl, hb⟩
 have hq1 := rowBelow ((tF_alloc w W H (.slice a n c) rfl).alloc (.cells #[.slice none 0 0, .int .i64 (0), .int .i64 (0), .slice none 0 0, .slice none 0 0] 27)) hb bnd
 have hr1 := rowBelow (dF_alloc (w.alloc (.cells #[.int .i64 (W), .int .i64 (H), .slice a n c] 25)) (.slice none 0 0) 0 0 (.slice none 0 0) (.slice none 0 0)) hb bnd
 have hb1 : Below w.heap.size w w1 := blw
 rw [World.size_alloc] at hr1
 generalize hqe : w.heap.size = q at *
 have HQE := Lib.hid hqe
 clear hqe hb
 have hq1s : q + 1 < w1.heap.size := hr1.lt
 have c0m : (w1).cell? ⟨q, 0, none⟩ = some (.int .i64 (W)) := (hq1).cell (i := 0) (by omega)
 have c1m : (w1).cell? ⟨q, 1, none⟩ = some (.int .i64 (H)) := (hq1).cell (i := 1) (by omega)
 have c2m : (w1).cell? ⟨q, 2, none⟩ = some (.slice a n c) := (hq1).cell (i := 2) (by omega)
 have lm : LtW (q) (w1) := (hq1).lt
 have HQ1 := Lib.hid hq1; have HR1 := Lib.hid hr1; have HB1 := Lib.hid hb1
 clear hq1 hr1 hb1
 go_wp2_with fail
 refine (HTN.out _ (HT.out.below (by rw [HQE.out]; exact HB1.out))).mono ?_
 rintro r w2 ⟨A2, C2, rfl, hT2, hb2⟩
 have hq2 := rowBelow HQ1.out hb2 (by omega)
 have HR2 := Lib.hid (rowBelow HR1.out hb2 (by omega))
 have HB2 : Hid (Below q w w2) := Lib.hid (HB1.out.trans (hb2.mono (by omega)))
 have hs2 := hb2.size
 have HQ2 := Lib.hid hq2; have HT2 := Lib.hid hT2
 clear hb2 hq2 hT2 HQ1 HR1 HB1 c0m c1m c2m lm
 go_wp2_with fail
 refine (HA1.out _ _ _ (HT2.out.below blw)).mono ?_
 rintro r w3 ⟨A3, C3, rfl, hI3, hb3, hg3⟩
 have hb3 : Below w2.heap.size w2 w3 := Below.trans blw (hb3.mono bnd)
 have hq3 := rowBelow HQ2.out hb3 (by omega)
 have HR3 := Lib.hid (rowBelow HR2.out hb3 (by omega))
 have HB3 : Hid (Below q w w3) := Lib.hid (HB2.out.trans (hb3.mono (by omega)))
 have hs3 := hb3.size
 have HG3 : Hid (∀ b o, A3 = some ⟨b, o, none⟩ → q + 1 < b) := Lib.hid fun b o e => by
  have h2 : w2.heap.size ≤ b := Nat.le_trans bnd (hg3 b o e)
  omega
 have HI3 := Lib.hid hI3; have HQ3 := Lib.hid hq3
 have c0m : (w3).cell? ⟨q, 0, none⟩ = some (.int .i64 (W)) := (hq3).cell (i := 0) (by omega)
 have c1m : (w3).cell? ⟨q, 1, none⟩ = some (.int .i64 (H)) := (hq3).cell (i := 1) (by omega)
 have c2m : (w3).cell? ⟨q, 2, none⟩ = some (.slice a n c) := (hq3).cell (i := 2) (by omega)
 have lm : LtW (q) (w3) := (hq3).lt
 clear hb3 hq3 hg3 hI3 HQ2 HR2 HB2 HT2
 go_wp2_with fail
 refine (HA2.out _ (HT.out.below (by rw [HQE.out]; exact HB3.out))).mono ?_
 rintro r w4 ⟨A4, C4, rfl, hI4, hb4, hg4⟩
 have hq4 := rowBelow HQ3.out hb4 (by omega)
 have HR4 := Lib.hid (rowBelow HR3.out hb4 (by omega))
 have HB4 : Hid (Below q w w4) := Lib.hid (HB3.out.trans (hb4.mono (by omega)))
 have hs4 := hb4.size
 have HG4 : Hid (∀ b o, A4 = some ⟨b, o, none⟩ → q + 1 < b) := Lib.hid fun b o e => by
  have h2 := hg4 b o e
  omega
 have HI4 := Lib.hid hI4; have HQ4 := Lib.hid hq4
 have HI34 := Lib.hid (HI3.out.below hb4)
 rw [hth] at HI34
 rw [htr] at HI4
 clear hb4 hq4 hg4 hI4 HQ3 HR3 HB3 HI3 c0m c1m c2m lm
 go_wp2_with fail
 have hd5 := dF_alloc w4 (.slice A3 W C3) 0 0 (.slice none 0 0) (.slice A4 H C4)
 have HQ5 := Lib.hid (HQ4.out.alloc (.cells #[.slice A3 W C3, .int .i64 (0), .int .i64 (0), .slice none 0 0, .slice A4 H C4] 27))
 have HR5 := Lib.hid (HR4.out.alloc (.cells #[.slice A3 W C3, .int .i64 (0), .int .i64 (0), .slice none 0 0, .slice A4 H C4] 27))
 have hb5 : Below q w (w4.alloc (.cells #[.slice A3 W C3, .int .i64 (0), .int .i64 (0), .slice none 0 0, .slice A4 H C4] 27)) := HB4.out.alloc (by omega) _
 have HG3' : Hid (∀ b o, 0 < W → A3 = some ⟨b, o, none⟩ → b < w4.heap.size) := Lib.hid fun b o h e => by
  obtain ⟨b1, o1, e1, h1, _⟩ := HI34.out.2 h
  rw [e] at e1; injection e1 with e1; injection e1 with e1; omega
 have HG4' : Hid (∀ b o, 0 < H → A4 = some ⟨b, o, none⟩ → b < w4.heap.size) := Lib.hid fun b o h e => by
  obtain ⟨b1, o1, e1, h1, _⟩ := HI4.out.2 h
  rw [e] at e1; injection e1 with e1; injection e1 with e1; omega
 have HI35 := Lib.hid (HI34.out.below (Below.alloc (Below.refl _ _) (Nat.le_refl _) (.cells #[.slice A3 W C3, .int .i64 (0), .int .i64 (0), .slice none 0 0, .slice A4 H C4] 27)))
 have HI45 := Lib.hid (HI4.out.below (Below.alloc (Below.refl _ _) (Nat.le_refl _) (.cells #[.slice A3 W C3, .int .i64 (0), .int .i64 (0), .slice none 0 0, .slice A4 H C4] 27)))
 have hs5 : (w4.alloc (.cells #[.slice A3 W C3, .int .i64 (0), .int .i64 (0), .slice none 0 0, .slice A4 H C4] 27)).heap.size = w4.heap.size + 1 := by simp
 generalize w4.alloc (.cells #[.slice A3 W C3, .int .i64 (0), .int .i64 (0), .slice none 0 0, .slice A4 H C4] 27) = W10 at *
 generalize hdb : w4.heap.size = db at *
 clear hdb
 obtain ⟨base, hbase⟩ : ∃ b, b = W10.heap.size := ⟨_, rfl⟩
 have hord : q < q + 1 ∧ q + 1 < db ∧ db < base := by omega
 have HW0 : Hid (0 < W ∧ 0 < H) := Lib.hid (by
  have h1 := HN.out
  refine ⟨Nat.pos_of_ne_zero fun e => ?_, Nat.pos_of_ne_zero fun e => ?_⟩
  ·rw [e, Nat.zero_mul] at h1; omega
  ·rw [e, Nat.mul_zero] at h1; omega)
 have HO3 := Lib.hid hd5; have HBS := Lib.hid hbase
 have hB0 : Hid (∀ w', BelowX base db W10 w' → Below w.heap.size w w') := Lib.hid fun w' h => by
  rw [HQE.out]
  exact hb5.trans ((h.below hbase.symm (Nat.le_refl _) hord.2.2).mono (by omega))
 have HGA : Hid (∀ b o, A3 = some ⟨b, o, none⟩ → b ≠ db) := Lib.hid fun b o e => by have := HG3'.out b o HW0.out.1 e; omega
 have HGB : Hid (∀ b o, A4 = some ⟨b, o, none⟩ → b ≠ db) := Lib.hid fun b o e => by have := HG4'.out b o HW0.out.2 e; omega
 clear hd5 hb5 hs5 hs2 hs3 hs4 hq1s hbase HG3' HG4' HQ4 HR4 HB4 HI34 HI4
 go_loopw [12] (fun i wr => ∃ (y : Nat) (v : Value), y ≤ H ∧ i = .int .i64 y ∧ DB base db (.slice A3 W C3) ((if y = 0 then 0 else (frs TH W).length : Nat)) ((frs TR y).length) (.slice A4 H C4) (((frs TR y).map fun y => (frs TH W).map fun x => bs.getD (y * W + x) false).flatten) W10 v wr) (fun i _ => H - (intOf i).toNat)
 case atStart => exact ⟨0, _, Nat.zero_le _, rfl, DB.start HO3.out HBS.out⟩
 case round =>
  obtain ⟨y, v, hy, rfl, hfb⟩ := hrel
  have HFB := Lib.hid hfb
  have hbw := hB0.out _ hfb.bel
  have hqr := hfb.bel.rowIs HQ5.out (by omega) (by omega)
  have c0m : (wr).cell? ⟨q, 0, none⟩ = some (.int .i64 (W)) := (hqr).cell (i := 0) (by omega)
  have c1m : (wr).cell? ⟨q, 1, none⟩ = some (.int .i64 (H)) := (hqr).cell (i := 1) (by omega)
  have c2m : (wr).cell? ⟨q, 2, none⟩ = some (.slice a n c) := (hqr).cell (i := 2) (by omega)
  have lm : LtW (q) (wr) := (hqr).lt
  clear hqr
  by_cases hyn : y < H
  ·obtain ⟨b, o, rfl, hbl, hc⟩ := (hfb.bel.intsD HI45.out HGB.out HBS.out).2 (by omega)
   have c0 := hc y hyn
   rw [natI_getN] at c0
   have lb : LtW b wr := hbl
   have hle := HLE.out y hyn
   have d1 : wr.cell? ⟨db, 1, none⟩ = some (.int .i64 (((if y = 0 then 0 else (frs TH W).length : Nat)))) := hfb.row.cell (i := 1) (by omega)
   have d2 : wr.cell? ⟨db, 2, none⟩ = some (.int .i64 ((frs TR y).length)) := hfb.row.cell (i := 2) (by omega)
   have ld : LtW db wr := hfb.row.lt
   have HFS : Hid (frs TR (y+1) = if TR.getD y 0 = (frs TR y).length then frs TR y ++ [y] else frs TR y) := Lib.hid rfl
   obtain ⟨t, ht⟩ : ∃ t, TR.getD y 0 = t := ⟨_, rfl⟩
   rw [ht] at c0 hle HFS
   clear ht hc hbl
   obtain ⟨K, hK⟩ : ∃ K, (frs TR y).length = K := ⟨_, rfl⟩
   have hK64 : K ≤ 64 := by rw [← hK]; exact Nat.le_trans (frs_len_le _ _) (by omega)
   rw [hK] at hle d2 HFS HFB
   have HK := Lib.hid hK
   clear hK hfb
   by_cases htk : t < K
   ·have g1 : decide ((t : Int) < (K : Int)) = true := by simp; omega
    have g2 : decide (t < K) = true := by simp; omega
    have HF2 := Lib.hid (HFS.out.trans (if_neg (by omega)))
    have hy0 : y ≠ 0 := fun e => by
     have h1 := HK.out
     rw [e] at h1
     simp [frs] at h1
     omega
    clear htk
    go_wp2_with fail
    (refine wp_region_ext (by kernel_rfl) (by kernel_rfl) ?_; (repeat (first | ((with_reducible refine ext_step (fun K hK => ?_)); go_simp; first | (refine hK _ ?_; clear hK K) | (apply Exists.intro; refine ⟨fun _ _ => ?_, hK _ ?_⟩; fail; clear hK K)))); refine wpQuiet_nil ?_; intro E d)
    go_wp2
    go_roundw
    case rel =>
     refine ⟨y + 1, v, by omega, by go_num, ?_⟩
     rw [HF2.out, HK.out, if_neg (by omega)]
     have h1 := HFB.out
     rw [if_neg hy0] at h1
     exact h1.below (bExtW (Below.refl _ _) (Nat.le_refl _))
    case measure => simp [intOf]; omega
   ·obtain rfl : t = K := by omega
    have g1 : decide ((t : Int) < (t : Int)) = false := by simp
    have g2 : decide (t < t) = false := by simp
    have HF2 := Lib.hid (HFS.out.trans (if_pos rfl))
    clear htk hle
    go_wp2_with fail
    (refine wp_region_ext (by kernel_rfl) (by kernel_rfl) ?_; (repeat (first | ((with_reducible refine ext_step (fun K hK => ?_)); go_simp; first | (refine hK _ ?_; clear hK K) | (apply Exists.intro; refine ⟨fun _ _ => ?_, hK _ ?_⟩; fail; clear hK K)))); refine wpQuiet_nil ?_; intro E d)
    have HFE := Lib.hid (HFB.out.below (bExtW (Below.refl _ _) (Nat.le_refl _) : Below wr.heap.size wr (extW wr E d)))
    generalize extW wr E d = wq at *
    have hrow := HFE.out.row
    have d1 : wq.cell? ⟨db, 1, none⟩ = some (.int .i64 (((if y = 0 then 0 else (frs TH W).length : Nat)))) := hrow.cell (i := 1) (by omega)
    have d2 : wq.cell? ⟨db, 2, none⟩ = some (.int .i64 (t)) := hrow.cell (i := 2) (by omega)
    have f1 := hrow.frozen 1; have f2 := hrow.frozen 2
    have ld : LtW db wq := hrow.lt
    have HSB : Hid (BelowX base db W10 wq) := Lib.hid HFE.out.bel
    clear hrow c0 lb hbw c0m c1m c2m lm HFB
    obtain ⟨T0, hT0⟩ : ∃ T0, ((frs TR y).map fun y => (frs TH W).map fun x => bs.getD (y * W + x) false).flatten = T0 := ⟨_, rfl⟩
    rw [hT0] at HFE
    have hT0l : T0.length ≤ 4096 := by
     rw [← hT0, grid_len]
     exact Nat.le_trans (Nat.mul_le_mul HEN.out (by rw [HK.out]; exact hK64)) (by omega)
    have HT0 := Lib.hid hT0
    clear hT0
    have HFI := Lib.hid ((HFE.out.setH (by omega) ((t : Int) + 1)).setW (by omega) 0)
    clear HFE
    go_wp2_with fail
    go_loopw [13] (fun i wr => ∃ (x : Nat) (v : Value), x ≤ W ∧ i = .int .i64 x ∧ DB base db (.slice A3 W C3) ((frs TH x).length) ((t : Int) + 1) (.slice (some ⟨b, o, none⟩) H C4) (T0 ++ (frs TH x).map fun x => bs.getD (y * W + x) false) W10 v wr) (fun i _ => W - (intOf i).toNat)
    case atStart => exact ⟨0, v, Nat.zero_le _, rfl, by simpa [frs] using HFI.out⟩
    case round =>
     clear HFI d1 d2 f1 f2 ld
     obtain ⟨x, v, hx, rfl, hfb⟩ := hrel
     have HFB := Lib.hid hfb
     have hbw := hB0.out _ hfb.bel
     have hqr := hfb.bel.rowIs HQ5.out (by omega) (by omega)
     have c0m : (wr).cell? ⟨q, 0, none⟩ = some (.int .i64 (W)) := (hqr).cell (i := 0) (by omega)
     have c1m : (wr).cell? ⟨q, 1, none⟩ = some (.int .i64 (H)) := (hqr).cell (i := 1) (by omega)
     have c2m : (wr).cell? ⟨q, 2, none⟩ = some (.slice a n c) := (hqr).cell (i := 2) (by omega)
     have lm : LtW (q) (wr) := (hqr).lt
     clear hqr
     by_cases hxn : x < W
     ·obtain ⟨b3, o3, rfl, hbl, hc⟩ := (hfb.bel.intsD HI35.out HGA.out HBS.out).2 (by omega)
      have c0 := hc x hxn
      rw [natI_getN] at c0
      have lb3 : LtW b3 wr := hbl
      have d1 : wr.cell? ⟨db, 1, none⟩ = some (.int .i64 ((frs TH x).length)) := hfb.row.cell (i := 1) (by omega)
      have ld : LtW db wr := hfb.row.lt
      have HFX : Hid (frs TH (x+1) = if TH.getD x 0 = (frs TH x).length then frs TH x ++ [x] else frs TH x) := Lib.hid rfl
      obtain ⟨s, hs⟩ : ∃ s, TH.getD x 0 = s := ⟨_, rfl⟩
      rw [hs] at c0 HFX
      have hL64 : (frs TH x).length ≤ 64 := Nat.le_trans (frs_len_le _ _) (by omega)
      clear hs hc hbl
      obtain ⟨FX, hFX⟩ : ∃ FX, frs TH x = FX := ⟨_, rfl⟩
      rw [hFX] at d1 HFX HFB hL64
      clear hFX hfb
      obtain ⟨M, hM⟩ : ∃ M, FX.length = M := ⟨_, rfl⟩
      rw [hM] at d1 HFX HFB hL64
      have HM := Lib.hid hM
      clear hM
      by_cases hsm : s = M
      ·subst hsm
       have g1 : ((s : Int) == (s : Int)) = true := by simp
       have g2 : (s == s) = true := by simp
       have HX2 := Lib.hid (HFX.out.trans (if_pos rfl))
       go_wp2_with fail
       (refine wp_region_ext (by kernel_rfl) (by kernel_rfl) ?_; (repeat (first | ((with_reducible refine ext_step (fun K hK => ?_)); go_simp; first | (refine hK _ ?_; clear hK K) | (apply Exists.intro; refine ⟨fun _ _ => ?_, hK _ ?_⟩; fail; clear hK K)))); refine wpQuiet_nil ?_; intro E d)
       have HFE := Lib.hid (HFB.out.below (bExtW (Below.refl _ _) (Nat.le_refl _) : Below wr.heap.size wr (extW wr E d)))
       generalize extW wr E d = wq2 at *
       have hrow := HFE.out.row
       have k1 : wq2.cell? ⟨db, 1, none⟩ = some (.int .i64 (s)) := hrow.cell (i := 1) (by omega)
       have f1 := hrow.frozen 1
       have lk : LtW db wq2 := hrow.lt
       clear hrow c0 d1 ld lb3 c0m c1m c2m lm hbw HFB
       go_upto_region 21 with fail
       have HFG := Lib.hid (HFE.out.setW (by omega) ((s : Int) + 1))
       clear HFE k1 f1 lk
       generalize wq2.setCell ⟨db, 1, none⟩ (.int .i64 ((s : Int) + 1)) = wz at *
       obtain ⟨hr0, ho0, hx0⟩ := HFG.out
       have hqr := hx0.rowIs HQ5.out (by omega) (by omega)
       have c0m : (wz).cell? ⟨q, 0, none⟩ = some (.int .i64 (W)) := (hqr).cell (i := 0) (by omega)
       have c1m : (wz).cell? ⟨q, 1, none⟩ = some (.int .i64 (H)) := (hqr).cell (i := 1) (by omega)
       have c2m : (wz).cell? ⟨q, 2, none⟩ = some (.slice a n c) := (hqr).cell (i := 2) (by omega)
       have lm : LtW (q) (wz) := (hqr).lt
       have hbz := hB0.out _ hx0
       have hIz := (HT.out.below hbz).bits
       have hlen : (T0 ++ FX.map fun x => bs.getD (y * W + x) false).length ≤ 4200 := by rw [List.length_append, List.length_map, HM.out]; omega
       obtain ⟨LL, hLL⟩ : ∃ LL, T0 ++ FX.map (fun x => bs.getD (y * W + x) false) = LL := ⟨_, rfl⟩
       rw [hLL] at ho0 hlen
       have HLL := Lib.hid hLL
       obtain ⟨bit, hbit⟩ : ∃ bit, bs.getD (y * W + x) false = bit := ⟨_, rfl⟩
       have HBT : Hid (∀ w, IsBools w a n bs → Calls Tryz.prog 55 #[.agg #[.int .i64 (W), .int .i64 (H), .slice a n c], .int .i64 (y), .int .i64 (x)] w fun e w' => e = .returned (.bool bit) ∧ Below w.heap.size w w') := Lib.hid fun w h => by
        rw [← hbit]; exact HBC.out y x w hyn hxn h
       have HBI := Lib.hid hbit
       obtain ⟨LN, hLN⟩ : ∃ LN, LL.length = LN := ⟨_, rfl⟩
       rw [hLN] at ho0 hlen
       have HLN := Lib.hid hLN
       have cM : wz.cell? ⟨db, 3, none⟩ = some v := hr0.cell (i := 3) (by omega)
       have fM := hr0.frozen 3
       have lm3 : LtW db wz := hr0.lt
       have lm := lm3
       have lqz : LtW q wz := hqr.lt
       have HO := Lib.hid ho0
       have HX := Lib.hid hx0
       have HR := Lib.hid hr0
       have HIZ := Lib.hid hIz
       have hxs := hx0.size
       clear hr0 ho0 hx0 hqr hbz hIz hLL hbit hLN HFG
       go_wp2_with fail
       (refine wp_region_ext_build 7 _ mkOne (.cells #[.bool (bit)] 4) (by kernel_rfl) (by kernel_rfl) rfl rfl ?_; simp only [List.take_succ_cons, List.take_zero, List.drop_succ_cons, List.drop_zero]; (repeat (first | ((with_reducible refine wpV_step (fun K hK => ?_)); go_simp; first | (refine hK _ ?_; clear hK K) | (apply Exists.intro; refine ⟨fun _ _ => ?_, hK _ ?_⟩; (go_at_call 55; exact vOf (HBT.out _ (HIZ.out.below blw))); clear hK K)))); refine wpV_nil ?_; refine ⟨fun W => by go_simp; rfl, fun E d E' d' => ?_⟩)
       have hbE := built_below wz E d (.cells #[.bool (bit)] 4) E' d'
       have HCS := Lib.hid (built_cell wz E d #[.bool (bit)] 4 E' d')
       have cME := bCs hbE cM
       have fME := (hbE.frozen (p := ⟨db, 3, none⟩) (show db < (wz).heap.size from lm)).trans fM
       have HOE := Lib.hid (ownBelow HO.out hbE)
       have hgE := Nat.le_trans HX.out.size hbE.size
       have HBE := Lib.hid hbE
       clear hbE cM fM
       generalize extW ((extW wz E d).alloc (.cells #[.bool (bit)] 4)) E' d' = WE at *
       generalize (extW wz E d).heap.size = BB at *
       go_wp2_with (at_builtin; refine wpAppB okBools rfl (.tmp 87) (.tmp 92) rfl base _ _ _ #[.bool (bit)] BB rfl HOE.out rfl HCS.out rfl ?_ (by omega) (by omega) (by omega) ?_)
       ·simp [Value.oneCell']
       intro v' w2 hown2 hb2
       obtain ⟨A', cp', rfl⟩ := own_form hown2
       have cM2 : w2.cell? ⟨db, 3, none⟩ = some v := (hb2.cell (p := ⟨db, 3, none⟩) (by simp; omega)).trans cME
       have fM2 : w2.frozen? ⟨db, 3, none⟩ = false := (hb2.frozen (p := ⟨db, 3, none⟩) (by simp; omega)).trans fME
       have HNW := Lib.hid (DB.app HR.out HX.out HBE.out (by omega) hown2 hb2)
       clear hown2 hb2 cME fME
       go_wp2
       go_roundw
       case rel =>
        refine ⟨x + 1, .slice A' (LN + 1) cp', by omega, by go_num, ?_⟩
        have h1 := HNW.out
        rw [← HLL.out] at h1
        rw [HX2.out, List.map_append, ← List.append_assoc, List.length_append, HM.out, show [x].map (fun x => bs.getD (y * W + x) false) = [bit] by rw [← HBI.out]; rfl]
        exact h1
       case measure => simp [intOf]; omega
      ·have g1 : ((s : Int) == (M : Int)) = false := by simp; omega
       have g2 : (s == M) = false := by simp; omega
       have HX2 := Lib.hid (HFX.out.trans (if_neg hsm))
       clear hsm
       go_wp2_with fail
       (refine wp_region_ext (by kernel_rfl) (by kernel_rfl) ?_; (repeat (first | ((with_reducible refine ext_step (fun K hK => ?_)); go_simp; first | (refine hK _ ?_; clear hK K) | (apply Exists.intro; refine ⟨fun _ _ => ?_, hK _ ?_⟩; fail; clear hK K)))); refine wpQuiet_nil ?_; intro E d)
       go_wp2
       go_roundw
       case rel =>
        refine ⟨x + 1, v, by omega, by go_num, ?_⟩
        rw [HX2.out, HM.out]
        exact HFB.out.below (bExtW (Below.refl _ _) (Nat.le_refl _))
       case measure => simp [intOf]; omega
     ·obtain rfl : W = x := by omega
      clear hfb hbw
      go_wp2
      go_roundw
      case rel =>
       refine ⟨y + 1, v, by omega, by go_num, ?_⟩
       have h1 := HFB.out
       rw [← HT0.out] at h1
       rw [HF2.out, if_neg (by omega), List.length_append, HK.out, List.map_append, List.flatten_append]
       simp only [List.map_cons, List.map_nil, List.flatten_cons, List.flatten_nil, List.append_nil, List.length_cons, List.length_nil]
       exact h1
      case measure => simp [intOf]; omega
  ·obtain rfl : H = y := by omega
   obtain ⟨hr9, ho9, hx9⟩ := hfb
   rw [← HTIE.out] at ho9
   obtain ⟨et, het⟩ : ∃ et, (frs TH W).length = et := ⟨_, rfl⟩
   obtain ⟨pt, hpt⟩ : ∃ pt, (frs TR H).length = pt := ⟨_, rfl⟩
   have hlo : (tieL W H bs).length = et * pt := by rw [HTIE.out, grid_len, het, hpt]
   rw [if_neg (by have := HW0.out; omega), het, hpt] at hr9
   obtain ⟨a1, k1, rfl, hT1, hg1⟩ := OkT.of_owns ho9
   rw [hlo] at hr9 hT1
   have HET := Lib.hid het; have HPT := Lib.hid hpt
   have o0 : wr.cell? ⟨db, 0, none⟩ = some (.slice A3 W C3) := hr9.cell (i := 0) (by omega)
   have o1 : wr.cell? ⟨db, 1, none⟩ = some (.int .i64 (et)) := hr9.cell (i := 1) (by omega)
   have o2 : wr.cell? ⟨db, 2, none⟩ = some (.int .i64 (pt)) := hr9.cell (i := 2) (by omega)
   have o3 : wr.cell? ⟨db, 3, none⟩ = some (.slice a1 (et * pt) k1) := hr9.cell (i := 3) (by omega)
   have o4 : wr.cell? ⟨db, 4, none⟩ = some (.slice A4 H C4) := hr9.cell (i := 4) (by omega)
   have lo : LtW db wr := hr9.lt
   have rr := hx9.rowIs HR5.out (by omega) (by omega)
   have r0 : wr.cell? ⟨q + 1, 0, none⟩ = some (.slice none 0 0) := rr.cell (i := 0) (by omega)
   have r1 : wr.cell? ⟨q + 1, 1, none⟩ = some (.int .i64 (0)) := rr.cell (i := 1) (by omega)
   have r2 : wr.cell? ⟨q + 1, 2, none⟩ = some (.int .i64 (0)) := rr.cell (i := 2) (by omega)
   have r3 : wr.cell? ⟨q + 1, 3, none⟩ = some (.slice none 0 0) := rr.cell (i := 3) (by omega)
   have r4 : wr.cell? ⟨q + 1, 4, none⟩ = some (.slice none 0 0) := rr.cell (i := 4) (by omega)
   have lr : LtW (q + 1) wr := rr.lt
   have f0 := rr.frozen 0; have f1 := rr.frozen 1; have f2 := rr.frozen 2; have f3 := rr.frozen 3; have f4 := rr.frozen 4
   have HT1 := Lib.hid hT1
   have HG1 := Lib.hid hg1
   have HI9 := Lib.hid (hx9.intsD HI35.out HGA.out HBS.out)
   have HJ9 := Lib.hid (hx9.intsD HI45.out HGB.out HBS.out)
   have HBW := Lib.hid hbw
   have hxs := hx9.size
   clear hr9 ho9 hx9 rr hlo hT1 hg1 HFB HO3 HR5 hbw hB0 het hpt HTIE HLE HEN
   go_wp2
   have BX := Lib.hid ((((((BelowX.refl (base := wr.heap.size) (mb := q + 1) (W := wr) (Nat.le_refl _)).set 0 (.slice A3 W C3)).set 1 (.int .i64 (et))).set 2 (.int .i64 (pt))).set 3 (.slice a1 (et * pt) k1)).set 4 (.slice A4 H C4))
   have hfin : Below w.heap.size w (((((wr.setCell ⟨q + 1, 0, none⟩ (.slice A3 W C3)).setCell ⟨q + 1, 1, none⟩ (.int .i64 (et))).setCell ⟨q + 1, 2, none⟩ (.int .i64 (pt))).setCell ⟨q + 1, 3, none⟩ (.slice a1 (et * pt) k1)).setCell ⟨q + 1, 4, none⟩ (.slice A4 H C4)) := by
    have := HQE.out
    exact ((((HBW.out.setCell (by simp; omega) _).setCell (by simp; omega) _).setCell (by simp; omega) _).setCell (by simp; omega) _).setCell (by simp; omega) _
   refine bodyPost_ret (v := .tuple #[.agg #[.slice A3 W C3, .int .i64 (et), .int .i64 (pt), .slice a1 (et * pt) k1, .slice A4 H C4], .int .i64 (0)]) (by simp [results, Tryz.results19, go_sem, r0, r1, r2, r3, r4]) rfl ?_
   unfold RFewPost
   rw [HEE.out, HPP.out, HTH.out, HTR.out, HET.out, HPT.out]
   exact ⟨A3, C3, A4, C4, a1, k1, rfl, BX.out.intsD HI9.out (fun b o e => by have := HG3.out b o e; omega) rfl, BX.out.okT HT1.out rfl (fun b o e => by have := HG1.out b o e; omega), BX.out.intsD HJ9.out (fun b o e => by have := HG4.out b o e; omega) rfl, hfin, fun b o e => by have := HG3.out b o e; have := HQE.out; omega, fun b o e => by have := HG4.out b o e; have := HQE.out; omega, fun b o e => by have := HG1.out b o e; have := HQE.out; have := HBW.out.size; omega⟩
end
namespace Cl
def closedB (n : Nat) (ab : Nat → Nat → Bool) (f : Nat → Bool) : Prop := ∀ a, a < n → f a = false → ∀ b, b < n → f b = true → ab a b = false
instance (n : Nat) (ab : Nat → Nat → Bool) (f : Nat → Bool) : Decidable (closedB n ab f) := by unfold closedB; exact inferInstance
theorem lift_cases (n : Nat) (ab : Nat → Nat → Bool) : (lift n ab = [] ∧ ∀ s, s < n → Cl.cnt n (fun a => wp ab n a s) = n) ∨ (∃ s, s < n ∧ Cl.cnt n (fun a => wp ab n a s) < n ∧ lift n ab = (List.range n).filter (fun a => wp ab n a s)) := by
 rcases Classical.em (∃ s, s < n ∧ Cl.cnt n (fun a => wp ab n a s) < n) with h | h
 ·right
  -- the first one
  have : ∃ s, (s < n ∧ Cl.cnt n (fun a => wp ab n a s) < n) ∧ ∀ x, x < s → ¬ (x < n ∧ Cl.cnt n (fun a => wp ab n a x) < n) := by
   obtain ⟨s, hs⟩ := h
   induction s using Nat.strongRecOn with
   | _ s ih =>
    rcases Classical.em (∃ x, x < s ∧ (x < n ∧ Cl.cnt n (fun a => wp ab n a x) < n)) with ⟨x, hx, hx2⟩ | he
    ·exact ih x hx hx2
    ·exact ⟨s, hs, fun x hx hh => he ⟨x, hx, hh⟩⟩
  obtain ⟨s, ⟨h1, h2⟩, h3⟩ := this
  exact ⟨s, h1, h2, lift_some h1 h2 fun x hx hh => h3 x hx ⟨by omega, hh⟩⟩
 ·left
  have h' : ∀ s, s < n → ¬ Cl.cnt n (fun a => wp ab n a s) < n := fun s hs hh => h ⟨s, hs, hh⟩
  refine ⟨lift_none h', fun s hs => ?_⟩
  have := h' s hs
  have := cnt_le n (fun a => wp ab n a s)
  omega
end Cl
namespace Cl
def scc (n : Nat) (ab : Nat → Nat → Bool) (a b : Nat) : Bool := wp ab n a b && wp ab n b a
section
variable {n : Nat} {ab : Nat → Nat → Bool}
def dn (n : Nat) (ab : Nat → Nat → Bool) (hs : List Nat) (s : Nat) : Bool := hs.any fun h => scc n ab s h
end
end Cl
section
open Go.RowKit
open Cl
theorem lfLy20 {P : Prop} (h : P := by
 go_wp2
 go_ret
 exact ⟨by rw [HT.out]; rfl, blw⟩) : P := h
set_option maxRecDepth 100000 in
set_option maxHeartbeats 8000000 in
theorem r8Wrong_any (W H : Int) (a : Option Addr) (n c : Nat) (w : World) (h1 : (-9223372036854775808 ≤ W ∧ W ≤ 9223372036854775807)) (h2 : (-9223372036854775808 ≤ H ∧ H ≤ 9223372036854775807)) (h3 : n ≤ 9223372036854775807) :
  Calls Tryz.prog 56 #[.agg #[.int .i64 (W), .int .i64 (H), .slice a n c]] w fun e w' => e = .returned (.int .i64 (wrC W H n)) ∧ Below w.heap.size w w' := by
 by_cases hq : wrT W H n = 0
 ·by_cases hn : n = 0
  ·subst hn
   have HT : Hid (wrC W H 0 = 5) := Lib.hid (by simp [wrC, hq])
   have HE := Lib.hid hq
   clear hq
   go_enter Tryz.func56, Tryz.ntmps56
   (go_wp2_with fail; refine (r5Wrong_any W H a 0 c _ h1 h2 h3).mono ?_; rintro r w1 ⟨rfl, hb⟩; obtain ⟨E, d, rfl⟩ := bExt hb; clear hb)
   rw [HE.out]
   exact lfLy20
  ·have HT : Hid (wrC W H n = 0) := Lib.hid (by simp [wrC, hq, hn])
   have HE := Lib.hid hq
   have hn0 : ((n : Int) == 0) = false := by simp; omega
   clear hq hn
   go_enter Tryz.func56, Tryz.ntmps56
   (go_wp2_with fail; refine (r5Wrong_any W H a n c _ h1 h2 h3).mono ?_; rintro r w1 ⟨rfl, hb⟩; obtain ⟨E, d, rfl⟩ := bExt hb; clear hb)
   rw [HE.out]
   exact lfLy20
 ·have hb : (wrT W H n != 0) = true := by simpa using hq
  have HT : Hid (wrC W H n = wrT W H n) := Lib.hid (by simp [wrC, hq])
  clear hq
  go_enter Tryz.func56, Tryz.ntmps56
  (go_wp2_with fail; refine (r5Wrong_any W H a n c _ h1 h2 h3).mono ?_; rintro r w1 ⟨rfl, hb⟩; obtain ⟨E, d, rfl⟩ := bExt hb; clear hb)
  exact lfLy20
theorem lfLy21 {P : Prop} (h : P := by
 go_wp2_with fail
 rw [show (W : Int) + (y : Int) - (W : Int) = (y : Int) by omega]
 (go_wp2_with fail; refine (HB.out _ (HI.out.below blw)).mono ?_; rintro r w1 ⟨rfl, hb⟩; obtain ⟨E, d, rfl⟩ := bExt hb; clear hb)
 exact lfLy20) : P := h
set_option maxRecDepth 100000 in
set_option maxHeartbeats 8000000 in
theorem r8Above_any (W H : Nat) (a : Option Addr) (n c : Nat) (bs : List Bool) (w : World) (h : IsBools w a n bs) (h1 : W ≤ 64) (h2 : H ≤ 64) (hn : n = W * H) (i j : Nat) (hi : i < W + H) (hj : j < W + H) :
  Calls Tryz.prog 95 #[.agg #[.int .i64 (W), .int .i64 (H), .slice a n c], .int .i64 (i), .int .i64 (j)] w fun e w' => e = .returned (.bool (abM W H bs i j)) ∧ Below w.heap.size w w' := by
 have hn4 : n ≤ 4096 := by rw [hn]; exact Nat.le_trans (Nat.mul_le_mul h1 h2) (by omega)
 have HI := Lib.hid h
 clear h
 by_cases hiw : i < W
 ·by_cases hjw : W ≤ j
  ·obtain ⟨y, rfl⟩ : ∃ y, j = W + y := ⟨j - W, by omega⟩
   have hp := place_lt (W := W) (H := H) (x := i) (y := y) hiw (by omega)
   have HT : Hid (abM W H bs i (W + y) = bs.getD (y * W + i) false) := Lib.hid (by unfold abM; rw [if_pos ⟨hiw, by omega, hj⟩, show W + y - W = y by omega])
   have HB := Lib.hid (fun w h => rBit_ok W H n a c bs w h y i _ rfl (by rw [hn]; exact hp) hn4 (by omega) (by omega) (by omega))
   clear hn hp
   generalize bs.getD (y * W + i) false = v at *
   go_enter Tryz.func95, Tryz.ntmps95
   exact lfLy21
  ·have HT : Hid (abM W H bs i j = false) := Lib.hid (by unfold abM; rw [if_neg (by omega), if_neg (by omega)])
   clear hn
   go_enter Tryz.func95, Tryz.ntmps95
   exact lfLy20
 ·by_cases hjw : W ≤ j
  ·have HT : Hid (abM W H bs i j = false) := Lib.hid (by unfold abM; rw [if_neg (by omega), if_neg (by omega)])
   clear hn
   go_enter Tryz.func95, Tryz.ntmps95
   exact lfLy20
  ·obtain ⟨y, rfl⟩ : ∃ y, i = W + y := ⟨i - W, by omega⟩
   have hp := place_lt (W := W) (H := H) (x := j) (y := y) (by omega) (by omega)
   have HT : Hid (abM W H bs (W + y) j = !bs.getD (y * W + j) false) := Lib.hid (by unfold abM; rw [if_neg (by omega), if_pos ⟨by omega, hi, by omega⟩, show W + y - W = y by omega])
   have HB := Lib.hid (fun w h => rBit_ok W H n a c bs w h y j _ rfl (by rw [hn]; exact hp) hn4 (by omega) (by omega) (by omega))
   clear hn hp
   generalize bs.getD (y * W + j) false = v at *
   go_enter Tryz.func95, Tryz.ntmps95
   exact lfLy21
end
end Go.Proofs.YtajdoobkfbdgoaaGreatDoor
