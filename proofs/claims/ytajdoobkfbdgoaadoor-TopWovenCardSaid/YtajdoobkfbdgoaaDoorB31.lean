/- Lemmas on which the law of this seat rests; each states its own conditions. -/
import Derived.Test.YtajdoobkfbdgoaaDoorB27
import Derived.Test.YtajdoobkfbdgoaaDoorB28
import Derived.Test.YtajdoobkfbdgoaaDoorB30
import Derived.Test.YtajdoobkfbdgoaaDoorB01
import Derived.Test.YtajdoobkfbdgoaaDoorB15
import Derived.Test.YtajdoobkfbdgoaaDoorB17
import Derived.Test.YtajdoobkfbdgoaaDoorB11
import Derived.Test.YtajdoobkfbdgoaaDoorB07
import Derived.Test.YtajdoobkfbdgoaaDoorB26
import Derived.Laws.Bits64b
import Derived.Laws.CopyOwn
import Derived.Deep.RegionLaw
import Derived.Test.YtajdoobkfbdgoaaDoorB13
import Derived.Deep.DeepCutAuto
import Derived.Test.YtajdoobkfbdgoaaDoorB22
import Derived.Test.YtajdoobkfbdgoaaDoorB02
import Derived.ProofKit
import Derived.OpenShut
import Derived.ShutString
import Derived.ChangeOld
import Derived.Below
import Derived.Lib.SmallJoins
import Derived.Deep.Strs
set_option linter.unusedVariables false
set_option linter.unusedSimpArgs false
namespace Go.Proofs.YtajdoobkfbdgoaaDoor
section
open Go.RowKit
open Cl Lo
open By (readS)
theorem setCell_noopT {w : World} {b i : Nat} {v : Value} (h : w.cell? ⟨b, i, none⟩ = some v) : w.setCell ⟨b, i, none⟩ v = w := by
 cases w with
 | mk hp tp dr os out =>
 unfold World.cell? at h
 unfold World.setCell
 simp only [Option.isSome_none, Bool.false_eq_true, if_false, World.mk.injEq, and_true] at h ⊢
 apply Array.ext
 ·simp
 ·intro k h1 h2
  rw [Array.getElem_modify]
  split
  ·rename_i hk
   subst hk
   simp only [Array.getElem?_eq_getElem h2] at h
   cases hc : hp[b] with
   | cells c t f =>
    rw [hc] at h
    simp only at h ⊢
    congr 1
    apply Array.ext
    ·simp
    ·intro j h3 h4
     rw [Array.getElem_setIfInBounds]
     split
     ·rename_i hj
      subst hj
      simpa [h4] using h.symm
     ·rfl
   | _ => rfl
  ·rfl
def MF (kn : ByteArray) (dl : Int) (A1 : Option Addr) (n1 c1 : Nat) (X Y : Int) (A5 : Option Addr) (n5 c5 : Nat) (A2 : Option Addr) (n2 c2 : Nat) (hg : Bool) (A6 : Option Addr) (n6 c6 : Nat) (dn al : Int) (cd : ByteArray) : Nat → Value :=
 mF (.string kn) (.int .i64 (dl)) (.slice A1 n1 c1) (.int .i64 (X)) (.int .i64 (Y)) (.slice A5 n5 c5) (.slice A2 n2 c2) (.bool hg) (.slice A6 n6 c6) (.int .i64 (dn)) (.int .i64 (al)) (.string cd)
theorem MF_alloc (w : World) (kn : ByteArray) (dl : Int) (A1 : Option Addr) (n1 c1 : Nat) (X Y : Int) (A5 : Option Addr) (n5 c5 : Nat) (A2 : Option Addr) (n2 c2 : Nat) (hg : Bool) (A6 : Option Addr) (n6 c6 : Nat) (dn al : Int) (cd : ByteArray) :
  (w.alloc (.cells #[.string kn, .int .i64 (dl), .slice A1 n1 c1, .int .i64 (X), .int .i64 (Y), .slice A5 n5 c5, .slice A2 n2 c2, .bool hg, .slice A6 n6 c6, .int .i64 (dn), .int .i64 (al), .string cd] 37)).rowIs w.heap.size 37 12 (MF kn dl A1 n1 c1 X Y A5 n5 c5 A2 n2 c2 hg A6 n6 c6 dn al cd) := by
 refine World.rowIs_alloc w #[.string kn, .int .i64 (dl), .slice A1 n1 c1, .int .i64 (X), .int .i64 (Y), .slice A5 n5 c5, .slice A2 n2 c2, .bool hg, .slice A6 n6 c6, .int .i64 (dn), .int .i64 (al), .string cd] 37 (MF kn dl A1 n1 c1 X Y A5 n5 c5 A2 n2 c2 hg A6 n6 c6 dn al cd) ?_
 intro j hj
 have hj' : j < 12 := hj
 have h12 : j = 0 ∨ j = 1 ∨ j = 2 ∨ j = 3 ∨ j = 4 ∨ j = 5 ∨ j = 6 ∨ j = 7 ∨ j = 8 ∨ j = 9 ∨ j = 10 ∨ j = 11 := by omega
 rcases h12 with rfl | rfl | rfl | rfl | rfl | rfl | rfl | rfl | rfl | rfl | rfl | rfl <;> rfl
theorem tF_allocT (w : World) (W H : Int) (A : Option Addr) (k c : Nat) : (w.alloc (.cells #[.int .i64 W, .int .i64 H, .slice A k c] 33)).rowIs w.heap.size 33 3 (tF W H (.slice A k c)) := by
 refine World.rowIs_alloc w #[.int .i64 W, .int .i64 H, .slice A k c] 33 (tF W H (.slice A k c)) ?_
 intro j hj
 have hj' : j < 3 := hj
 have h3 : j = 0 ∨ j = 1 ∨ j = 2 := by omega
 rcases h3 with rfl | rfl | rfl <;> rfl
set_option maxRecDepth 100000 in
set_option maxHeartbeats 8000000 in
theorem woven_ok (s : ByteArray) (G Wd Hh n e q n6 : Nat) (cs : List Int) (bs : List Bool) (kn : ByteArray) (dl : Nat) (l1 l2 l6 : List Int) (l5 : List Bool) (hg : Bool) (dn al : Int) (cd : ByteArray) (w : World) (V1 G1 V2 G2 V3 G3 q1 q2 q3 : Nat) (M1 M2 M3 M4 : List Bool)
  (hW : Wd ≤ 64) (hH : Hh ≤ 64) (hbs : Hid (bs = rsB cs))
  (HAL : Hid (∀ w, Tabs w → Calls Tryd.prog 5 #[] w fun e w' => e = .returned (.bool true) ∧ Below w.heap.size w w'))
  (HT : Hid (Tabs w))
  (HRD : Hid (∀ w, Tabs w → Calls Tryd.prog 6 #[.string s] w fun r w' => (∃ A C, r = .returned (.tuple #[.agg #[.int .i64 (G), .int .i64 (Wd), .int .i64 (Hh), .slice A n C], .agg #[.int .i64 (0), .int .i64 (0)]]) ∧ IsInts w' A n cs) ∧ Below w.heap.size w w'))
  (HMK : Hid (∀ w, Tabs w → Calls Tryd.prog 7 #[.string s] w (MkU kn dl Wd Hh (e * q) n6 e q l1 l2 l5 l6 hg dn al cd 0 0 w)))
  (HUN : Hid (∀ w, Calls Tryd.prog 8 #[.string cd] w fun r w' => (∃ A C, r = .returned (.tuple #[.agg #[.int .i64 (Wd), .int .i64 (Hh), .slice A n C], .agg #[.int .i64 (0), .int .i64 (0)]]) ∧ OkT w' A n C bs) ∧ Below w.heap.size w w'))
  (HDD : Hid (∀ A1 c1 A2 c2 A5 c5 w, IsInts w A1 Wd l1 → IsInts w A2 Hh l2 → OkT w A5 (e * q) c5 l5 → Calls Tryd.prog 9 #[.agg #[.slice A1 Wd c1, .int .i64 (e), .int .i64 (q), .slice A5 (e * q) c5, .slice A2 Hh c2]] w (UT Wd Hh n bs 0 w)))
  (HCH : Hid (∀ A1 c1 A2 c2 A5 c5 w, IsInts w A1 Wd l1 → IsInts w A2 Hh l2 → OkT w A5 (e * q) c5 l5 → Calls Tryd.prog 11 #[.agg #[.slice A1 Wd c1, .int .i64 (e), .int .i64 (q), .slice A5 (e * q) c5, .slice A2 Hh c2]] w (UC V1 G1 V2 G2 V3 G3 q1 q2 q3 M1 M2 M3 0 w)))
  (HP1 : Hid (∀ A1 c1 A2 c2 w, OkT w A1 q1 c1 M1 → OkT w A2 q2 c2 M2 → Calls Tryd.prog 12 #[.agg #[.int .i64 (V1), .int .i64 (G1), .slice A1 q1 c1], .agg #[.int .i64 (V2), .int .i64 (G2), .slice A2 q2 c2]] w (UT V2 G1 (V2 * G1) M4 0 w)))
  (HP2 : Hid (∀ A1 c1 A2 c2 w, OkT w A1 (V2 * G1) c1 M4 → OkT w A2 q3 c2 M3 → Calls Tryd.prog 12 #[.agg #[.int .i64 (V2), .int .i64 (G1), .slice A1 (V2 * G1) c1], .agg #[.int .i64 (V3), .int .i64 (G3), .slice A2 q3 c2]] w (UT Wd Hh n bs 0 w)))
  (HSM : Hid (∀ a1 c1 a2 c2 w, OkT w a1 n c1 bs → OkT w a2 n c2 bs → Calls Tryd.prog 10 #[.agg #[.int .i64 (Wd), .int .i64 (Hh), .slice a1 n c1], .agg #[.int .i64 (Wd), .int .i64 (Hh), .slice a2 n c2]] w fun r w' => r = .returned (.bool true) ∧ Below w.heap.size w w'))
  (HHG : Hid (∀ a c w, IsBools w a n bs → Calls Tryd.prog 13 #[.agg #[.int .i64 (Wd), .int .i64 (Hh), .slice a n c]] w fun r w' => r = .returned (.tuple #[.bool hg, .int .i64 (0)]) ∧ Below w.heap.size w w'))
  (hhg : (((n6 : Nat) : Int) == 0) = hg) :
  Calls Tryd.prog 3 #[.string s] w fun r w' => r = .returned (.bool true) ∧ Below w.heap.size w w' := by
 have e1 : (hg == hg) = true := by simp
 go_enter Tryd.func3, Tryd.ntmps3
 (go_wp2_with fail; refine (HAL.out _ (HT.out.below blw)).mono ?_; rintro r w1 ⟨rfl, hb⟩; obtain ⟨E, d, rfl⟩ := bExt hb; clear hb)
 go_wp2_with fail
 refine (HRD.out _ (HT.out.below blw)).mono ?_
 rintro r w1 ⟨⟨A, C, rfl, hI⟩, hb⟩
 have HB1 : Hid (Below w.heap.size w w1) := Lib.hid (Below.trans blw (hb.mono bnd))
 have HI1 := Lib.hid hI
 clear hI hb HAL HRD
 go_wp2_with fail
 refine (HMK.out _ (HT.out.below (by have h9 := HB1.out; have z9 := h9.size; exact blw))).mono ?_
 rintro r w2 ⟨A1, c1, A2, c2, A5, c5, A6, c6, rfl, i1, i2, i5, i6, hb⟩
 have cht : w2.rowIs w1.heap.size 25 4 (chM G Wd Hh (.slice A n C)) := rowBelow (rowBelow (chM_alloc w1 G Wd Hh A n C) ((Below.refl _ _).alloc (Nat.le_refl _) _) (by simp)) hb (by simp; omega)
 have flt : w2.rowIs (w1.heap.size + 1) 28 2 fZ := by
  have := fZ_alloc (w1.alloc (.cells #[.int .i64 G, .int .i64 Wd, .int .i64 Hh, .slice A n C] 25))
  rw [World.size_alloc] at this
  exact rowBelow this hb (by simp)
 have HB2 : Hid (Below w1.heap.size w1 w2) := Lib.hid (Below.trans blw (hb.mono bnd))
 have hsz := hb.size
 simp only [World.size_alloc] at hsz
 obtain ⟨cb, hcb⟩ : ∃ cb, cb = w1.heap.size := ⟨_, rfl⟩
 obtain ⟨fb, hfb⟩ : ∃ fb, fb = w1.heap.size + 1 := ⟨_, rfl⟩
 rw [← hcb] at cht flt hfb ⊢
 rw [← hfb] at flt ⊢
 have t0 : w2.cell? ⟨fb, 0, none⟩ = some (.int .i64 (0)) := flt.cell (i := 0) (by omega)
 have t1 : w2.cell? ⟨fb, 1, none⟩ = some (.int .i64 (0)) := flt.cell (i := 1) (by omega)
 have lt : LtW fb w2 := flt.lt
 have CHT := Lib.hid cht; have FLT := Lib.hid flt
 have I1 := Lib.hid i1; have I2 := Lib.hid i2; have I5 := Lib.hid i5
 clear hb cht flt hcb hfb hsz HMK i1 i2 i5 i6
 go_wp2_with fail
 refine (HUN.out _).mono ?_
 rintro r w3 ⟨⟨M, K, rfl, hM⟩, hb⟩
 have hb3 : Below w2.heap.size w2 w3 := Below.trans blw (hb.mono bnd)
 have mad : w3.rowIs w2.heap.size 37 12 (MF kn dl A1 Wd c1 e q A5 (e * q) c5 A2 Hh c2 hg A6 n6 c6 dn al cd) := rowBelow (rowBelow (MF_alloc w2 kn dl A1 Wd c1 e q A5 (e * q) c5 A2 Hh c2 hg A6 n6 c6 dn al cd) ((Below.refl _ _).alloc (Nat.le_refl _) _) (by simp)) hb (by simp; omega)
 have lc := CHT.out.lt
 have cht := rowBelow CHT.out hb3 lc
 have flt := rowBelow FLT.out hb3 lt
 have hne : w3.heap.size ≠ fb := by have := hb3.size; have : fb < w2.heap.size := lt; omega
 obtain ⟨xb, hxb⟩ : ∃ xb, xb = w2.heap.size := ⟨_, rfl⟩
 rw [← hxb] at mad ⊢
 have HB3 := Lib.hid (HB2.out.trans (hb3.mono HB2.out.size))
 have I1' := Lib.hid (I1.out.below hb3); have I2' := Lib.hid (I2.out.below hb3); have I5' := Lib.hid (I5.out.below hb3); have HI3 := Lib.hid ((HI1.out.below HB2.out).below hb3)
 have HM := Lib.hid hM
 have f0 : w3.cell? ⟨fb, 0, none⟩ = some (.int .i64 (0)) := flt.cell (i := 0) (by omega)
 have f1 : w3.cell? ⟨fb, 1, none⟩ = some (.int .i64 (0)) := flt.cell (i := 1) (by omega)
 have g0 := flt.frozen 0; have g1 := flt.frozen 1
 have lf : LtW fb w3 := flt.lt
 have MAD := Lib.hid mad; have CHT3 := Lib.hid cht
 clear I1 I2 I5 HI1 hb hb3 HB2 t0 t1 lt lc CHT FLT hxb mad cht flt hM HUN
 have I1 := I1'; have I2 := I2'; have I5 := I5'
 clear I1' I2' I5'
 go_upto_region 10 with fail
 rw [setCell_noopT f0, setCell_noopT f1]
 have mro := tF_allocT w3 Wd Hh M n K
 have hb4 : Below w3.heap.size w3 (w3.alloc (.cells #[.int .i64 Wd, .int .i64 Hh, .slice M n K] 33)) := (Below.refl _ _).alloc (Nat.le_refl _) _
 obtain ⟨w4, hw4⟩ : ∃ w4, w4 = w3.alloc (.cells #[.int .i64 Wd, .int .i64 Hh, .slice M n K] 33) := ⟨_, rfl⟩
 rw [← hw4] at mro hb4 ⊢
 clear hw4
 have cht := rowBelow CHT3.out hb4 CHT3.out.lt
 have mad := rowBelow MAD.out hb4 MAD.out.lt
 have f0' := bCs hb4 f0
 have lf4 : LtW fb w4 := Nat.lt_of_lt_of_le lf hb4.size
 have hM4 := HM.out.below hb4
 have I1' := Lib.hid (I1.out.below hb4); have I2' := Lib.hid (I2.out.below hb4); have I5' := Lib.hid (I5.out.below hb4); have HI4 := Lib.hid (HI3.out.below hb4)
 have HB4 := Lib.hid (HB1.out.trans ((HB3.out.trans (hb4.mono HB3.out.size)).mono HB1.out.size))
 obtain ⟨mb, hmb⟩ : ∃ mb, mb = w3.heap.size := ⟨_, rfl⟩
 rw [← hmb] at mro ⊢
 clear hmb hb4 f0 f1 g0 g1 lf hne I1 I2 I5 HI3 HM CHT3 MAD HB1 HB3
 have I1 := I1'; have I2 := I2'; have I5 := I5'; have HM := Lib.hid hM4; have f0 := f0'
 clear I1' I2' I5' hM4 f0'
 have q1 : w4.cell? ⟨cb, 1, none⟩ = some (.int .i64 (Wd)) := cht.cell (i := 1) (by omega)
 have q2 : w4.cell? ⟨cb, 2, none⟩ = some (.int .i64 (Hh)) := cht.cell (i := 2) (by omega)
 have q3 : w4.cell? ⟨cb, 3, none⟩ = some (.slice A n C) := cht.cell (i := 3) (by omega)
 have lq : LtW cb w4 := cht.lt
 have x2 : w4.cell? ⟨xb, 2, none⟩ = some (.slice A1 Wd c1) := mad.cell (i := 2) (by omega)
 have x3 : w4.cell? ⟨xb, 3, none⟩ = some (.int .i64 (e)) := mad.cell (i := 3) (by omega)
 have x4 : w4.cell? ⟨xb, 4, none⟩ = some (.int .i64 (q)) := mad.cell (i := 4) (by omega)
 have x5 : w4.cell? ⟨xb, 5, none⟩ = some (.slice A5 (e * q) c5) := mad.cell (i := 5) (by omega)
 have x6 : w4.cell? ⟨xb, 6, none⟩ = some (.slice A2 Hh c2) := mad.cell (i := 6) (by omega)
 have x7 : w4.cell? ⟨xb, 7, none⟩ = some (.bool hg) := mad.cell (i := 7) (by omega)
 have x8 : w4.cell? ⟨xb, 8, none⟩ = some (.slice A6 n6 c6) := mad.cell (i := 8) (by omega)
 have lx : LtW xb w4 := mad.lt
 have m0 : w4.cell? ⟨mb, 0, none⟩ = some (.int .i64 (Wd)) := mro.cell (i := 0) (by omega)
 have m1 : w4.cell? ⟨mb, 1, none⟩ = some (.int .i64 (Hh)) := mro.cell (i := 1) (by omega)
 have m2 : w4.cell? ⟨mb, 2, none⟩ = some (.slice M n K) := mro.cell (i := 2) (by omega)
 have lm : LtW mb w4 := mro.lt
 clear cht mad mro
 have n1 : n ≤ 9223372036854775807 := Nat.le_trans HM.out.cap HM.out.lim
 have HBS : Hid (∀ k, k < n → bs.getD k false = !decide (cs.getD k 0 = 0)) := Lib.hid fun k hk => by
  have hl := HI4.out.1
  rw [hbs.out]
  unfold rsB
  rw [List.getD_eq_getElem?_getD, List.getElem?_map, List.getD_eq_getElem?_getD, List.getElem?_eq_getElem (by omega)]
  rfl
 clear hbs
 go_wp2_with fail
 go_loopw [78] (fun i wr => ∃ k : Nat, k ≤ n ∧ i = .int .i64 k ∧ ∃ E d, wr = extW w4 E d) (fun i _ => n - (intOf i).toNat)
 case atStart => exact ⟨0, Nat.zero_le _, rfl, _, _, extW_zero _⟩
 case round =>
  obtain ⟨k, hk, rfl, E, d, rfl⟩ := hrel
  by_cases hkn : k < n
  ·obtain ⟨p1, o1, rfl, hp1, hc1⟩ := HI4.out.2 (by omega)
   obtain ⟨p2, o2, rfl, hp2, hc2⟩ := HM.out.bits.2 (by omega)
   have k1 := hc1 k hkn
   have k2 := hc2 k hkn
   have l1 : LtW p1 w4 := hp1
   have l2 : LtW p2 w4 := hp2
   rw [HBS.out k hkn] at k2
   obtain ⟨x, hx⟩ : ∃ x, cs.getD k 0 = x := ⟨_, rfl⟩
   rw [hx] at k1 k2
   clear hc1 hc2 hp1 hp2 hx
   by_cases h0 : x = 0
   ·subst h0
    rw [decide_eq_true (p := (0 : Int) = 0) rfl] at k2
    go_wp2
    go_roundw
    case rel => exact ⟨k + 1, by omega, by go_num, _, _, rfl⟩
    case measure => simp [intOf]; omega
   ·have b0 : (x != 0) = true := by simpa using h0
    rw [decide_eq_false h0] at k2
    clear h0
    go_wp2
    go_roundw
    case rel => exact ⟨k + 1, by omega, by go_num, _, _, rfl⟩
    case measure => simp [intOf]; omega
  ·clear HBS q1 q2 q3 lq f0 lf4 HI4
   go_wp2_with fail
   refine (HDD.out _ _ _ _ _ _ _ (I1.out.below blw) (I2.out.below blw) (I5.out.below blw)).mono ?_
   rintro r w1 ⟨A0, c0, rfl, hT0, hb⟩
   obtain ⟨E1, d1, rfl⟩ := bExt hb
   have HT0 := Lib.hid hT0
   clear hb hT0
   go_wp2_with fail
   refine (HSM.out _ _ _ _ _ (HT0.out.below blw) (HM.out.below blw)).mono ?_
   rintro r w1 ⟨rfl, hb⟩
   obtain ⟨E2, d2, rfl⟩ := bExt hb
   clear hb HT0
   go_wp2_with fail
   refine (HCH.out _ _ _ _ _ _ _ (I1.out.below blw) (I2.out.below blw) (I5.out.below blw)).mono ?_
   rintro r w1 ⟨B1, b1, B2, b2, B3, b3, rfl, g1, g2, g3, hb⟩
   obtain ⟨E3, d3, rfl⟩ := bExt hb
   have GT1 := Lib.hid g1; have GT2 := Lib.hid g2; have GT3 := Lib.hid g3
   clear hb g1 g2 g3
   go_wp2_with fail
   refine (HP1.out _ _ _ _ _ (GT1.out.below blw) (GT2.out.below blw)).mono ?_
   rintro r w1 ⟨A0, c0, rfl, hT0, hb⟩
   obtain ⟨E4, d4, rfl⟩ := bExt hb
   have HT4 := Lib.hid hT0
   clear hb hT0 GT1 GT2
   go_wp2_with fail
   refine (HP2.out _ _ _ _ _ (HT4.out.below blw) (GT3.out.below blw)).mono ?_
   rintro r w1 ⟨A7, c7, rfl, hT0, hb⟩
   obtain ⟨E5, d5, rfl⟩ := bExt hb
   have HT5 := Lib.hid hT0
   clear hb hT0 GT3 HT4
   go_wp2_with fail
   refine (HHG.out _ _ _ (HM.out.bits.below blw)).mono ?_
   rintro r w1 ⟨rfl, hb⟩
   obtain ⟨E6, d6, rfl⟩ := bExt hb
   clear hb
   go_wp2_with fail
   refine (HSM.out _ _ _ _ _ (HT5.out.below blw) (HM.out.below blw)).mono ?_
   rintro r w1 ⟨rfl, hb⟩
   obtain ⟨E7, d7, rfl⟩ := bExt hb
   clear hb
   go_wp2
   go_ret
   refine ⟨rfl, ?_⟩
   have hb9 := HB4.out
   have hz := hb9.size
   repeat (first | exact hb9 | with_reducible refine bExtW ?_ (by first | exact hz | (simp only [size_extW, World.size_alloc]; omega)) | with_reducible refine Below.alloc ?_ (by first | exact hz | (simp only [size_extW, World.size_alloc]; omega)) _)
end
namespace Z
def bxN (W : Nat) (back : Bool) (t x : Nat) : Nat := if back then t + W - x else x + t
def byN (H : Nat) (over : Bool) (y : Nat) : Nat := if over then H - 1 - y else y
def bsP (W H : Nat) (cs : List Int) (back over : Bool) (t : Nat) : Prop := ∀ y, y < H → ∀ x, x < W → cs.getD (y * W + x) 0 = cs.getD (byN H over y * W + bxN W back t x % W) 0
instance (W H : Nat) (cs : List Int) (back over : Bool) (t : Nat) : Decidable (bsP W H cs back over t) := by unfold bsP; infer_instance
def keP (W H : Nat) (cs : List Int) (back over : Bool) (p q : Nat) : Prop := ∃ t, t < q ∧ p ≤ t ∧ bsP W H cs back over t
instance (W H : Nat) (cs : List Int) (back over : Bool) (p q : Nat) : Decidable (keP W H cs back over p q) := by unfold keP; infer_instance
end Z
namespace Z
end Z
section
open Go.RowKit
open Z (torN place pnt Mv To lin okT nrm keepB colP idm md redM both inv stK Sid Upw movesL turnsF waysF kindP tnK flK alongB)
end
section
open Go.RowKit
section
variable {P : Program} {ops : Array Oper} {md : Region.Mode} {Q : Exit → Act → World → Prop}
end
end
section
open Go.RowKit
section
variable {P : Program} {ops : Array Oper} {Q : Exit → Act → World → Prop} {K : Act → World → Prop} {a : Act} {w : World}
end
end
section
open Go.RowKit
section
variable {P : Program} {ops : Array Oper} {md : Region.Mode} {Q : Exit → Act → World → Prop} {S : World → Prop}
structure SameOff (ts : List Nat) (a0 a : Act) : Prop where
 size : a.tmps.size = a0.tmps.size
 off : ∀ k, k ∉ ts → a.tmps[k]? = a0.tmps[k]?
 defers : a.defers = a0.defers
end
end
section
open Go.RowKit
section
variable {P : Program} {ops : Array Oper} {md : Region.Mode} {Q : Exit → Act → World → Prop} {S : World → Prop}
theorem SameOff.get {ts : List Nat} {a0 a : Act} (h : SameOff ts a0 a) {k : Nat} (hk : k ∉ ts) : a.tmps.getD k undef = a0.tmps.getD k undef := by
 rw [Array.getD_eq_getD_getElem?, Array.getD_eq_getD_getElem?, h.off k hk]
end
end
section
open Go.RowKit
end
section
open Go.RowKit
open Z (torN place pnt Mv To lin okT nrm keepB colP idm md redM)
def chtF (g w h : Int) (v : Value) : Nat → Value := fun j => if j = 0 then .int .i64 g else if j = 1 then .int .i64 w else if j = 2 then .int .i64 h else v
structure MS (ob gb : Nat) (W0 : World) (g N : Int) (M : Nat) (L : List Int) (w : World) : Prop where
 o : w.rowIs ob 25 4 (chtF g N N (.slice (some ⟨gb, 0, none⟩) M M))
 c : w.rowIs gb 3 M (fun j => .int .i64 (L.getD j 0))
 ll : L.length = M
 lo : W0.heap.size ≤ gb
 bel : Below W0.heap.size W0 w
end
section
open Go.RowKit
open Z (torN place pnt Mv To lin okT nrm keepB colP idm md redM)
end
section
open Go.RowKit
open Z (torN place pnt Mv To lin okT nrm keepB colP idm md redM)
end
section
open Go.RowKit
open Z (torN place pnt Mv To lin okT nrm keepB colP idm md redM both inv)
end
section
open Go.RowKit
open Z (torN place pnt Mv To lin okT nrm keepB colP idm md redM both inv)
end
section
open Go.RowKit
open Z (torN place pnt Mv To lin okT nrm keepB colP idm md redM both inv)
end
section
open Go.RowKit
open Z (torN place pnt Mv To lin okT nrm keepB colP idm md redM both inv stK Sid Upw movesL turnsF waysF kindP alongB SameSig)
def KindIs (G W H : Nat) (cs : List Int) (K : Int) : Prop :=
 ∃ N sa uc ub, torN W H = N ∧ N ≤ 24 ∧ 0 < N ∧ Sid (stK W H cs G N) N sa ∧ Upw (stK W H cs G N) N sa uc ub ∧ kindP (turnsF (movesL W H cs G N)).length (alongB G sa ub uc (waysF G sa ub uc (movesL W H cs G N))) (waysF G sa ub uc (movesL W H cs G N)) = K
theorem Kind_is {G W H n : Nat} {a : Option Addr} {c : Nat} {cs : List Int} {K : Int} {w : World} (hI : IsInts w a n cs) (h : ChOk G W H n cs) (hK : KindIs G W H cs K) :
  Calls Tryd.prog 19 #[.agg #[.int .i64 (G), .int .i64 (W), .int .i64 (H), .slice a n c]] w fun r w' => r = .returned (.tuple #[.int .i64 (K), .int .i64 (0)]) ∧ Below w.heap.size w w' := by
 obtain ⟨N, sa, uc, ub, hN, h24, h0, hS, hU, rfl⟩ := hK
 exact Kind_ok G W H n N sa uc ub a c cs w hI h hN h24 h0 hS hU
theorem KindIs.ex {G W H n : Nat} {cs : List Int} (h : ChOk G W H n cs) (h24 : torN W H ≤ 24) : ∃ K, KindIs G W H cs K := by
 have hd := Z.torN_dvd W H
 obtain ⟨sa, uc, ub, hS, hU⟩ := Z.fine_ex (cs := cs) (g := (G : Int)) h.tpos hd.1 hd.2
 exact ⟨_, _, sa, uc, ub, rfl, h24, h.tpos, hS, hU, rfl⟩
theorem KindIs.bd {G W H n : Nat} {cs : List Int} {K : Int} (hK : KindIs G W H cs K) (h : ChOk G W H n cs) : 1 ≤ K ∧ K ≤ 17 := by
 obtain ⟨N, sa, uc, ub, hN, h24, h0, hS, hU, rfl⟩ := hK
 have hg : Z.G (G : Int) := by have := h.g; show (G : Int) = 4 ∨ (G : Int) = 6; omega
 have hd := Z.torN_dvd W H
 rw [hN] at hd
 have := Z.counts_ok hg h0 hd.1 hd.2 (Z.fine_of h0 hd.1 hd.2 hS hU) (alongB G sa ub uc (waysF G sa ub uc (movesL W H cs G N))) rfl
 exact ⟨this.1, this.2.1⟩
end
section
open Go.RowKit
theorem strOf_size (L : List Nat) : (strOf L).size = L.length := by simp [strOf, ByteArray.size]
theorem deck_lt {W H : Nat} {bs : List Bool} (hW : W ≤ 64) (hH : H ≤ 64) : ∀ x ∈ deckL W H bs, x < 256 := by
 have hc : ∀ (f y : Nat), ∀ x ∈ cardsL (rowL bs W) H f y, x < 256 := by
  intro f
  induction f with
  | zero => intro y x hx; simp [cardsL] at hx
  | succ f ih =>
   intro y x hx
   unfold cardsL at hx
   by_cases hy : y < H
   ·rw [if_pos hy, List.mem_cons, List.mem_append] at hx
    rcases hx with rfl | hx | hx
    ·have := (runLen_spec (R := rowL bs W) hy).2.1; omega
    ·exact punchL_lt _ x hx
    ·exact ih _ x hx
   ·rw [if_neg hy] at hx; simp at hx
 intro x hx
 unfold deckL deckB hdrL at hx
 simp only [List.mem_append, List.mem_cons, List.not_mem_nil, or_false] at hx
 rcases hx with ((rfl | rfl | rfl | rfl | rfl) | hx) | rfl
 ·omega
 ·omega
 ·omega
 ·omega
 ·omega
 ·exact hc _ _ x hx
 ·exact chk_lt _
theorem deck_len {W H : Nat} {bs : List Bool} (hW : W ≤ 64) (hH : H ≤ 64) : (deckL W H bs).length ≤ 9223372036854775807 := by
 have hc : ∀ (f y : Nat), (cardsL (rowL bs W) H f y).length ≤ f * 9 := by
  intro f
  induction f with
  | zero => intro y; simp [cardsL]
  | succ f ih =>
   intro y
   unfold cardsL
   by_cases hy : y < H
   ·rw [if_pos hy, List.length_cons, List.length_append, punchL_len, rowL_len']
    have := ih (y + runLen (rowL bs W) H y)
    omega
   ·rw [if_neg hy]; simp
 have := hc (H + 1) 0
 unfold deckL deckB hdrL
 simp only [List.length_append, List.length_cons, List.length_nil]
 omega
end
section
open Go.RowKit
open Cl Lo
open By (readS)
open Z (torN place pnt Mv To lin okT nrm keepB colP idm md redM both inv stK Sid Upw movesL turnsF waysF kindP alongB)
def TorBadT (e : Int) (V : Value) (a : Option Addr) (n : Nat) (cs : List Int) : Prop :=
 e ≠ 0 ∧ (∀ w, IsInts w a n cs → Calls Tryd.prog 60 #[V] w fun r w' => r = .returned (.tuple #[.int .i64 (0), .int .i64 (e)]) ∧ Below w.heap.size w w')
theorem torBad_muchT {G W H n : Nat} {cs : List Int} {a : Option Addr} {c : Nat} (h : ChOk G W H n cs) (hm : 24 < Z.torN W H) : TorBadT 4 (.agg #[.int .i64 (G), .int .i64 (W), .int .i64 (H), .slice a n c]) a n cs := by
 have hv : torV (Z.torN W H) = .tuple #[.int .i64 (0), .int .i64 (4)] := by unfold torV; rw [if_pos hm]
 exact ⟨by omega, fun w hI => by rw [← hv]; exact Torus_ok G W H n a c cs w hI h⟩
set_option maxRecDepth 100000 in
set_option maxHeartbeats 8000000 in
theorem Moves_badT (G W H : Int) (a : Option Addr) (n c : Nat) (cs : List Int) (w : World) (hI : IsInts w a n cs) (e : Int) (hT : TorBadT e (.agg #[.int .i64 (G), .int .i64 (W), .int .i64 (H), .slice a n c]) a n cs) :
  Calls Tryd.prog 67 #[.agg #[.int .i64 (G), .int .i64 (W), .int .i64 (H), .slice a n c]] w (MvPost [] e w) := by
 have hb : (e != 0) = true := by simpa using hT.1
 have HL := Lib.hid (fun w hI => laid_bad G W H a n c cs w hI e hT.1 hT.2)
 have HI := Lib.hid hI
 clear hI hT
 go_enter Tryd.func67, Tryd.ntmps67
 (go_wp2_with fail; refine (HL.out _ (HI.out.below blw)).mono ?_; rintro r w1 ⟨rfl, hb⟩; obtain ⟨E, d, rfl⟩ := bExt hb; clear hb)
 go_wp2
 go_ret2
 exact ⟨⟨none, 0, rfl, OwnM.none _ _⟩, blw⟩
set_option maxRecDepth 100000 in
set_option maxHeartbeats 8000000 in
theorem look_badT (G W H : Int) (a : Option Addr) (n c : Nat) (cs : List Int) (w : World) (hI : IsInts w a n cs) (e : Int) (hT : TorBadT e (.agg #[.int .i64 (G), .int .i64 (W), .int .i64 (H), .slice a n c]) a n cs) :
  Calls Tryd.prog 48 #[.agg #[.int .i64 (G), .int .i64 (W), .int .i64 (H), .slice a n c]] w fun r w' => r = .returned (.tuple #[.agg #[.int .i64 0, .map none, .int .i64 0, .int .i64 0, .int .i64 0, .int .i64 0], .int .i64 (e)]) ∧ Below w.heap.size w w' := by
 have hb : (e != 0) = true := by simpa using hT.1
 have HM := Lib.hid (fun w hI => Moves_badT G W H a n c cs w hI e hT)
 have HI := Lib.hid hI
 clear hI hT
 go_enter Tryd.func48, Tryd.ntmps48
 go_wp2_with fail
 refine (HM.out _ (HI.out.below blw)).mono ?_
 rintro r w2 ⟨⟨A, C, rfl, _⟩, hb2⟩
 have hr0 := row6 (w.alloc (.cells #[.int .i64 G, .int .i64 W, .int .i64 H, .slice a n c] 25)) (.int .i64 0) (.map none) (.int .i64 0) (.int .i64 0) (.int .i64 0) (.int .i64 0) 119
 have hr := rowBelow hr0 hb2 hr0.lt
 rw [World.size_alloc] at hr
 have HB := Lib.hid (show Below w.heap.size w w2 from Below.trans blw (hb2.mono (by simp; omega)))
 have r0 : w2.cell? ⟨w.heap.size + 1, 0, none⟩ = some (.int .i64 0) := hr.cell (i := 0) (by omega)
 have r1 : w2.cell? ⟨w.heap.size + 1, 1, none⟩ = some (.map none) := hr.cell (i := 1) (by omega)
 have r2 : w2.cell? ⟨w.heap.size + 1, 2, none⟩ = some (.int .i64 0) := hr.cell (i := 2) (by omega)
 have r3 : w2.cell? ⟨w.heap.size + 1, 3, none⟩ = some (.int .i64 0) := hr.cell (i := 3) (by omega)
 have r4 : w2.cell? ⟨w.heap.size + 1, 4, none⟩ = some (.int .i64 0) := hr.cell (i := 4) (by omega)
 have r5 : w2.cell? ⟨w.heap.size + 1, 5, none⟩ = some (.int .i64 0) := hr.cell (i := 5) (by omega)
 have f0 := hr.frozen 0
 have f1 := hr.frozen 1
 have f2 := hr.frozen 2
 have f3 := hr.frozen 3
 have f4 := hr.frozen 4
 have f5 := hr.frozen 5
 have lr : LtW (w.heap.size + 1) w2 := hr.lt
 clear hr0 hb2
 go_wp2
 have hrs := set6 hr (.int .i64 0) (.map none) (.int .i64 0) (.int .i64 0) (.int .i64 0) (.int .i64 0)
 have hbs := set6_bel HB.out (show w.heap.size ≤ w.heap.size + 1 by omega) (.int .i64 0) (.map none) (.int .i64 0) (.int .i64 0) (.int .i64 0) (.int .i64 0)
 generalize (((((((w2).setCell ⟨w.heap.size + 1, 0, none⟩ (.int .i64 0)).setCell ⟨w.heap.size + 1, 1, none⟩ (.map none)).setCell ⟨w.heap.size + 1, 2, none⟩ (.int .i64 0)).setCell ⟨w.heap.size + 1, 3, none⟩ (.int .i64 0)).setCell ⟨w.heap.size + 1, 4, none⟩ (.int .i64 0)).setCell ⟨w.heap.size + 1, 5, none⟩ (.int .i64 0)) = w3 at *
 have q0 : w3.cell? ⟨w.heap.size + 1, 0, none⟩ = some (.int .i64 0) := hrs.cell (i := 0) (by omega)
 have q1 : w3.cell? ⟨w.heap.size + 1, 1, none⟩ = some (.map none) := hrs.cell (i := 1) (by omega)
 have q2 : w3.cell? ⟨w.heap.size + 1, 2, none⟩ = some (.int .i64 0) := hrs.cell (i := 2) (by omega)
 have q3 : w3.cell? ⟨w.heap.size + 1, 3, none⟩ = some (.int .i64 0) := hrs.cell (i := 3) (by omega)
 have q4 : w3.cell? ⟨w.heap.size + 1, 4, none⟩ = some (.int .i64 0) := hrs.cell (i := 4) (by omega)
 have q5 : w3.cell? ⟨w.heap.size + 1, 5, none⟩ = some (.int .i64 0) := hrs.cell (i := 5) (by omega)
 have lq : LtW (w.heap.size + 1) w3 := hrs.lt
 refine bodyPost_ret (v := .tuple #[.agg #[.int .i64 0, .map none, .int .i64 0, .int .i64 0, .int .i64 0, .int .i64 0], .int .i64 (e)]) (by simp [results, Tryd.results48, go_sem, q0, q1, q2, q3, q4, q5]) rfl ⟨rfl, hbs⟩
set_option maxRecDepth 100000 in
set_option maxHeartbeats 8000000 in
theorem Kind_badT (G W H : Int) (a : Option Addr) (n c : Nat) (cs : List Int) (w : World) (hI : IsInts w a n cs) (e : Int) (hT : TorBadT e (.agg #[.int .i64 (G), .int .i64 (W), .int .i64 (H), .slice a n c]) a n cs) :
  Calls Tryd.prog 19 #[.agg #[.int .i64 (G), .int .i64 (W), .int .i64 (H), .slice a n c]] w fun r w' => r = .returned (.tuple #[.int .i64 (0), .int .i64 (e)]) ∧ Below w.heap.size w w' := by
 have hb : (e != 0) = true := by simpa using hT.1
 have HL := Lib.hid (fun w hI => look_badT G W H a n c cs w hI e hT)
 have HI := Lib.hid hI
 clear hI hT
 go_enter Tryd.func19, Tryd.ntmps19
 go_wp2_with fail
 refine (HL.out _ (HI.out.below blw)).mono ?_
 rintro r w2 ⟨rfl, hb2⟩
 have HB : Hid (Below w.heap.size w w2) := Lib.hid (Below.trans blw (hb2.mono (by simp)))
 clear hb2
 go_wp2
 refine bodyPost_ret (v := .tuple #[.int .i64 (0), .int .i64 (e)]) (by simp [results, Tryd.results19, go_sem]) rfl ⟨rfl, HB.out.alloc HB.out.size _⟩
set_option maxRecDepth 100000 in
set_option maxHeartbeats 8000000 in
theorem hMake_muchT (s : ByteArray) (G : Nat) (rows : List (List Nat)) (w : World) (hT : Tabs w) (hs : s.size ≤ 9223372036854775807) (hr : readS (By.bytesOf s) = (G, .ok rows)) (hm : 24 < Z.torN (rows.headD []).length rows.length) :
  Calls Tryd.prog 7 #[.string s] w (MkU ⟨#[]⟩ 0 0 0 0 0 0 0 [] [] [] [] false 0 0 ⟨#[]⟩ 4 0 w) := by
 have hC := read_okH (By.bytesOf_lt s) hr
 have HR := Lib.hid (fun w h => chRead_any s w hs h)
 rw [hr] at HR
 have HT := Lib.hid hT
 unfold RdPost at HR
 simp only at HR
 generalize (rows.headD []).length = Wd at *
 generalize rows.length = Hh at *
 generalize rows.reverse.flatten.length = n at *
 generalize natI rows.reverse.flatten = cs at *
 have HK := Lib.hid (fun a c w hI => Kind_badT G Wd Hh a n c cs w hI 4 (torBad_muchT (a := a) (c := c) hC hm))
 clear hT hs hr hC hm
 go_enter Tryd.func7, Tryd.ntmps7
 go_wp2_with fail
 refine (HR.out _ (HT.out.below blw)).mono ?_
 rintro r w1 ⟨⟨A, C, rfl, hI⟩, hb⟩
 have HB1 : Hid (Below w.heap.size w w1) := Lib.hid (Below.trans blw (hb.mono bnd))
 have HI := Lib.hid hI
 have res : w1.rowIs w.heap.size 37 12 mZ := rowBelow (rowBelow (mZ_alloc w) ((Below.refl _ _).alloc (Nat.le_refl _) _) (by simp)) hb (by simp; omega)
 have flt : w1.rowIs (w.heap.size + 1) 28 2 fZ := by
  have := fZ_alloc (w.alloc (.cells #[.string ⟨#[]⟩, .int .i64 0, .slice none 0 0, .int .i64 0, .int .i64 0, .slice none 0 0, .slice none 0 0, .bool false, .slice none 0 0, .int .i64 0, .int .i64 0, .string ⟨#[]⟩] 37))
  rw [World.size_alloc] at this
  exact rowBelow this hb (by simp)
 have q0 : w1.cell? ⟨w.heap.size, 0, none⟩ = some (.string ⟨#[]⟩) := res.cell (i := 0) (by omega)
 have q1 : w1.cell? ⟨w.heap.size, 1, none⟩ = some (.int .i64 (0)) := res.cell (i := 1) (by omega)
 have q2 : w1.cell? ⟨w.heap.size, 2, none⟩ = some (.slice none 0 0) := res.cell (i := 2) (by omega)
 have q3 : w1.cell? ⟨w.heap.size, 3, none⟩ = some (.int .i64 (0)) := res.cell (i := 3) (by omega)
 have q4 : w1.cell? ⟨w.heap.size, 4, none⟩ = some (.int .i64 (0)) := res.cell (i := 4) (by omega)
 have q5 : w1.cell? ⟨w.heap.size, 5, none⟩ = some (.slice none 0 0) := res.cell (i := 5) (by omega)
 have q6 : w1.cell? ⟨w.heap.size, 6, none⟩ = some (.slice none 0 0) := res.cell (i := 6) (by omega)
 have q7 : w1.cell? ⟨w.heap.size, 7, none⟩ = some (.bool false) := res.cell (i := 7) (by omega)
 have q8 : w1.cell? ⟨w.heap.size, 8, none⟩ = some (.slice none 0 0) := res.cell (i := 8) (by omega)
 have q9 : w1.cell? ⟨w.heap.size, 9, none⟩ = some (.int .i64 (0)) := res.cell (i := 9) (by omega)
 have q10 : w1.cell? ⟨w.heap.size, 10, none⟩ = some (.int .i64 (0)) := res.cell (i := 10) (by omega)
 have q11 : w1.cell? ⟨w.heap.size, 11, none⟩ = some (.string ⟨#[]⟩) := res.cell (i := 11) (by omega)
 have u0 : w1.cell? ⟨w.heap.size + 1, 0, none⟩ = some (.int .i64 (0)) := flt.cell (i := 0) (by omega)
 have u1 : w1.cell? ⟨w.heap.size + 1, 1, none⟩ = some (.int .i64 (0)) := flt.cell (i := 1) (by omega)
 have v0 := res.frozen 0; have v1 := res.frozen 1; have v2 := res.frozen 2; have v3 := res.frozen 3; have v4 := res.frozen 4; have v5 := res.frozen 5; have v6 := res.frozen 6; have v7 := res.frozen 7; have v8 := res.frozen 8; have v9 := res.frozen 9; have v10 := res.frozen 10; have v11 := res.frozen 11
 have x0 := flt.frozen 0; have x1 := flt.frozen 1
 have lr : LtW w.heap.size w1 := res.lt
 have lf : LtW (w.heap.size + 1) w1 := flt.lt
 have hsz := hb.size
 simp at hsz
 clear hI hb res flt
 go_wp2_with fail
 refine (HK.out _ _ _ (HI.out.below blw)).mono ?_
 rintro r w2 ⟨rfl, hb⟩
 obtain ⟨E, d, rfl⟩ := bExt hb
 clear hb
 go_wp2
 refine bodyPost_ret (v := .tuple #[.agg #[.string ⟨#[]⟩, .int .i64 0, .slice none 0 0, .int .i64 0, .int .i64 0, .slice none 0 0, .slice none 0 0, .bool false, .slice none 0 0, .int .i64 0, .int .i64 0, .string ⟨#[]⟩], .agg #[.int .i64 4, .int .i64 0]]) (by simp [results, Tryd.results7, go_sem, lr, lf, q0, q1, q2, q3, q4, q5, q6, q7, q8, q9, q10, q11, u0, u1]) rfl (MkU.bad rfl ?_)
 refine bExtW (Below.alloc (Below.alloc ?_ (by simp; omega) _) (by simp; omega) _) (by simp; omega)
 repeat (with_reducible refine Below.setCell ?_ (by simp only [Nat.le_refl, Nat.le_add_right]) _)
 exact HB1.out
end
section
open Go.RowKit
open Cl Lo
open By (readS)
theorem lfTw30 {P : Prop} (h : P := by
 have lt : LtW (w1.heap.size + 1) w2 := flt.lt
 clear hb HMK i1 i2 i5 i6 flt
 go_wp2
 go_ret
 have hb9 := HB2.out
 have hz := hb9.size
 refine ⟨rfl, ?_⟩
 repeat (first | exact hb9 | with_reducible refine bExtW ?_ (by first | exact hz | (simp only [size_extW, World.size_alloc]; omega)) | with_reducible refine Below.alloc ?_ (by first | exact hz | (simp only [size_extW, World.size_alloc]; omega)) _)) : P := h
set_option maxRecDepth 100000 in
set_option maxHeartbeats 8000000 in
theorem woven_bad (s : ByteArray) (e p : Nat) (w : World) (he : e ≠ 0)
  (HAL : Hid (∀ w, Tabs w → Calls Tryd.prog 5 #[] w fun e w' => e = .returned (.bool true) ∧ Below w.heap.size w w'))
  (HT : Hid (Tabs w))
  (HRD : Hid (∀ w, Tabs w → Calls Tryd.prog 6 #[.string s] w fun r w' => r = .returned (.tuple #[.agg #[.int .i64 (0), .int .i64 (0), .int .i64 (0), .slice none 0 0], .agg #[.int .i64 ((e : Int)), .int .i64 ((p : Int))]]) ∧ Below w.heap.size w w'))
  (HMK : Hid (∀ w, Tabs w → Calls Tryd.prog 7 #[.string s] w (MkU ⟨#[]⟩ 0 0 0 0 0 0 0 [] [] [] [] false 0 0 ⟨#[]⟩ e p w))) :
  Calls Tryd.prog 3 #[.string s] w fun r w' => r = .returned (.bool true) ∧ Below w.heap.size w w' := by
 have e1 : ((e : Int) != 0) = true := by simp; omega
 have e2 : ((e : Int) == (e : Int)) = true := by simp
 have e3 : ((p : Int) == (p : Int)) = true := by simp
 clear he
 go_enter Tryd.func3, Tryd.ntmps3
 (go_wp2_with fail; refine (HAL.out _ (HT.out.below blw)).mono ?_; rintro r w1 ⟨rfl, hb⟩; obtain ⟨E, d, rfl⟩ := bExt hb; clear hb)
 go_wp2_with fail
 refine (HRD.out _ (HT.out.below blw)).mono ?_
 rintro r w1 ⟨rfl, hb⟩
 have HB1 : Hid (Below w.heap.size w w1) := Lib.hid (Below.trans blw (hb.mono bnd))
 clear hb HAL HRD
 go_wp2_with fail
 refine (HMK.out _ (HT.out.below (by have h9 := HB1.out; have z9 := h9.size; exact blw))).mono ?_
 rintro r w2 ⟨A1, c1, A2, c2, A5, c5, A6, c6, rfl, i1, i2, i5, i6, hb⟩
 have HB2 : Hid (Below w.heap.size w w2) := Lib.hid (by
  have h9 := HB1.out
  have z9 := h9.size
  exact Below.trans (show Below w.heap.size w _ from blw) (hb.mono (by simp; omega)))
 have hsz := hb.size
 simp only [World.size_alloc] at hsz
 have flt : w2.rowIs (w1.heap.size + 1) 28 2 (fF e p) := by
  have := fF_alloc (w1.alloc (.cells #[.int .i64 0, .int .i64 0, .int .i64 0, .slice none 0 0] 25)) e p
  rw [World.size_alloc] at this
  exact rowBelow this hb (by simp)
 have t0 : w2.cell? ⟨w1.heap.size + 1, 0, none⟩ = some (.int .i64 (e)) := flt.cell (i := 0) (by omega)
 have t1 : w2.cell? ⟨w1.heap.size + 1, 1, none⟩ = some (.int .i64 (p)) := flt.cell (i := 1) (by omega)
 exact lfTw30
set_option maxRecDepth 100000 in
set_option maxHeartbeats 8000000 in
theorem woven_much (s : ByteArray) (G Wd Hh n : Nat) (cs : List Int) (w : World)
  (HAL : Hid (∀ w, Tabs w → Calls Tryd.prog 5 #[] w fun e w' => e = .returned (.bool true) ∧ Below w.heap.size w w'))
  (HT : Hid (Tabs w))
  (HRD : Hid (∀ w, Tabs w → Calls Tryd.prog 6 #[.string s] w fun r w' => (∃ A C, r = .returned (.tuple #[.agg #[.int .i64 (G), .int .i64 (Wd), .int .i64 (Hh), .slice A n C], .agg #[.int .i64 (0), .int .i64 (0)]]) ∧ IsInts w' A n cs) ∧ Below w.heap.size w w'))
  (HMK : Hid (∀ w, Tabs w → Calls Tryd.prog 7 #[.string s] w (MkU ⟨#[]⟩ 0 0 0 0 0 0 0 [] [] [] [] false 0 0 ⟨#[]⟩ 4 0 w))) :
  Calls Tryd.prog 3 #[.string s] w fun r w' => r = .returned (.bool true) ∧ Below w.heap.size w w' := by
 go_enter Tryd.func3, Tryd.ntmps3
 (go_wp2_with fail; refine (HAL.out _ (HT.out.below blw)).mono ?_; rintro r w1 ⟨rfl, hb⟩; obtain ⟨E, d, rfl⟩ := bExt hb; clear hb)
 go_wp2_with fail
 refine (HRD.out _ (HT.out.below blw)).mono ?_
 rintro r w1 ⟨⟨A, C, rfl, _⟩, hb⟩
 have HB1 : Hid (Below w.heap.size w w1) := Lib.hid (Below.trans blw (hb.mono bnd))
 clear hb HAL HRD
 go_wp2_with fail
 refine (HMK.out _ (HT.out.below (by have h9 := HB1.out; have z9 := h9.size; exact blw))).mono ?_
 rintro r w2 ⟨A1, c1, A2, c2, A5, c5, A6, c6, rfl, i1, i2, i5, i6, hb⟩
 have HB2 : Hid (Below w.heap.size w w2) := Lib.hid (by
  have h9 := HB1.out
  have z9 := h9.size
  exact Below.trans (show Below w.heap.size w _ from blw) (hb.mono (by simp; omega)))
 have hsz := hb.size
 simp only [World.size_alloc] at hsz
 have flt : w2.rowIs (w1.heap.size + 1) 28 2 fZ := by
  have := fZ_alloc (w1.alloc (.cells #[.int .i64 G, .int .i64 Wd, .int .i64 Hh, .slice A n C] 25))
  rw [World.size_alloc] at this
  exact rowBelow this hb (by simp)
 have t0 : w2.cell? ⟨w1.heap.size + 1, 0, none⟩ = some (.int .i64 (0)) := flt.cell (i := 0) (by omega)
 have t1 : w2.cell? ⟨w1.heap.size + 1, 1, none⟩ = some (.int .i64 (0)) := flt.cell (i := 1) (by omega)
 exact lfTw30
theorem name_okT (k : Int) (h1 : 1 ≤ k) (h2 : k ≤ 17) (w : World) : Calls Tryd.prog 20 #[.int .i64 (k)] w fun r w' => r = .returned (.tuple #[.string (nmB k), .int .i64 (0)]) ∧ Below w.heap.size w w' := by
 have h : nmV k = .tuple #[.string (nmB k), .int .i64 (0)] := by
  unfold nmV
  rw [if_neg (by omega)]
 have := Name_any k w
 rwa [h] at this
theorem woven_walk (s : ByteArray) (w : World) (hs : s.size ≤ 9223372036854775807) (hT : Tabs w) :
  Calls Tryd.prog 3 #[.string s] w fun r w' => r = .returned (.bool true) ∧ Below w.heap.size w w' := by
 have HR := fun w h => chRead_any s w hs h
 unfold RdPost at HR
 obtain ⟨res, hres⟩ : ∃ res, readS (By.bytesOf s) = res := ⟨_, rfl⟩
 obtain ⟨G, R⟩ := res
 rw [hres] at HR
 cases R with
 | bad e p =>
  exact woven_bad s e p w (readS_bad (By.bytesOf_lt s) hres) (Lib.hid fun w h => alive_top w h) (Lib.hid hT) (Lib.hid HR) (Lib.hid fun w h => hMake_rbad s G e p w h hs hres)
 | ok rows =>
  simp only at HR
  by_cases hm : 24 < Z.torN (rows.headD []).length rows.length
  ·exact woven_much s G _ _ _ _ w (Lib.hid fun w h => alive_top w h) (Lib.hid hT) (Lib.hid HR) (Lib.hid fun w h => hMake_muchT s G rows w h hs hres hm)
  ·have hC := read_okH (By.bytesOf_lt s) hres
   obtain ⟨k, hK⟩ := KindIs.ex hC (by omega)
   obtain ⟨k1, k17⟩ := hK.bd hC
   have HK1 := fun (a : Option Addr) (c : Nat) (w : World) h => Kind_is (a := a) (c := c) (w := w) h hC hK
   generalize hWd : (rows.headD []).length = Wd at *
   generalize hHh : rows.length = Hh at *
   generalize hcs : natI rows.reverse.flatten = cs at *
   generalize hnn : rows.reverse.flatten.length = n at *
   have hn := hC.hn
   have hW := hC.w2; have hH := hC.h2
   have hp : 0 < Wd * Hh := Nat.mul_pos hC.w1 hC.h1
   have hlb : (rsB cs).length = Wd * Hh := by unfold rsB; rw [List.length_map, ← hcs, ← hn, ← hnn]; unfold natI; rw [List.length_map]
   subst hn
   have he64 : (ends Wd Hh (rsB cs)).length ≤ 64 := by
    have := frs_len_le (thL Wd Hh (rsB cs)) Wd
    unfold ends; omega
   have hq64 : (picks Wd Hh (rsB cs)).length ≤ 64 := by
    have := frs_len_le (trL Wd Hh (rsB cs)) Hh
    unfold picks; omega
   have hDF := dd_fewest hlb
   have hcd := bytesOf_str (L := deckL Wd Hh (rsB cs)) (deck_lt hW hH)
   have hsz : (strOf (deckL Wd Hh (rsB cs))).size ≤ 9223372036854775807 := by rw [strOf_size]; exact deck_len hW hH
   have hup := fun w => Unpack_any (strOf (deckL Wd Hh (rsB cs))) w hsz
   rw [hcd, unp_deck hW hH hlb] at hup
   unfold UnpPost at hup
   simp only [hlb] at hup
   have hth := thL_len Wd Hh (rsB cs)
   have htr := trL_len Wd Hh (rsB cs)
   have hwr : wrC Wd Hh (Wd * Hh) = 0 := by unfold wrC; rw [wrT_ok hW hH]; simp; omega
   refine woven_ok s G Wd Hh (Wd * Hh) (ends Wd Hh (rsB cs)).length (picks Wd Hh (rsB cs)).length _ cs (rsB cs) (nmB k) _ (natI (thL Wd Hh (rsB cs))) (natI (trL Wd Hh (rsB cs))) _ (tieL Wd Hh (rsB cs)) _ _ _ (strOf (deckL Wd Hh (rsB cs))) w
    (picks Wd Hh (rsB cs)).length Hh (ends Wd Hh (rsB cs)).length (picks Wd Hh (rsB cs)).length Wd (ends Wd Hh (rsB cs)).length ((picks Wd Hh (rsB cs)).length * Hh) ((ends Wd Hh (rsB cs)).length * (picks Wd Hh (rsB cs)).length) ((ends Wd Hh (rsB cs)).length * Wd) (markL (picks Wd Hh (rsB cs)).length (trL Wd Hh (rsB cs))) (tieL Wd Hh (rsB cs)) (turnL (ends Wd Hh (rsB cs)).length Wd (markL (ends Wd Hh (rsB cs)).length (thL Wd Hh (rsB cs)))) (prodL Hh (picks Wd Hh (rsB cs)).length (ends Wd Hh (rsB cs)).length (markL (picks Wd Hh (rsB cs)).length (trL Wd Hh (rsB cs))) (tieL Wd Hh (rsB cs)))
    hW hH (Lib.hid rfl) (Lib.hid fun w h => alive_top w h) (Lib.hid hT) (Lib.hid HR) (Lib.hid fun w h => hMake_ok s G rows w h hs hres Wd Hh (Wd * Hh) _ cs hWd hHh hnn hcs rfl (by omega) k (nmB k) _ _ _ _ _ _ _ _ _ _ _ (Lib.hid HK1) (Lib.hid fun w => name_okT k k1 k17 w) rfl rfl rfl rfl rfl rfl rfl rfl rfl rfl rfl) (Lib.hid hup)
    (Lib.hid fun A1 c1 A2 c2 A5 c5 w h1 h2 h5 => ?_) (Lib.hid fun A1 c1 A2 c2 A5 c5 w h1 h2 h5 => ?_) (Lib.hid fun A1 c1 A2 c2 w h1 h2 => ?_) (Lib.hid fun A1 c1 A2 c2 w h1 h2 => ?_) (Lib.hid fun a1 c1 a2 c2 w h1 h2 => same_selfI Wd Hh _ _ a1 a2 c1 c2 w h1 h2) (Lib.hid fun a c w h => Hangs_ok Wd Hh a _ c _ w h hW hH rfl hwr) rfl
   ·exact (dDraw_ok A1 Wd c1 (thL Wd Hh (rsB cs)) _ _ A5 _ c5 _ A2 Hh c2 (trL Wd Hh (rsB cs)) w h1 h2 h5 he64 hq64 rfl hth htr hC.w1 hW hC.h1 hH th_lt tr_lt).mono (by
     rintro r w' ⟨A, C, rfl, g, hb, _⟩
     rw [hDF] at g
     exact ⟨A, C, rfl, g, hb⟩)
   ·exact (dChain_ok A1 Wd c1 (thL Wd Hh (rsB cs)) _ _ A5 _ c5 _ A2 Hh c2 (trL Wd Hh (rsB cs)) w h1 h2 h5 he64 hq64 rfl hth htr hC.w1 hW hC.h1 hH th_lt tr_lt).mono (by
     rintro r w' ⟨A1, c1, A2, c2, A3, c3, rfl, g1, g2, g3, hb⟩
     exact ⟨A1, c1, A2, c2, A3, c3, rfl, g1, g2, g3, hb⟩)
   ·exact (Product_any Hh (picks Wd Hh (rsB cs)).length (ends Wd Hh (rsB cs)).length _ _ _ rfl rfl rfl A1 c1 _ A2 c2 _ w h1 h2 hq64 hH he64).mono (by
     rintro r w' ⟨g, rfl, h3, hb⟩
     exact ⟨_, _, rfl, h3, hb⟩)
   ·have hdp := dd_prod (tie := tieL Wd Hh (rsB cs)) (th_lt (W := Wd) (H := Hh) (bs := rsB cs)) (tr_lt (W := Wd) (H := Hh) (bs := rsB cs))
    rw [hth, htr, hDF] at hdp
    exact (Product_any Hh (ends Wd Hh (rsB cs)).length Wd _ _ _ rfl (Nat.mul_comm _ _) rfl A1 c1 _ A2 c2 _ w h1 h2 he64 hH hW).mono (by
     rintro r w' ⟨g, rfl, h3, hb⟩
     rw [hdp] at h3
     exact ⟨_, _, rfl, h3, hb⟩)
end
section
open Go.ChangeShapes Go.WideShapes Go.ChangeAt Go.RowKit Go.Joins
open Go.ChangeMaps (open_string shut_string)
set_option maxRecDepth 100000
section
variable {H : Type} {enc : TypeId × Value → H} {W : World} {base b0 : Nat} {spare : Addr → Bool} {held : Bool} {v : Value} {d : DataW H} {p : List MemPlace}
end
end
end Go.Proofs.YtajdoobkfbdgoaaDoor
