/- Lemmas and contracts of functions (what each call returns, and that it changes nothing that was there) that the proof of a law of this seat uses; each lemma states its own conditions. -/
import Derived.Test.YtkffljkgblcgdaaDr10
import Derived.Test.YtkffljkgblcgdaaQ5
import Derived.Test.YtkffljkgblcgdaaTpM
import Derived.Test.YtkffljkgblcgdaaRegT
import Derived.Deep.RegionWith
import Derived.Deep.DeepCutAuto
namespace Go.Proofs.Ytkffljkgblcgdaa
open Go.RowKit
set_option linter.unusedVariables false
set_option linter.unusedSimpArgs false
open Lo
def RPost (W H n : Nat) (L : List Bool) (w : World) (r : Ending) (w' : World) : Prop := ∃ A C, r = .returned (.tuple #[.agg #[.int .i64 (W), .int .i64 (H), .slice A n C], .int .i64 (0)]) ∧ OkT w' A n C L ∧ Below w.heap.size w w'
set_option maxRecDepth 100000 in
set_option maxHeartbeats 8000000 in
theorem rDraw_bad (tha : Option Addr) (nt ct : Nat) (th : List Int) (W H : Int) (a : Option Addr) (n c : Nat) (tra : Option Addr) (nr cr : Nat) (tr : List Int) (w : World) (hth : IsInts w tha nt th) (htr : IsInts w tra nr tr) (h1 : (-9223372036854775808 ≤ W ∧ W ≤ 9223372036854775807)) (h2 : (-9223372036854775808 ≤ H ∧ H ≤ 9223372036854775807)) (h3 : n ≤ 9223372036854775807) (h4 : nt ≤ 9223372036854775807) (h5 : nr ≤ 9223372036854775807) (he : drE th tr W H n ≠ 0) :
    Calls Try.prog 22 #[.agg #[.slice tha nt ct, .int .i64 (W), .int .i64 (H), .slice a n c, .slice tra nr cr]] w fun e w' => e = .returned (.tuple #[.agg #[.int .i64 0, .int .i64 0, .slice none 0 0], .int .i64 (drE th tr W H n)]) ∧ Below w.heap.size w w' := by
  have hne : (drE th tr W H n != 0) = true := by simpa using he
  have HD := Lib.hid (fun w x y => rChain_bad tha nt ct th W H a n c tra nr cr tr w x y h1 h2 h3 h4 h5 he)
  have HT := Lib.hid hth; have HR := Lib.hid htr
  clear hth htr he
  generalize drE th tr W H n = q at *
  go_enter Try.func22, Try.ntmps22
  (go_wp2_with fail; refine (HD.out _ (HT.out.below (by repeat (first | exact Below.refl _ _ | refine Below.drew ?_ | refine below_drewN ?_ _ | refine Below.alloc ?_ (by first | exact Nat.le_refl _ | (simp; done) | (simp; omega) | omega) _ | refine Below.setCell ?_ (by first | exact Nat.le_refl _ | (simp; done) | (simp; omega) | omega) _ | refine bExtW ?_ (by first | exact Nat.le_refl _ | (simp; done) | (simp; omega) | omega) | refine Below.trans ?_ (Below.mono (by assumption) (by first | exact Nat.le_refl _ | (simp; done) | (simp; omega) | omega))))) (HR.out.below (by repeat (first | exact Below.refl _ _ | refine Below.drew ?_ | refine below_drewN ?_ _ | refine Below.alloc ?_ (by first | exact Nat.le_refl _ | (simp; done) | (simp; omega) | omega) _ | refine Below.setCell ?_ (by first | exact Nat.le_refl _ | (simp; done) | (simp; omega) | omega) _ | refine bExtW ?_ (by first | exact Nat.le_refl _ | (simp; done) | (simp; omega) | omega) | refine Below.trans ?_ (Below.mono (by assumption) (by first | exact Nat.le_refl _ | (simp; done) | (simp; omega) | omega)))))).mono ?_; rintro r w1 ⟨rfl, hb⟩; obtain ⟨E, d, rfl⟩ := bExt hb; clear hb)
  go_wp2
  refine bodyPost_ret (v := .tuple #[.agg #[.int .i64 0, .int .i64 0, .slice none 0 0], .int .i64 (q)]) (by simp [results, Try.results22, go_sem]) rfl ⟨rfl, (by repeat (first | exact Below.refl _ _ | refine Below.drew ?_ | refine below_drewN ?_ _ | refine Below.alloc ?_ (by first | exact Nat.le_refl _ | (simp; done) | (simp; omega) | omega) _ | refine Below.setCell ?_ (by first | exact Nat.le_refl _ | (simp; done) | (simp; omega) | omega) _ | refine bExtW ?_ (by first | exact Nat.le_refl _ | (simp; done) | (simp; omega) | omega) | refine Below.trans ?_ (Below.mono (by assumption) (by first | exact Nat.le_refl _ | (simp; done) | (simp; omega) | omega))))⟩
set_option maxRecDepth 100000 in
set_option maxHeartbeats 8000000 in
theorem rDraw_ok (tha : Option Addr) (nt ct : Nat) (th : List Nat) (W H : Nat) (a : Option Addr) (n c : Nat) (tie : List Bool) (tra : Option Addr) (nr cr : Nat) (tr : List Nat) (w : World) (hth : IsInts w tha nt (natI th)) (htr : IsInts w tra nr (natI tr)) (hT : OkT w a n c tie) (hW : W ≤ 64) (hH : H ≤ 64) (hn : n = W * H) (hnt : th.length = nt) (hnr : tr.length = nr) (k1 : 0 < nt) (k2 : nt ≤ 64) (k3 : 0 < nr) (k4 : nr ≤ 64) (k5 : ∀ x ∈ th, x < W) (k6 : ∀ x ∈ tr, x < H) :
    Calls Try.prog 22 #[.agg #[.slice tha nt ct, .int .i64 (W), .int .i64 (H), .slice a n c, .slice tra nr cr]] w (RPost nt nr (nt * nr) (ddL W tie th tr) w) := by
  have HC : Hid (∀ w, IsInts w tha nt (natI th) → IsInts w tra nr (natI tr) → OkT w a n c tie → Calls Try.prog 26 #[.agg #[.slice tha nt ct, .int .i64 (W), .int .i64 (H), .slice a n c, .slice tra nr cr]] w (ChainPost W H nt nr n (markL H tr) tie (turnL W nt (markL W th)) w)) := Lib.hid fun w x y z => rChain_ok tha nt ct th W H a n c tie tra nr cr tr w x y z hW hH hn hnt hnr k1 k2 k3 k4 k5 k6
  have HP1 := Lib.hid fun A1 c1 A2 c2 w (x : OkT w A1 (H * nr) c1 (markL H tr)) (y : OkT w A2 n c2 tie) => rProduct_ok nr H W (H * nr) n (W * nr) rfl hn rfl A1 c1 _ A2 c2 _ w x y hH k4 hW
  have HP2 := Lib.hid fun A1 c1 A2 c2 w (x : OkT w A1 (W * nr) c1 (prodL nr H W (markL H tr) tie)) (y : OkT w A2 (W * nt) c2 (turnL W nt (markL W th))) => rProduct_ok nr W nt (W * nr) (W * nt) (nt * nr) rfl (Nat.mul_comm _ _) rfl A1 c1 _ A2 c2 _ w x y hW k4 k2
  have HE : Hid (prodL nr W nt (prodL nr H W (markL H tr) tie) (turnL W nt (markL W th)) = ddL W tie th tr) := Lib.hid (by
    have := dd_prod (tie := tie) k5 k6
    rwa [hnt, hnr] at this)
  have HNP := Lib.hid (show 0 < nt * nr from Nat.mul_pos k1 k3)
  have HT := Lib.hid hth; have HR := Lib.hid htr; have HB := Lib.hid hT
  clear hth htr hT hn hnt hnr k5 k6
  rw [HE.out] at HP2
  generalize ddL W tie th tr = DL at *
  generalize markL H tr = L1 at *
  generalize turnL W nt (markL W th) = L3 at *
  generalize prodL nr H W L1 tie = L4 at *
  clear HE
  generalize hN : nt * nr = N at *
  have HN := Lib.hid hN
  clear hN
  go_enter Try.func22, Try.ntmps22
  go_wp2_with fail
  refine (HC.out _ (HT.out.below (by repeat (first | exact Below.refl _ _ | refine Below.drew ?_ | refine below_drewN ?_ _ | refine Below.alloc ?_ (by first | exact Nat.le_refl _ | (simp; done) | (simp; omega) | omega) _ | refine Below.setCell ?_ (by first | exact Nat.le_refl _ | (simp; done) | (simp; omega) | omega) _ | refine bExtW ?_ (by first | exact Nat.le_refl _ | (simp; done) | (simp; omega) | omega) | refine Below.trans ?_ (Below.mono (by assumption) (by first | exact Nat.le_refl _ | (simp; done) | (simp; omega) | omega))))) (HR.out.below (by repeat (first | exact Below.refl _ _ | refine Below.drew ?_ | refine below_drewN ?_ _ | refine Below.alloc ?_ (by first | exact Nat.le_refl _ | (simp; done) | (simp; omega) | omega) _ | refine Below.setCell ?_ (by first | exact Nat.le_refl _ | (simp; done) | (simp; omega) | omega) _ | refine bExtW ?_ (by first | exact Nat.le_refl _ | (simp; done) | (simp; omega) | omega) | refine Below.trans ?_ (Below.mono (by assumption) (by first | exact Nat.le_refl _ | (simp; done) | (simp; omega) | omega))))) (HB.out.below (by repeat (first | exact Below.refl _ _ | refine Below.drew ?_ | refine below_drewN ?_ _ | refine Below.alloc ?_ (by first | exact Nat.le_refl _ | (simp; done) | (simp; omega) | omega) _ | refine Below.setCell ?_ (by first | exact Nat.le_refl _ | (simp; done) | (simp; omega) | omega) _ | refine bExtW ?_ (by first | exact Nat.le_refl _ | (simp; done) | (simp; omega) | omega) | refine Below.trans ?_ (Below.mono (by assumption) (by first | exact Nat.le_refl _ | (simp; done) | (simp; omega) | omega)))))).mono ?_
  rintro r w1 ⟨A1, c1, A2, c2, A3, c3, rfl, hT1, hT2, hT3, hb⟩
  have hr1 := rowBelow (tF_alloc (w.alloc (.cells #[.slice tha nt ct, .int .i64 (W), .int .i64 (H), .slice a n c, .slice tra nr cr] 27)) 0 0 (.slice none 0 0) rfl) hb (by first | exact Nat.le_refl _ | (simp; done) | (simp; omega) | omega)
  have hb1 : Below w.heap.size w w1 := (by repeat (first | exact Below.refl _ _ | refine Below.drew ?_ | refine below_drewN ?_ _ | refine Below.alloc ?_ (by first | exact Nat.le_refl _ | (simp; done) | (simp; omega) | omega) _ | refine Below.setCell ?_ (by first | exact Nat.le_refl _ | (simp; done) | (simp; omega) | omega) _ | refine bExtW ?_ (by first | exact Nat.le_refl _ | (simp; done) | (simp; omega) | omega) | refine Below.trans ?_ (Below.mono (by assumption) (by first | exact Nat.le_refl _ | (simp; done) | (simp; omega) | omega))))
  rw [World.size_alloc] at hr1
  have HR1 := Lib.hid hr1; have HB1 := Lib.hid hb1
  have HT1 := Lib.hid hT1; have HT2 := Lib.hid hT2; have HT3 := Lib.hid hT3
  have hs1 : w.heap.size + 1 < w1.heap.size := hr1.lt
  clear hr1 hb1 hb hT1 hT2 hT3
  generalize hqe : w.heap.size = q at *
  have HQE := Lib.hid hqe
  clear hqe
  go_wp2_with fail
  refine (HP1.out _ _ _ _ _ (HT1.out.below (by repeat (first | exact Below.refl _ _ | refine Below.drew ?_ | refine below_drewN ?_ _ | refine Below.alloc ?_ (by first | exact Nat.le_refl _ | (simp; done) | (simp; omega) | omega) _ | refine Below.setCell ?_ (by first | exact Nat.le_refl _ | (simp; done) | (simp; omega) | omega) _ | refine bExtW ?_ (by first | exact Nat.le_refl _ | (simp; done) | (simp; omega) | omega) | refine Below.trans ?_ (Below.mono (by assumption) (by first | exact Nat.le_refl _ | (simp; done) | (simp; omega) | omega))))) (HT2.out.below (by repeat (first | exact Below.refl _ _ | refine Below.drew ?_ | refine below_drewN ?_ _ | refine Below.alloc ?_ (by first | exact Nat.le_refl _ | (simp; done) | (simp; omega) | omega) _ | refine Below.setCell ?_ (by first | exact Nat.le_refl _ | (simp; done) | (simp; omega) | omega) _ | refine bExtW ?_ (by first | exact Nat.le_refl _ | (simp; done) | (simp; omega) | omega) | refine Below.trans ?_ (Below.mono (by assumption) (by first | exact Nat.le_refl _ | (simp; done) | (simp; omega) | omega)))))).mono ?_
  rintro r w2 ⟨A4, c4, rfl, hT4, hb2⟩
  have hc2 := rowBelow (tF_alloc ((w1.alloc (.cells #[.int .i64 (H), .int .i64 (nr), .slice A1 (H * nr) c1] 25)).alloc (.cells #[.int .i64 (W), .int .i64 (H), .slice A2 n c2] 25)) nt W (.slice A3 (W * nt) c3) rfl) hb2 (by first | exact Nat.le_refl _ | (simp; done) | (simp; omega) | omega)
  rw [World.size_alloc, World.size_alloc] at hc2
  have hb2 : Below w1.heap.size w1 w2 := Below.trans (by repeat (first | exact Below.refl _ _ | refine Below.drew ?_ | refine below_drewN ?_ _ | refine Below.alloc ?_ (by first | exact Nat.le_refl _ | (simp; done) | (simp; omega) | omega) _ | refine Below.setCell ?_ (by first | exact Nat.le_refl _ | (simp; done) | (simp; omega) | omega) _ | refine bExtW ?_ (by first | exact Nat.le_refl _ | (simp; done) | (simp; omega) | omega) | refine Below.trans ?_ (Below.mono (by assumption) (by first | exact Nat.le_refl _ | (simp; done) | (simp; omega) | omega)))) (hb2.mono (by first | exact Nat.le_refl _ | (simp; done) | (simp; omega) | omega))
  have HT4 := Lib.hid hT4; have HT32 := Lib.hid (HT3.out.below hb2)
  have hs2 := hb2.size
  have HR2 := Lib.hid (rowBelow HR1.out hb2 (by omega))
  have HB2 : Hid (Below q w w2) := Lib.hid (HB1.out.trans (hb2.mono (by omega)))
  have c0z : (w2).cell? ⟨w1.heap.size + 1 + 1, 0, none⟩ = some (.int .i64 (nt)) := (hc2).cell (i := 0) (by omega)
  have c1z : (w2).cell? ⟨w1.heap.size + 1 + 1, 1, none⟩ = some (.int .i64 (W)) := (hc2).cell (i := 1) (by omega)
  have c2z : (w2).cell? ⟨w1.heap.size + 1 + 1, 2, none⟩ = some (.slice A3 (W * nt) c3) := (hc2).cell (i := 2) (by omega)
  have lz : LtW (w1.heap.size + 1 + 1) (w2) := (hc2).lt
  clear hc2 hb2 HR1 HB1 HT1 HT2 HT3
  go_wp2_with fail
  refine (HP2.out _ _ _ _ _ (HT4.out.below (by repeat (first | exact Below.refl _ _ | refine Below.drew ?_ | refine below_drewN ?_ _ | refine Below.alloc ?_ (by first | exact Nat.le_refl _ | (simp; done) | (simp; omega) | omega) _ | refine Below.setCell ?_ (by first | exact Nat.le_refl _ | (simp; done) | (simp; omega) | omega) _ | refine bExtW ?_ (by first | exact Nat.le_refl _ | (simp; done) | (simp; omega) | omega) | refine Below.trans ?_ (Below.mono (by assumption) (by first | exact Nat.le_refl _ | (simp; done) | (simp; omega) | omega))))) (HT32.out.below (by repeat (first | exact Below.refl _ _ | refine Below.drew ?_ | refine below_drewN ?_ _ | refine Below.alloc ?_ (by first | exact Nat.le_refl _ | (simp; done) | (simp; omega) | omega) _ | refine Below.setCell ?_ (by first | exact Nat.le_refl _ | (simp; done) | (simp; omega) | omega) _ | refine bExtW ?_ (by first | exact Nat.le_refl _ | (simp; done) | (simp; omega) | omega) | refine Below.trans ?_ (Below.mono (by assumption) (by first | exact Nat.le_refl _ | (simp; done) | (simp; omega) | omega)))))).mono ?_
  rintro r w3 ⟨A5, c5, rfl, hT5, hb3⟩
  have hb3 : Below w2.heap.size w2 w3 := Below.trans (by repeat (first | exact Below.refl _ _ | refine Below.drew ?_ | refine below_drewN ?_ _ | refine Below.alloc ?_ (by first | exact Nat.le_refl _ | (simp; done) | (simp; omega) | omega) _ | refine Below.setCell ?_ (by first | exact Nat.le_refl _ | (simp; done) | (simp; omega) | omega) _ | refine bExtW ?_ (by first | exact Nat.le_refl _ | (simp; done) | (simp; omega) | omega) | refine Below.trans ?_ (Below.mono (by assumption) (by first | exact Nat.le_refl _ | (simp; done) | (simp; omega) | omega)))) (hb3.mono (by first | exact Nat.le_refl _ | (simp; done) | (simp; omega) | omega))
  have hr3 := rowBelow HR2.out hb3 (by omega)
  have HT5 := Lib.hid hT5
  have hs3 := hb3.size
  have HG : Hid (∀ b o, A5 = some ⟨b, o, none⟩ → b ≠ q + 1) := Lib.hid (hT5.off_row HNP.out hr3)
  have HB3 : Hid (Below q w w3) := Lib.hid (HB2.out.trans (hb3.mono (by omega)))
  have c0x : (w3).cell? ⟨q + 1, 0, none⟩ = some (.int .i64 (0)) := (hr3).cell (i := 0) (by omega)
  have c1x : (w3).cell? ⟨q + 1, 1, none⟩ = some (.int .i64 (0)) := (hr3).cell (i := 1) (by omega)
  have c2x : (w3).cell? ⟨q + 1, 2, none⟩ = some (.slice none 0 0) := (hr3).cell (i := 2) (by omega)
  have lx : LtW (q + 1) (w3) := (hr3).lt
  have f0x := (hr3).frozen 0; have f1x := (hr3).frozen 1; have f2x := (hr3).frozen 2
  have hr4 := (tF_store (W := nt) (H := nr) (v := .slice A5 N c5) hr3).alloc (.cells #[.int .i64 (nt), .int .i64 (nr), .slice A5 N c5] 25)
  have BX := tst_bx w3 (q + 1) nt nr (.slice A5 N c5)
  have HT6 := (BX.okT HT5.out rfl HG.out).below (Below.alloc (Below.refl _ _) (Nat.le_refl _) (.cells #[.int .i64 (nt), .int .i64 (nr), .slice A5 N c5] 25))
  have hq1 : q + 1 < w3.heap.size := lx
  have hb4 : Below q w ((((w3.setCell ⟨q + 1, 0, none⟩ (.int .i64 (nt))).setCell ⟨q + 1, 1, none⟩ (.int .i64 (nr))).setCell ⟨q + 1, 2, none⟩ (.slice A5 N c5)).alloc (.cells #[.int .i64 (nt), .int .i64 (nr), .slice A5 N c5] 25)) := (HB3.out.trans (BX.below rfl (Nat.le_succ q) hq1)).alloc (by have := BX.size; omega) _
  have HR4 := Lib.hid hr4; have HT6 := Lib.hid HT6; have HB4 := Lib.hid hb4
  clear hr3 hT5 hb3 HR2 HB2 HT4 HT32 c0z c1z c2z lz BX hr4 hb4 HT5
  go_wp2
  generalize (((w3.setCell ⟨q + 1, 0, none⟩ (.int .i64 (nt))).setCell ⟨q + 1, 1, none⟩ (.int .i64 (nr))).setCell ⟨q + 1, 2, none⟩ (.slice A5 N c5)).alloc (.cells #[.int .i64 (nt), .int .i64 (nr), .slice A5 N c5] 25) = w4 at *
  have hr4 := HR4.out
  have c0y : (w4).cell? ⟨q + 1, 0, none⟩ = some (.int .i64 (nt)) := (hr4).cell (i := 0) (by omega)
  have c1y : (w4).cell? ⟨q + 1, 1, none⟩ = some (.int .i64 (nr)) := (hr4).cell (i := 1) (by omega)
  have c2y : (w4).cell? ⟨q + 1, 2, none⟩ = some (.slice A5 N c5) := (hr4).cell (i := 2) (by omega)
  have ly : LtW (q + 1) (w4) := (hr4).lt
  refine bodyPost_ret (v := .tuple #[.agg #[.int .i64 (nt), .int .i64 (nr), .slice A5 N c5], .int .i64 (0)]) (by simp [results, Try.results22, go_sem, c0y, c1y, c2y]) rfl ?_
  unfold RPost
  exact ⟨A5, c5, rfl, HT6.out, by rw [HQE.out]; exact HB4.out⟩
end Go.Proofs.Ytkffljkgblcgdaa
