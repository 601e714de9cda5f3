/- Lemmas and contracts of functions (what each call returns, and that it changes nothing that was there) that the proof of a law of this seat uses; each lemma states its own conditions. -/
import Derived.Test.YtkffljkgblcgdaaDr9
import Derived.Test.YtkffljkgblcgdaaTpM
import Derived.Test.YtkffljkgblcgdaaRegT
import Derived.Deep.RegionWith
import Derived.Deep.DeepCutAuto
namespace Go.Proofs.Ytkffljkgblcgdaa
open Go.RowKit
set_option linter.unusedVariables false
set_option linter.unusedSimpArgs false
open Lo
def ChR (q b7 : Nat) (f h : Nat → Value) (w : World) : Prop := w.rowIs q 27 5 f ∧ w.rowIs b7 25 3 h
set_option maxRecDepth 100000 in
set_option maxHeartbeats 8000000 in
theorem rChain_ok (tha : Option Addr) (nt ct : Nat) (th : List Nat) (W H : Nat) (a : Option Addr) (n c : Nat) (tie : List Bool) (tra : Option Addr) (nr cr : Nat) (tr : List Nat) (w : World) (hth : IsInts w tha nt (natI th)) (htr : IsInts w tra nr (natI tr)) (hT : OkT w a n c tie) (hW : W ≤ 64) (hH : H ≤ 64) (hn : n = W * H) (hnt : th.length = nt) (hnr : tr.length = nr) (k1 : 0 < nt) (k2 : nt ≤ 64) (k3 : 0 < nr) (k4 : nr ≤ 64) (k5 : ∀ x ∈ th, x < W) (k6 : ∀ x ∈ tr, x < H) :
    Calls Try.prog 26 #[.agg #[.slice tha nt ct, .int .i64 (W), .int .i64 (H), .slice a n c, .slice tra nr cr]] w (ChainPost W H nt nr n (markL H tr) tie (turnL W nt (markL W th)) w) := by
  have hE : drE (natI th) (natI tr) W H n = 0 := drE_ok hW hH hn (by omega) (by omega) (by omega) (by omega) k5 k6
  have hn4 : n ≤ 4096 := by rw [hn]; exact mul64n hW hH
  have hW0 : 0 < W := Nat.lt_of_le_of_lt (Nat.zero_le _) (k5 _ (getD_memN (L := th) (j := 0) (by omega)))
  have hn3 : 0 < W * nt := Nat.mul_pos hW0 k1
  have HD := Lib.hid (fun w x y => r6Wrong_any tha nt ct (natI th) W H a n c tra nr cr (natI tr) w x y (by omega) (by omega) (by omega) (by omega) (by omega))
  rw [hE] at HD
  have HM1 : Hid (∀ w, IsInts w tra nr (natI tr) → Calls Try.prog 61 #[.slice tra nr cr, .int .i64 (H)] w (MkPost H nr (H * nr) (markL H tr) w)) := Lib.hid fun w h => rMarked_ok tra nr cr tr H w h hnr k4 hH
  have HM2 : Hid (∀ w, IsInts w tha nt (natI th) → Calls Try.prog 61 #[.slice tha nt ct, .int .i64 (W)] w (MkPost W nt (W * nt) (markL W th) w)) := Lib.hid fun w h => rMarked_ok tha nt ct th W w h hnt k2 hW
  have HTN := Lib.hid fun A C w h => rTurned_ok W nt (W * nt) rfl A C (markL W th) w h hW k2
  have HT := Lib.hid hth; have HR := Lib.hid htr; have HB := Lib.hid hT
  generalize markL H tr = L1 at *
  generalize markL W th = L2 at *
  generalize turnL W nt L2 = L3 at *
  generalize hn1 : H * nr = n1 at *
  generalize hn3' : W * nt = n3 at *
  have HN1 := Lib.hid hn1; have HN3' := Lib.hid hn3'; have HN3 := Lib.hid hn3
  clear hth htr hT hnt hnr hn k5 k6 hE hn3 hW0 hn1 hn3'
  go_enter Try.func26, Try.ntmps26
  go_wp2_with fail
  refine (HD.out _ (HT.out.below (by repeat (first | exact Below.refl _ _ | refine Below.drew ?_ | refine below_drewN ?_ _ | refine Below.alloc ?_ (by first | exact Nat.le_refl _ | (simp; done) | (simp; omega) | omega) _ | refine Below.setCell ?_ (by first | exact Nat.le_refl _ | (simp; done) | (simp; omega) | omega) _ | refine bExtW ?_ (by first | exact Nat.le_refl _ | (simp; done) | (simp; omega) | omega) | refine Below.trans ?_ (Below.mono (by assumption) (by first | exact Nat.le_refl _ | (simp; done) | (simp; omega) | omega))))) (HR.out.below (by repeat (first | exact Below.refl _ _ | refine Below.drew ?_ | refine below_drewN ?_ _ | refine Below.alloc ?_ (by first | exact Nat.le_refl _ | (simp; done) | (simp; omega) | omega) _ | refine Below.setCell ?_ (by first | exact Nat.le_refl _ | (simp; done) | (simp; omega) | omega) _ | refine bExtW ?_ (by first | exact Nat.le_refl _ | (simp; done) | (simp; omega) | omega) | refine Below.trans ?_ (Below.mono (by assumption) (by first | exact Nat.le_refl _ | (simp; done) | (simp; omega) | omega)))))).mono ?_
  rintro r w1 ⟨rfl, hb⟩
  have hq1 := rowBelow ((((dF_alloc w (.slice tha nt ct) W H (.slice a n c) (.slice tra nr cr)).alloc (.cells #[.int .i64 (0), .int .i64 (0), .slice none 0 0] 25)).alloc (.cells #[.int .i64 (0), .int .i64 (0), .slice none 0 0] 25)).alloc (.cells #[.int .i64 (0), .int .i64 (0), .slice none 0 0] 25)) hb (by first | exact Nat.le_refl _ | (simp; done) | (simp; omega) | omega)
  have hx1 := rowBelow (((tF_alloc (w.alloc (.cells #[.slice tha nt ct, .int .i64 (W), .int .i64 (H), .slice a n c, .slice tra nr cr] 27)) 0 0 (.slice none 0 0) rfl).alloc (.cells #[.int .i64 (0), .int .i64 (0), .slice none 0 0] 25)).alloc (.cells #[.int .i64 (0), .int .i64 (0), .slice none 0 0] 25)) hb (by first | exact Nat.le_refl _ | (simp; done) | (simp; omega) | omega)
  have hy1 := rowBelow ((tF_alloc ((w.alloc (.cells #[.slice tha nt ct, .int .i64 (W), .int .i64 (H), .slice a n c, .slice tra nr cr] 27)).alloc (.cells #[.int .i64 (0), .int .i64 (0), .slice none 0 0] 25)) 0 0 (.slice none 0 0) rfl).alloc (.cells #[.int .i64 (0), .int .i64 (0), .slice none 0 0] 25)) hb (by first | exact Nat.le_refl _ | (simp; done) | (simp; omega) | omega)
  have hz1 := rowBelow (tF_alloc (((w.alloc (.cells #[.slice tha nt ct, .int .i64 (W), .int .i64 (H), .slice a n c, .slice tra nr cr] 27)).alloc (.cells #[.int .i64 (0), .int .i64 (0), .slice none 0 0] 25)).alloc (.cells #[.int .i64 (0), .int .i64 (0), .slice none 0 0] 25)) 0 0 (.slice none 0 0) rfl) hb (by first | exact Nat.le_refl _ | (simp; done) | (simp; omega) | omega)
  have hb1 : Below w.heap.size w w1 := (by repeat (first | exact Below.refl _ _ | refine Below.drew ?_ | refine below_drewN ?_ _ | refine Below.alloc ?_ (by first | exact Nat.le_refl _ | (simp; done) | (simp; omega) | omega) _ | refine Below.setCell ?_ (by first | exact Nat.le_refl _ | (simp; done) | (simp; omega) | omega) _ | refine bExtW ?_ (by first | exact Nat.le_refl _ | (simp; done) | (simp; omega) | omega) | refine Below.trans ?_ (Below.mono (by assumption) (by first | exact Nat.le_refl _ | (simp; done) | (simp; omega) | omega))))
  have hs1 : w.heap.size + 1 + 1 + 1 + 1 ≤ w1.heap.size := by have := hb.size; simp at this; exact this
  rw [World.size_alloc] at hx1
  rw [World.size_alloc, World.size_alloc] at hy1
  rw [World.size_alloc, World.size_alloc, World.size_alloc] at hz1
  generalize hqe : w.heap.size = q at *
  have HQE := Lib.hid hqe
  clear hqe hb
  obtain ⟨b1, e1⟩ : ∃ b1, q + 1 = b1 := ⟨_, rfl⟩
  rw [e1] at hx1 hy1 hz1 hs1 ⊢
  obtain ⟨b2, e2⟩ : ∃ b2, b1 + 1 = b2 := ⟨_, rfl⟩
  rw [e2] at hy1 hz1 hs1 ⊢
  obtain ⟨b3, e3⟩ : ∃ b3, b2 + 1 = b3 := ⟨_, rfl⟩
  rw [e3] at hz1 hs1 ⊢
  have hord : q < b1 ∧ b1 < b2 ∧ b2 < b3 ∧ b3 < w1.heap.size := by omega
  clear e1 e2 e3 hs1
  have q0 : w1.cell? ⟨q, 0, none⟩ = some (.slice tha nt ct) := hq1.cell (i := 0) (by omega)
  have q1 : w1.cell? ⟨q, 1, none⟩ = some (.int .i64 (W)) := hq1.cell (i := 1) (by omega)
  have q2 : w1.cell? ⟨q, 2, none⟩ = some (.int .i64 (H)) := hq1.cell (i := 2) (by omega)
  have q3 : w1.cell? ⟨q, 3, none⟩ = some (.slice a n c) := hq1.cell (i := 3) (by omega)
  have q4 : w1.cell? ⟨q, 4, none⟩ = some (.slice tra nr cr) := hq1.cell (i := 4) (by omega)
  have lq : LtW q w1 := hq1.lt
  have HQ1 := Lib.hid hq1; have HX1 := Lib.hid hx1; have HY1 := Lib.hid hy1; have HZ1 := Lib.hid hz1; have HB1 := Lib.hid hb1
  clear hq1 hx1 hy1 hz1 hb1
  go_wp2_with fail
  refine (HM2.out _ (HT.out.below (by rw [HQE.out]; exact HB1.out))).mono ?_
  rintro r w2 ⟨A2, c2, rfl, hT2, hb2, hg2⟩
  have hs2 := hb2.size
  have HT2 := Lib.hid hT2; have HB2 := Lib.hid hb2
  clear q0 q1 q2 q3 q4 lq hb2 hg2 hT2
  go_wp2_with fail
  refine (HTN.out _ _ _ HT2.out).mono ?_
  rintro r w3 ⟨A3, c3, rfl, hT3, hb3⟩
  have hb13 : Below w1.heap.size w1 w3 := HB2.out.trans (hb3.mono hs2)
  have hs3 := hb13.size
  have hx3 := rowBelow HX1.out hb13 (by omega)
  have hy3 := rowBelow HY1.out hb13 (by omega)
  have hz3 := rowBelow HZ1.out hb13 (by omega)
  have hq3 := rowBelow HQ1.out hb13 (by omega)
  have HB3 : Hid (Below q w w3) := Lib.hid (HB1.out.trans (hb13.mono (by omega)))
  have HG3 : Hid (∀ b o, A3 = some ⟨b, o, none⟩ → b ≠ b1 ∧ b ≠ b2 ∧ b ≠ b3) := Lib.hid fun b o e => ⟨hT3.off_row HN3.out hx3 b o e, hT3.off_row HN3.out hy3 b o e, hT3.off_row HN3.out hz3 b o e⟩
  have HT3 := Lib.hid hT3
  have HX3 := Lib.hid hx3; have HY3 := Lib.hid hy3; have HZ3 := Lib.hid hz3; have HQ3 := Lib.hid hq3
  clear hx3 hy3 hz3 hb3 hb13 hT3 HB2 HT2 HX1 HY1 HZ1 HQ1 HB1 hq3
  go_upto_region 5 with fail
  have hz7 := tF_alloc w3 nt W (.slice A3 n3 c3) rfl
  have hq7 := HQ3.out.alloc (.cells #[.int .i64 (nt), .int .i64 (W), .slice A3 n3 c3] 25)
  have HX7 := Lib.hid (HX3.out.alloc (.cells #[.int .i64 (nt), .int .i64 (W), .slice A3 n3 c3] 25))
  have HY7 := Lib.hid (HY3.out.alloc (.cells #[.int .i64 (nt), .int .i64 (W), .slice A3 n3 c3] 25))
  have HZ7 := Lib.hid (HZ3.out.alloc (.cells #[.int .i64 (nt), .int .i64 (W), .slice A3 n3 c3] 25))
  have HB7 : Hid (Below q w (w3.alloc (.cells #[.int .i64 (nt), .int .i64 (W), .slice A3 n3 c3] 25))) := Lib.hid (HB3.out.alloc (by omega) _)
  have HT37 := Lib.hid (HT3.out.below (Below.alloc (Below.refl _ _) (Nat.le_refl _) (.cells #[.int .i64 (nt), .int .i64 (W), .slice A3 n3 c3] 25)))
  have hs7 : (w3.alloc (.cells #[.int .i64 (nt), .int .i64 (W), .slice A3 n3 c3] 25)).heap.size = w3.heap.size + 1 := by simp
  obtain ⟨b7, hb7⟩ : ∃ b7, w3.heap.size = b7 := ⟨_, rfl⟩
  generalize w3.alloc (.cells #[.int .i64 (nt), .int .i64 (W), .slice A3 n3 c3] 25) = w7 at *
  rw [hb7] at hz7 hs7 ⊢
  have HB7E : b3 < b7 := by omega
  have hlt7 : b7 < w7.heap.size := hz7.lt
  have HTT := Lib.hid (HB.out.below (by rw [HQE.out]; exact HB7.out))
  have HCS : Hid (ChR q b7 (dF (.slice tha nt ct) W H (.slice a n c) (.slice tra nr cr)) (tF nt W (.slice A3 n3 c3)) w7) := Lib.hid ⟨hq7, hz7⟩
  clear hq7 hz7 HX3 HY3 HZ3 HQ3 HB3 HT3 hs7 hb7
  refine wp_region_any (by kernel_rfl) ?_
  refine anyT_any (S := ChR q b7 (dF (.slice tha nt ct) W H (.slice a n c) (.slice tra nr cr)) (tF nt W (.slice A3 n3 c3))) (stop := fun _ => false) _ _ _ _ ?_
  (refine anyT_take (i := 0) (.pointer (some ⟨q, 4, none⟩)) rfl (by kernel_rfl) (fun c a w h => by (simp (config := {zetaDelta := true}) [Exit.then, bodyPost, go_sem, ChainPost] at h; done)) (.inl ⟨by simp [Region.wanted], fun wx hx => ?_⟩) HCS.out ?_; · obtain ⟨r1, r2⟩ := hx; have u0 : wx.cell? ⟨q, 0, none⟩ = some (.slice tha nt ct) := r1.cell (i := 0) (by omega); have u1 : wx.cell? ⟨q, 1, none⟩ = some (.int .i64 (W)) := r1.cell (i := 1) (by omega); have u2 : wx.cell? ⟨q, 2, none⟩ = some (.int .i64 (H)) := r1.cell (i := 2) (by omega); have u3 : wx.cell? ⟨q, 3, none⟩ = some (.slice a n c) := r1.cell (i := 3) (by omega); have u4 : wx.cell? ⟨q, 4, none⟩ = some (.slice tra nr cr) := r1.cell (i := 4) (by omega); have z0 : wx.cell? ⟨b7, 0, none⟩ = some (.int .i64 (nt)) := r2.cell (i := 0) (by omega); have z1 : wx.cell? ⟨b7, 1, none⟩ = some (.int .i64 (W)) := r2.cell (i := 1) (by omega); have z2 : wx.cell? ⟨b7, 2, none⟩ = some (.slice A3 n3 c3) := r2.cell (i := 2) (by omega); have l1 : LtW q wx := r1.lt; have l3 : LtW b7 wx := r2.lt; clear r1 r2; go_simp); go_simp
  (refine anyT_take (i := 1) (.slice tra nr cr) rfl (by kernel_rfl) (fun c a w h => by (simp (config := {zetaDelta := true}) [Exit.then, bodyPost, go_sem, ChainPost] at h; done)) (.inl ⟨by simp [Region.wanted], fun wx hx => ?_⟩) HCS.out ?_; · obtain ⟨r1, r2⟩ := hx; have u0 : wx.cell? ⟨q, 0, none⟩ = some (.slice tha nt ct) := r1.cell (i := 0) (by omega); have u1 : wx.cell? ⟨q, 1, none⟩ = some (.int .i64 (W)) := r1.cell (i := 1) (by omega); have u2 : wx.cell? ⟨q, 2, none⟩ = some (.int .i64 (H)) := r1.cell (i := 2) (by omega); have u3 : wx.cell? ⟨q, 3, none⟩ = some (.slice a n c) := r1.cell (i := 3) (by omega); have u4 : wx.cell? ⟨q, 4, none⟩ = some (.slice tra nr cr) := r1.cell (i := 4) (by omega); have z0 : wx.cell? ⟨b7, 0, none⟩ = some (.int .i64 (nt)) := r2.cell (i := 0) (by omega); have z1 : wx.cell? ⟨b7, 1, none⟩ = some (.int .i64 (W)) := r2.cell (i := 1) (by omega); have z2 : wx.cell? ⟨b7, 2, none⟩ = some (.slice A3 n3 c3) := r2.cell (i := 2) (by omega); have l1 : LtW q wx := r1.lt; have l3 : LtW b7 wx := r2.lt; clear r1 r2; go_simp); go_simp
  (refine anyT_take (i := 2) (.pointer (some ⟨q, 1, none⟩)) rfl (by kernel_rfl) (fun c a w h => by (simp (config := {zetaDelta := true}) [Exit.then, bodyPost, go_sem, ChainPost] at h; done)) (.inl ⟨by simp [Region.wanted], fun wx hx => ?_⟩) HCS.out ?_; · obtain ⟨r1, r2⟩ := hx; have u0 : wx.cell? ⟨q, 0, none⟩ = some (.slice tha nt ct) := r1.cell (i := 0) (by omega); have u1 : wx.cell? ⟨q, 1, none⟩ = some (.int .i64 (W)) := r1.cell (i := 1) (by omega); have u2 : wx.cell? ⟨q, 2, none⟩ = some (.int .i64 (H)) := r1.cell (i := 2) (by omega); have u3 : wx.cell? ⟨q, 3, none⟩ = some (.slice a n c) := r1.cell (i := 3) (by omega); have u4 : wx.cell? ⟨q, 4, none⟩ = some (.slice tra nr cr) := r1.cell (i := 4) (by omega); have z0 : wx.cell? ⟨b7, 0, none⟩ = some (.int .i64 (nt)) := r2.cell (i := 0) (by omega); have z1 : wx.cell? ⟨b7, 1, none⟩ = some (.int .i64 (W)) := r2.cell (i := 1) (by omega); have z2 : wx.cell? ⟨b7, 2, none⟩ = some (.slice A3 n3 c3) := r2.cell (i := 2) (by omega); have l1 : LtW q wx := r1.lt; have l3 : LtW b7 wx := r2.lt; clear r1 r2; go_simp); go_simp
  (refine anyT_take (i := 3) (.pointer (some ⟨q, 2, none⟩)) rfl (by kernel_rfl) (fun c a w h => by (simp (config := {zetaDelta := true}) [Exit.then, bodyPost, go_sem, ChainPost] at h; done)) (.inl ⟨by simp [Region.wanted], fun wx hx => ?_⟩) HCS.out ?_; · obtain ⟨r1, r2⟩ := hx; have u0 : wx.cell? ⟨q, 0, none⟩ = some (.slice tha nt ct) := r1.cell (i := 0) (by omega); have u1 : wx.cell? ⟨q, 1, none⟩ = some (.int .i64 (W)) := r1.cell (i := 1) (by omega); have u2 : wx.cell? ⟨q, 2, none⟩ = some (.int .i64 (H)) := r1.cell (i := 2) (by omega); have u3 : wx.cell? ⟨q, 3, none⟩ = some (.slice a n c) := r1.cell (i := 3) (by omega); have u4 : wx.cell? ⟨q, 4, none⟩ = some (.slice tra nr cr) := r1.cell (i := 4) (by omega); have z0 : wx.cell? ⟨b7, 0, none⟩ = some (.int .i64 (nt)) := r2.cell (i := 0) (by omega); have z1 : wx.cell? ⟨b7, 1, none⟩ = some (.int .i64 (W)) := r2.cell (i := 1) (by omega); have z2 : wx.cell? ⟨b7, 2, none⟩ = some (.slice A3 n3 c3) := r2.cell (i := 2) (by omega); have l1 : LtW q wx := r1.lt; have l3 : LtW b7 wx := r2.lt; clear r1 r2; go_simp); go_simp
  (refine anyT_take (i := 4) (.int .i64 (H)) rfl (by kernel_rfl) (fun c a w h => by (simp (config := {zetaDelta := true}) [Exit.then, bodyPost, go_sem, ChainPost] at h; done)) (.inl ⟨by simp [Region.wanted], fun wx hx => ?_⟩) HCS.out ?_; · obtain ⟨r1, r2⟩ := hx; have u0 : wx.cell? ⟨q, 0, none⟩ = some (.slice tha nt ct) := r1.cell (i := 0) (by omega); have u1 : wx.cell? ⟨q, 1, none⟩ = some (.int .i64 (W)) := r1.cell (i := 1) (by omega); have u2 : wx.cell? ⟨q, 2, none⟩ = some (.int .i64 (H)) := r1.cell (i := 2) (by omega); have u3 : wx.cell? ⟨q, 3, none⟩ = some (.slice a n c) := r1.cell (i := 3) (by omega); have u4 : wx.cell? ⟨q, 4, none⟩ = some (.slice tra nr cr) := r1.cell (i := 4) (by omega); have z0 : wx.cell? ⟨b7, 0, none⟩ = some (.int .i64 (nt)) := r2.cell (i := 0) (by omega); have z1 : wx.cell? ⟨b7, 1, none⟩ = some (.int .i64 (W)) := r2.cell (i := 1) (by omega); have z2 : wx.cell? ⟨b7, 2, none⟩ = some (.slice A3 n3 c3) := r2.cell (i := 2) (by omega); have l1 : LtW q wx := r1.lt; have l3 : LtW b7 wx := r2.lt; clear r1 r2; go_simp); go_simp
  (refine anyT_take (i := 6) (.pointer (some ⟨q, 1, none⟩)) rfl (by kernel_rfl) (fun c a w h => by (simp (config := {zetaDelta := true}) [Exit.then, bodyPost, go_sem, ChainPost] at h; done)) (.inl ⟨by simp [Region.wanted], fun wx hx => ?_⟩) HCS.out ?_; · obtain ⟨r1, r2⟩ := hx; have u0 : wx.cell? ⟨q, 0, none⟩ = some (.slice tha nt ct) := r1.cell (i := 0) (by omega); have u1 : wx.cell? ⟨q, 1, none⟩ = some (.int .i64 (W)) := r1.cell (i := 1) (by omega); have u2 : wx.cell? ⟨q, 2, none⟩ = some (.int .i64 (H)) := r1.cell (i := 2) (by omega); have u3 : wx.cell? ⟨q, 3, none⟩ = some (.slice a n c) := r1.cell (i := 3) (by omega); have u4 : wx.cell? ⟨q, 4, none⟩ = some (.slice tra nr cr) := r1.cell (i := 4) (by omega); have z0 : wx.cell? ⟨b7, 0, none⟩ = some (.int .i64 (nt)) := r2.cell (i := 0) (by omega); have z1 : wx.cell? ⟨b7, 1, none⟩ = some (.int .i64 (W)) := r2.cell (i := 1) (by omega); have z2 : wx.cell? ⟨b7, 2, none⟩ = some (.slice A3 n3 c3) := r2.cell (i := 2) (by omega); have l1 : LtW q wx := r1.lt; have l3 : LtW b7 wx := r2.lt; clear r1 r2; go_simp); go_simp
  (refine anyT_take (i := 7) (.agg #[.int .i64 (W), .int .i64 (H), .slice a n c]) rfl (by kernel_rfl) (fun c a w h => by (simp (config := {zetaDelta := true}) [Exit.then, bodyPost, go_sem, ChainPost] at h; done)) (.inl ⟨by simp [Region.wanted], fun wx hx => ?_⟩) HCS.out ?_; · obtain ⟨r1, r2⟩ := hx; have u0 : wx.cell? ⟨q, 0, none⟩ = some (.slice tha nt ct) := r1.cell (i := 0) (by omega); have u1 : wx.cell? ⟨q, 1, none⟩ = some (.int .i64 (W)) := r1.cell (i := 1) (by omega); have u2 : wx.cell? ⟨q, 2, none⟩ = some (.int .i64 (H)) := r1.cell (i := 2) (by omega); have u3 : wx.cell? ⟨q, 3, none⟩ = some (.slice a n c) := r1.cell (i := 3) (by omega); have u4 : wx.cell? ⟨q, 4, none⟩ = some (.slice tra nr cr) := r1.cell (i := 4) (by omega); have z0 : wx.cell? ⟨b7, 0, none⟩ = some (.int .i64 (nt)) := r2.cell (i := 0) (by omega); have z1 : wx.cell? ⟨b7, 1, none⟩ = some (.int .i64 (W)) := r2.cell (i := 1) (by omega); have z2 : wx.cell? ⟨b7, 2, none⟩ = some (.slice A3 n3 c3) := r2.cell (i := 2) (by omega); have l1 : LtW q wx := r1.lt; have l3 : LtW b7 wx := r2.lt; clear r1 r2; go_simp); go_simp
  (refine anyT_take (i := 8) (.agg #[.int .i64 (nt), .int .i64 (W), .slice A3 n3 c3]) rfl (by kernel_rfl) (fun c a w h => by (simp (config := {zetaDelta := true}) [Exit.then, bodyPost, go_sem, ChainPost] at h; done)) (.inl ⟨by simp [Region.wanted], fun wx hx => ?_⟩) HCS.out ?_; · obtain ⟨r1, r2⟩ := hx; have u0 : wx.cell? ⟨q, 0, none⟩ = some (.slice tha nt ct) := r1.cell (i := 0) (by omega); have u1 : wx.cell? ⟨q, 1, none⟩ = some (.int .i64 (W)) := r1.cell (i := 1) (by omega); have u2 : wx.cell? ⟨q, 2, none⟩ = some (.int .i64 (H)) := r1.cell (i := 2) (by omega); have u3 : wx.cell? ⟨q, 3, none⟩ = some (.slice a n c) := r1.cell (i := 3) (by omega); have u4 : wx.cell? ⟨q, 4, none⟩ = some (.slice tra nr cr) := r1.cell (i := 4) (by omega); have z0 : wx.cell? ⟨b7, 0, none⟩ = some (.int .i64 (nt)) := r2.cell (i := 0) (by omega); have z1 : wx.cell? ⟨b7, 1, none⟩ = some (.int .i64 (W)) := r2.cell (i := 1) (by omega); have z2 : wx.cell? ⟨b7, 2, none⟩ = some (.slice A3 n3 c3) := r2.cell (i := 2) (by omega); have l1 : LtW q wx := r1.lt; have l3 : LtW b7 wx := r2.lt; clear r1 r2; go_simp); go_simp
  refine anyT_one (i := 5) (by kernel_rfl) rfl rfl ?_
  go_simp
  refine (HM1.out _ ((HR.out.below (by rw [HQE.out]; exact HB7.out)).below (by repeat (first | exact Below.refl _ _ | refine Below.drew ?_ | refine below_drewN ?_ _ | refine Below.alloc ?_ (by first | exact Nat.le_refl _ | (simp; done) | (simp; omega) | omega) _ | refine Below.setCell ?_ (by first | exact Nat.le_refl _ | (simp; done) | (simp; omega) | omega) _ | refine bExtW ?_ (by first | exact Nat.le_refl _ | (simp; done) | (simp; omega) | omega) | refine Below.trans ?_ (Below.mono (by assumption) (by first | exact Nat.le_refl _ | (simp; done) | (simp; omega) | omega)))))).mono ?_
  rintro r w9 ⟨A1, c1, rfl, hT1, hb9, hg1⟩
  have hb9 : Below w7.heap.size w7 w9 := Below.trans (by repeat (first | exact Below.refl _ _ | refine Below.drew ?_ | refine below_drewN ?_ _ | refine Below.alloc ?_ (by first | exact Nat.le_refl _ | (simp; done) | (simp; omega) | omega) _ | refine Below.setCell ?_ (by first | exact Nat.le_refl _ | (simp; done) | (simp; omega) | omega) _ | refine bExtW ?_ (by first | exact Nat.le_refl _ | (simp; done) | (simp; omega) | omega) | refine Below.trans ?_ (Below.mono (by assumption) (by first | exact Nat.le_refl _ | (simp; done) | (simp; omega) | omega)))) (hb9.mono (by first | exact Nat.le_refl _ | (simp; done) | (simp; omega) | omega))
  have hx9 := rowBelow HX7.out hb9 (by omega)
  have hy9 := rowBelow HY7.out hb9 (by omega)
  have hz9 := rowBelow HZ7.out hb9 (by omega)
  have HCS9 : Hid (ChR q b7 (dF (.slice tha nt ct) W H (.slice a n c) (.slice tra nr cr)) (tF nt W (.slice A3 n3 c3)) w9) := Lib.hid ⟨rowBelow HCS.out.1 hb9 (by omega), rowBelow HCS.out.2 hb9 (by omega)⟩
  have HT19 := Lib.hid hT1
  have HT39 := Lib.hid (HT37.out.below hb9)
  have hg1' : ∀ b o, A1 = some ⟨b, o, none⟩ → b3 < b := fun b o e => by
    have h1 := hg1 b o e
    have h2 : w7.heap.size ≤ b := Nat.le_trans (by first | exact Nat.le_refl _ | (simp; done) | (simp; omega) | omega) h1
    omega
  have HG1 := Lib.hid hg1'
  have HB9 : Hid (Below q w w9) := Lib.hid (HB7.out.trans (hb9.mono (by omega)))
  have hs9 := hb9.size
  clear hb9 hg1 hg1' hT1 HT37 HB7 HCS HX7 HY7 HZ7 HTT
  go_simp
  refine ⟨HCS9.out, ?_⟩
  refine anyT_one (i := 9) (by kernel_rfl) rfl rfl ?_
  have c0x : (w9).cell? ⟨b1, 0, none⟩ = some (.int .i64 (0)) := (hx9).cell (i := 0) (by omega)
  have c1x : (w9).cell? ⟨b1, 1, none⟩ = some (.int .i64 (0)) := (hx9).cell (i := 1) (by omega)
  have c2x : (w9).cell? ⟨b1, 2, none⟩ = some (.slice none 0 0) := (hx9).cell (i := 2) (by omega)
  have lx : LtW (b1) (w9) := (hx9).lt
  have f0x := (hx9).frozen 0; have f1x := (hx9).frozen 1; have f2x := (hx9).frozen 2
  go_simp
  have hx10 := tF_store (W := H) (H := nr) (v := .slice A1 n1 c1) hx9
  have BX := tst_bx w9 b1 H nr (.slice A1 n1 c1)
  clear c0x c1x c2x lx f0x f1x f2x hx9
  generalize ((w9.setCell ⟨b1, 0, none⟩ (.int .i64 (H))).setCell ⟨b1, 1, none⟩ (.int .i64 (nr))).setCell ⟨b1, 2, none⟩ (.slice A1 n1 c1) = w10 at *
  have hy10 := BX.rowIs hy9 (by omega) (by omega)
  have hz10 := BX.rowIs hz9 (by omega) (by omega)
  have HCS10 : Hid (ChR q b7 (dF (.slice tha nt ct) W H (.slice a n c) (.slice tra nr cr)) (tF nt W (.slice A3 n3 c3)) w10) := Lib.hid ⟨BX.rowIs HCS9.out.1 (by omega) (by omega), BX.rowIs HCS9.out.2 (by omega) (by omega)⟩
  have HT110 := Lib.hid (BX.okT HT19.out rfl fun b o e => by have := HG1.out b o e; omega)
  have HT310 := Lib.hid (BX.okT HT39.out rfl fun b o e => (HG3.out b o e).1)
  have HB10 : Hid (Below q w w10) := Lib.hid (HB9.out.trans (BX.below rfl (by omega) (by omega)))
  have hs10 : w9.heap.size ≤ w10.heap.size := BX.size
  clear BX hy9 hz9 HCS9 HT19 HT39 HB9
  refine ⟨HCS10.out, ?_⟩
  refine anyT_one (i := 10) (by kernel_rfl) rfl rfl ?_
  have c0y : (w10).cell? ⟨b2, 0, none⟩ = some (.int .i64 (0)) := (hy10).cell (i := 0) (by omega)
  have c1y : (w10).cell? ⟨b2, 1, none⟩ = some (.int .i64 (0)) := (hy10).cell (i := 1) (by omega)
  have c2y : (w10).cell? ⟨b2, 2, none⟩ = some (.slice none 0 0) := (hy10).cell (i := 2) (by omega)
  have ly : LtW (b2) (w10) := (hy10).lt
  have f0y := (hy10).frozen 0; have f1y := (hy10).frozen 1; have f2y := (hy10).frozen 2
  go_simp
  have hy11 := tF_store (W := W) (H := H) (v := .slice a n c) hy10
  have BX := tst_bx w10 b2 W H (.slice a n c)
  clear c0y c1y c2y ly f0y f1y f2y hy10
  generalize ((w10.setCell ⟨b2, 0, none⟩ (.int .i64 (W))).setCell ⟨b2, 1, none⟩ (.int .i64 (H))).setCell ⟨b2, 2, none⟩ (.slice a n c) = w11 at *
  have hx11 := BX.rowIs hx10 (by omega) (by omega)
  have hz11 := BX.rowIs hz10 (by omega) (by omega)
  have HCS11 : Hid (ChR q b7 (dF (.slice tha nt ct) W H (.slice a n c) (.slice tra nr cr)) (tF nt W (.slice A3 n3 c3)) w11) := Lib.hid ⟨BX.rowIs HCS10.out.1 (by omega) (by omega), BX.rowIs HCS10.out.2 (by omega) (by omega)⟩
  have HT111 := Lib.hid (BX.okT HT110.out rfl fun b o e => by have := HG1.out b o e; omega)
  have HT311 := Lib.hid (BX.okT HT310.out rfl fun b o e => (HG3.out b o e).2.1)
  have HB11 : Hid (Below q w w11) := Lib.hid (HB10.out.trans (BX.below rfl (by omega) (by omega)))
  have hs11 : w10.heap.size ≤ w11.heap.size := BX.size
  clear BX hx10 hz10 HCS10 HT110 HT310 HB10
  refine ⟨HCS11.out, ?_⟩
  refine anyT_one (i := 11) (by kernel_rfl) rfl rfl ?_
  have c0z : (w11).cell? ⟨b3, 0, none⟩ = some (.int .i64 (0)) := (hz11).cell (i := 0) (by omega)
  have c1z : (w11).cell? ⟨b3, 1, none⟩ = some (.int .i64 (0)) := (hz11).cell (i := 1) (by omega)
  have c2z : (w11).cell? ⟨b3, 2, none⟩ = some (.slice none 0 0) := (hz11).cell (i := 2) (by omega)
  have lz : LtW (b3) (w11) := (hz11).lt
  have f0z := (hz11).frozen 0; have f1z := (hz11).frozen 1; have f2z := (hz11).frozen 2
  go_simp
  have hz12 := tF_store (W := nt) (H := W) (v := .slice A3 n3 c3) hz11
  have BX := tst_bx w11 b3 nt W (.slice A3 n3 c3)
  clear c0z c1z c2z lz f0z f1z f2z hz11
  generalize ((w11.setCell ⟨b3, 0, none⟩ (.int .i64 (nt))).setCell ⟨b3, 1, none⟩ (.int .i64 (W))).setCell ⟨b3, 2, none⟩ (.slice A3 n3 c3) = w12 at *
  have hx12 := BX.rowIs hx11 (by omega) (by omega)
  have hy12 := BX.rowIs hy11 (by omega) (by omega)
  have HCS12 : Hid (ChR q b7 (dF (.slice tha nt ct) W H (.slice a n c) (.slice tra nr cr)) (tF nt W (.slice A3 n3 c3)) w12) := Lib.hid ⟨BX.rowIs HCS11.out.1 (by omega) (by omega), BX.rowIs HCS11.out.2 (by omega) (by omega)⟩
  have HT112 := Lib.hid (BX.okT HT111.out rfl fun b o e => by have := HG1.out b o e; omega)
  have HT312 := Lib.hid (BX.okT HT311.out rfl fun b o e => (HG3.out b o e).2.2)
  have HB12 : Hid (Below q w w12) := Lib.hid (HB11.out.trans (BX.below rfl (by omega) (by omega)))
  clear BX hx11 hy11 HCS11 HT111 HT311 HB11
  refine ⟨HCS12.out, ?_⟩
  refine anyT_one (i := 12) (by kernel_rfl) rfl rfl ?_
  go_simp
  refine ⟨HCS12.out, ?_⟩
  refine anyT_done (by kernel_rfl) ?_
  have c0x : (w12).cell? ⟨b1, 0, none⟩ = some (.int .i64 (H)) := (hx12).cell (i := 0) (by omega)
  have c1x : (w12).cell? ⟨b1, 1, none⟩ = some (.int .i64 (nr)) := (hx12).cell (i := 1) (by omega)
  have c2x : (w12).cell? ⟨b1, 2, none⟩ = some (.slice A1 n1 c1) := (hx12).cell (i := 2) (by omega)
  have lx : LtW (b1) (w12) := (hx12).lt
  have c0y : (w12).cell? ⟨b2, 0, none⟩ = some (.int .i64 (W)) := (hy12).cell (i := 0) (by omega)
  have c1y : (w12).cell? ⟨b2, 1, none⟩ = some (.int .i64 (H)) := (hy12).cell (i := 1) (by omega)
  have c2y : (w12).cell? ⟨b2, 2, none⟩ = some (.slice a n c) := (hy12).cell (i := 2) (by omega)
  have ly : LtW (b2) (w12) := (hy12).lt
  have c0z : (w12).cell? ⟨b3, 0, none⟩ = some (.int .i64 (nt)) := (hz12).cell (i := 0) (by omega)
  have c1z : (w12).cell? ⟨b3, 1, none⟩ = some (.int .i64 (W)) := (hz12).cell (i := 1) (by omega)
  have c2z : (w12).cell? ⟨b3, 2, none⟩ = some (.slice A3 n3 c3) := (hz12).cell (i := 2) (by omega)
  have lz : LtW (b3) (w12) := (hz12).lt
  go_simp
  refine (‹∀ (a : Act) (w : World), Code.wp Try.prog _ _ a w → _›) _ _ ?_
  go_wp2
  refine bodyPost_ret (v := .tuple #[.agg #[.int .i64 (H), .int .i64 (nr), .slice A1 n1 c1], .agg #[.int .i64 (W), .int .i64 (H), .slice a n c], .agg #[.int .i64 (nt), .int .i64 (W), .slice A3 n3 c3], .int .i64 (0)]) (by simp [results, Try.results26, go_sem, c0x, c1x, c2x, c0y, c1y, c2y, c0z, c1z, c2z]) rfl ?_
  have HBA := Lib.hid (HB.out.below (by rw [HQE.out]; exact HB12.out))
  unfold ChainPost
  rw [HN1.out, HN3'.out]
  exact ⟨A1, c1, a, c, A3, c3, rfl, HT112.out, HBA.out, HT312.out, by rw [HQE.out]; exact HB12.out⟩
end Go.Proofs.Ytkffljkgblcgdaa
