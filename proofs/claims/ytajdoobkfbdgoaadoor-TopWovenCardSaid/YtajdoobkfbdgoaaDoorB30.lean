/- Lemmas on which the law of this seat rests; each states its own conditions. -/
import Derived.Test.YtajdoobkfbdgoaaDoorB29
import Derived.Test.YtajdoobkfbdgoaaDoorB05
import Derived.Test.YtajdoobkfbdgoaaDoorB06
import Derived.Deep.RegionWith
import Derived.Deep.DeepCutAuto
set_option linter.unusedVariables false
set_option linter.unusedSimpArgs false
namespace Go.Proofs.YtajdoobkfbdgoaaDoor
section
open Go.RowKit
open Lo
theorem OkT.off_row {w : World} {A : Option Addr} {n c : Nat} {bs : List Bool} {b : Nat} {W H : Int} {x : Option Addr} {y z : Nat} (h : OkT w A n c bs) (hn : 0 < n) (hr : w.rowIs b 33 3 (tF W H (.slice x y z))) : ∀ b' o, A = some ⟨b', o, none⟩ → b' ≠ b := by
 obtain ⟨b1, o1, e, hb, hc⟩ := h.bits.2 hn
 have h0 := hc 0 hn
 rw [Nat.add_zero] at h0
 intro b' o e2 e3
 rw [e] at e2
 injection e2 with e2
 injection e2 with e4 e5
 subst e3 e4
 obtain ⟨cs, h1, h2, h3⟩ := hr
 simp [World.cell?, h1] at h0
 have hlt : o1 < cs.size := (Array.getElem?_eq_some_iff.1 h0).1
 have h4 := h3 o1 (by omega)
 rw [h0] at h4
 injection h4 with h4
 unfold tF at h4
 split at h4
 ·cases h4
 ·split at h4 <;> cases h4
theorem opAppBs {W : World} {o : Oper} {a : Act} {K : Act → World → Prop} {Q : Exit → Act → World → Prop} (s x : Operand) (ho : o.op = .call { callee := .builtin .append, args := #[s, x], argTypes := #[31, 31] })
  (A : Option Addr) (c n : Nat) (bs : List Bool) (hs : a.eval s = .slice none 0 0) (hx : a.eval x = .slice A n c) (hp : 0 < n) (hn : n ≤ 4096) (hI : IsBools W A n bs)
  (h : ∀ v' w', w'.ownsRow W.heap.size 4 1 v' n (bs.map Value.bool) → Below W.heap.size W w' → K (a.put o.dst v') w') : o.wp Tryd.prog a W K Q := by
 obtain ⟨h2, h3, h4, h5⟩ := okBools
 obtain ⟨i0, hi, hz0, hz1, hz2⟩ := info_parts h3
 obtain ⟨b, of, rfl, hb, hc⟩ := hI.2 hp
 have hlen := hI.1
 refine wp_append_own _ s x 31 ho W.heap.size 4 i0 _ 1 _ h2 hi hz0 hz1 hz2 h4 h5 (.slice none 0 0) 0 [] hs (World.ownsRow_nil _ _ _ _) ⟨b, of, none⟩ n c (bs.map Value.bool) hx (by simp; omega) ?_ ?_ (by unfold maxLen; omega) (by omega) (Nat.le_refl _) ?_
 ·intro j u hj
  have hjl : j < bs.length := by
   have := (List.getElem?_eq_some_iff.1 hj).1
   simpa using this
  rw [Addr.add_lit, hc j (by omega)]
  rw [List.getElem?_map, List.getElem?_eq_getElem hjl] at hj
  rw [show bs.getD j false = bs[j] by simp [List.getD, hjl]]
  exact hj
 ·intro u hu
  simp only [List.mem_map] at hu
  obtain ⟨y, _, rfl⟩ := hu
  rfl
 ·intro v' w' hown' hg _
  rw [Nat.zero_add, List.nil_append] at hown'
  exact h v' w' hown' (belowGrown hg (Nat.le_refl _) fun k hk => by simp [Value.ownBlock] at hk)
def ChainPost (W H nt nr n : Nat) (t1 tie t3 : List Bool) (w : World) (r : Ending) (w' : World) : Prop := ∃ A1 c1 A2 c2 A3 c3, r = .returned (.tuple #[.agg #[.int .i64 (H), .int .i64 (nr), .slice A1 (H * nr) c1], .agg #[.int .i64 (W), .int .i64 (H), .slice A2 n c2], .agg #[.int .i64 (nt), .int .i64 (W), .slice A3 (W * nt) c3], .int .i64 (0)]) ∧ OkT w' A1 (H * nr) c1 t1 ∧ OkT w' A2 n c2 tie ∧ OkT w' A3 (W * nt) c3 t3 ∧ Below w.heap.size w w'
theorem tF_store {w : World} {b : Nat} {W0 H0 W H : Int} {v0 v : Value} (h : w.rowIs b 33 3 (tF W0 H0 v0)) : (((w.setCell ⟨b, 0, none⟩ (.int .i64 (W))).setCell ⟨b, 1, none⟩ (.int .i64 (H))).setCell ⟨b, 2, none⟩ v).rowIs b 33 3 (tF W H v) :=
 (((h.set 0 _).set 1 _).set 2 _).congr fun i hi => by
  have hi3 : i = 0 ∨ i = 1 ∨ i = 2 := by omega
  rcases hi3 with rfl | rfl | rfl <;> rfl
theorem tst_bx (w : World) (b : Nat) (W H : Int) (v : Value) : BelowX w.heap.size b w (((w.setCell ⟨b, 0, none⟩ (.int .i64 (W))).setCell ⟨b, 1, none⟩ (.int .i64 (H))).setCell ⟨b, 2, none⟩ v) :=
 (((BelowX.refl (Nat.le_refl _)).set 0 _).set 1 _).set 2 _
def ChS (q b1 b3 : Nat) (f g h : Nat → Value) (w : World) : Prop := w.rowIs q 35 5 f ∧ w.rowIs b1 33 3 g ∧ w.rowIs b3 33 3 h
set_option maxRecDepth 100000 in
set_option maxHeartbeats 8000000 in
theorem dChain_ok (tha : Option Addr) (nt ct : Nat) (th : List Nat) (W H : Nat) (a : Option Addr) (n c : Nat) (tie : List Bool) (tra : Option Addr) (nr cr : Nat) (tr : List Nat) (w : World) (hth : IsInts w tha nt (natI th)) (htr : IsInts w tra nr (natI tr)) (hT : OkT w a n c tie) (hW : W ≤ 64) (hH : H ≤ 64) (hn : n = W * H) (hnt : th.length = nt) (hnr : tr.length = nr) (k1 : 0 < nt) (k2 : nt ≤ 64) (k3 : 0 < nr) (k4 : nr ≤ 64) (k5 : ∀ x ∈ th, x < W) (k6 : ∀ x ∈ tr, x < H) :
    Calls Tryd.prog 11 #[.agg #[.slice tha nt ct, .int .i64 (W), .int .i64 (H), .slice a n c, .slice tra nr cr]] w (ChainPost W H nt nr n (markL H tr) tie (turnL W nt (markL W th)) w) := by
  have hE : drE (natI th) (natI tr) W H n = 0 := drE_ok hW hH hn (by omega) (by omega) (by omega) (by omega) k5 k6
  have hn4 : n ≤ 4096 := by rw [hn]; exact mul64n hW hH
  have hW0 : 0 < W := Nat.lt_of_le_of_lt (Nat.zero_le _) (k5 _ (getD_memN (L := th) (j := 0) (by omega)))
  have hH0 : 0 < H := Nat.lt_of_le_of_lt (Nat.zero_le _) (k6 _ (getD_memN (L := tr) (j := 0) (by omega)))
  have hnp : 0 < n := by rw [hn]; exact Nat.mul_pos hW0 hH0
  have hn3 : 0 < W * nt := Nat.mul_pos hW0 k1
  have HD := Lib.hid (fun w x y => dWrong_any tha nt ct (natI th) W H a n c tra nr cr (natI tr) w x y (by omega) (by omega) (by omega) (by omega) (by omega))
  rw [hE] at HD
  have HM1 : Hid (∀ w, IsInts w tra nr (natI tr) → Calls Tryd.prog 29 #[.slice tra nr cr, .int .i64 (H)] w (MkPost H nr (H * nr) (markL H tr) w)) := Lib.hid fun w h => marked_ok tra nr cr tr H w h hnr k4 hH k6
  have HM2 : Hid (∀ w, IsInts w tha nt (natI th) → Calls Tryd.prog 29 #[.slice tha nt ct, .int .i64 (W)] w (MkPost W nt (W * nt) (markL W th) w)) := Lib.hid fun w h => marked_ok tha nt ct th W w h hnt k2 hW k5
  have HTN : Hid (∀ A C w, OkT w A (W * nt) C (markL W th) → Calls Tryd.prog 30 #[.agg #[.int .i64 (W), .int .i64 (nt), .slice A (W * nt) C]] w (TPost nt W (W * nt) (turnL W nt (markL W th)) w)) := Lib.hid fun A C w h => Turned_any W nt (W * nt) rfl A C (markL W th) w h hW k2
  have HT := Lib.hid hth; have HR := Lib.hid htr; have HB := Lib.hid hT
  generalize markL H tr = L1 at *
  generalize markL W th = L2 at *
  generalize turnL W nt L2 = L3 at *
  generalize hn1 : H * nr = n1 at *
  generalize hn3' : W * nt = n3 at *
  have HN1 := Lib.hid hn1; have HN3' := Lib.hid hn3'
  clear hn1 hn3'
  have HNP := Lib.hid hnp; have HN3 := Lib.hid hn3
  clear hth htr hT hnt hnr hn k5 k6 hE hnp hn3 hW0 hH0
  go_enter Tryd.func11, Tryd.ntmps11
  go_wp2_with fail
  refine (HD.out _ (HT.out.below blw) (HR.out.below blw)).mono ?_
  rintro r w1 ⟨rfl, hb⟩
  have hq1 := rowBelow ((((dF_alloc w (.slice tha nt ct) W H (.slice a n c) (.slice tra nr cr)).alloc (.cells #[.int .i64 (0), .int .i64 (0), .slice none 0 0] 33)).alloc (.cells #[.int .i64 (0), .int .i64 (0), .slice none 0 0] 33)).alloc (.cells #[.int .i64 (0), .int .i64 (0), .slice none 0 0] 33)) hb bnd
  have hx1 := rowBelow (((tF_alloc (w.alloc (.cells #[.slice tha nt ct, .int .i64 (W), .int .i64 (H), .slice a n c, .slice tra nr cr] 35)) 0 0 (.slice none 0 0) rfl).alloc (.cells #[.int .i64 (0), .int .i64 (0), .slice none 0 0] 33)).alloc (.cells #[.int .i64 (0), .int .i64 (0), .slice none 0 0] 33)) hb bnd
  have hy1 := rowBelow ((tF_alloc ((w.alloc (.cells #[.slice tha nt ct, .int .i64 (W), .int .i64 (H), .slice a n c, .slice tra nr cr] 35)).alloc (.cells #[.int .i64 (0), .int .i64 (0), .slice none 0 0] 33)) 0 0 (.slice none 0 0) rfl).alloc (.cells #[.int .i64 (0), .int .i64 (0), .slice none 0 0] 33)) hb bnd
  have hz1 := rowBelow (tF_alloc (((w.alloc (.cells #[.slice tha nt ct, .int .i64 (W), .int .i64 (H), .slice a n c, .slice tra nr cr] 35)).alloc (.cells #[.int .i64 (0), .int .i64 (0), .slice none 0 0] 33)).alloc (.cells #[.int .i64 (0), .int .i64 (0), .slice none 0 0] 33)) 0 0 (.slice none 0 0) rfl) hb bnd
  have hb1 : Below w.heap.size w w1 := blw
  have hs1 : w.heap.size + 1 + 1 + 1 + 1 ≤ w1.heap.size := by have := hb.size; simp at this; exact this
  rw [World.size_alloc] at hx1
  rw [World.size_alloc, World.size_alloc] at hy1
  rw [World.size_alloc, World.size_alloc, World.size_alloc] at hz1
  generalize hqe : w.heap.size = q at *
  have HQE := Lib.hid hqe
  clear hqe hb
  obtain ⟨b1, e1⟩ : ∃ b1, q + 1 = b1 := ⟨_, rfl⟩
  rw [e1] at hx1 hy1 hz1 hs1 ⊢
  obtain ⟨b2, e2⟩ : ∃ b2, b1 + 1 = b2 := ⟨_, rfl⟩
  rw [e2] at hy1 hz1 hs1 ⊢
  obtain ⟨b3, e3⟩ : ∃ b3, b2 + 1 = b3 := ⟨_, rfl⟩
  rw [e3] at hz1 hs1 ⊢
  have hord : q < b1 ∧ b1 < b2 ∧ b2 < b3 ∧ b3 < w1.heap.size := by omega
  clear e1 e2 e3 hs1
  have q0 : w1.cell? ⟨q, 0, none⟩ = some (.slice tha nt ct) := hq1.cell (i := 0) (by omega)
  have q1 : w1.cell? ⟨q, 1, none⟩ = some (.int .i64 (W)) := hq1.cell (i := 1) (by omega)
  have q2 : w1.cell? ⟨q, 2, none⟩ = some (.int .i64 (H)) := hq1.cell (i := 2) (by omega)
  have q3 : w1.cell? ⟨q, 3, none⟩ = some (.slice a n c) := hq1.cell (i := 3) (by omega)
  have q4 : w1.cell? ⟨q, 4, none⟩ = some (.slice tra nr cr) := hq1.cell (i := 4) (by omega)
  have lq : LtW q w1 := hq1.lt
  have HQ1 := Lib.hid hq1; have HX1 := Lib.hid hx1; have HY1 := Lib.hid hy1; have HZ1 := Lib.hid hz1; have HB1 := Lib.hid hb1
  clear hq1 hx1 hy1 hz1 hb1
  go_wp2_with fail
  refine (HM1.out _ (HR.out.below (by rw [HQE.out]; exact HB1.out))).mono ?_
  rintro r w2 ⟨A1, c1, rfl, hT1, hb2, hg1⟩
  have hx2 := rowBelow HX1.out hb2 (by omega)
  have c0x : (w2).cell? ⟨b1, 0, none⟩ = some (.int .i64 (0)) := (hx2).cell (i := 0) (by omega)
  have c1x : (w2).cell? ⟨b1, 1, none⟩ = some (.int .i64 (0)) := (hx2).cell (i := 1) (by omega)
  have c2x : (w2).cell? ⟨b1, 2, none⟩ = some (.slice none 0 0) := (hx2).cell (i := 2) (by omega)
  have lx : LtW (b1) (w2) := (hx2).lt
  have f0x := (hx2).frozen 0; have f1x := (hx2).frozen 1; have f2x := (hx2).frozen 2
  have HQ2 := Lib.hid (rowBelow HQ1.out hb2 (by omega)); have HX2 := Lib.hid hx2; have HY2 := Lib.hid (rowBelow HY1.out hb2 (by omega)); have HZ2 := Lib.hid (rowBelow HZ1.out hb2 (by omega))
  have HB2 : Hid (Below q w w2) := Lib.hid (HB1.out.trans (hb2.mono (by omega)))
  have HG1 : Hid (∀ b o, A1 = some ⟨b, o, none⟩ → b3 < b) := Lib.hid fun b o e => by have := hg1 b o e; omega
  have HT1 := Lib.hid hT1
  have hs2 := hb2.size
  clear q0 q1 q2 q3 q4 lq hx2 hb2 hg1 hT1 HQ1 HX1 HY1 HZ1 HB1
  go_upto_region 5 with fail
  have hx5 := tF_store (W := H) (H := nr) (v := .slice A1 n1 c1) HX2.out
  have BX := tst_bx w2 b1 H nr (.slice A1 n1 c1)
  generalize ((w2.setCell ⟨b1, 0, none⟩ (.int .i64 (H))).setCell ⟨b1, 1, none⟩ (.int .i64 (nr))).setCell ⟨b1, 2, none⟩ (.slice A1 n1 c1) = w5 at *
  have hq5 := BX.rowIs HQ2.out (by omega) (by omega)
  have HB5 : Hid (Below q w w5) := Lib.hid (HB2.out.trans (BX.below rfl (by omega) (by omega)))
  have HX5 := Lib.hid hx5; have HQ5 := Lib.hid hq5; have HY5 := Lib.hid (BX.rowIs HY2.out (by omega) (by omega)); have HZ5 := Lib.hid (BX.rowIs HZ2.out (by omega) (by omega))
  have HT5 := Lib.hid (BX.okT HT1.out rfl fun b o e => by have := HG1.out b o e; omega)
  have hs5 : w2.heap.size ≤ w5.heap.size := BX.size
  clear c0x c1x c2x lx f0x f1x f2x hx5 BX HQ2 HX2 HY2 HZ2 HB2 HT1
  have q0 : (w5).cell? ⟨q, 0, none⟩ = some (.slice tha nt ct) := (hq5).cell (i := 0) (by omega)
  have q1 : (w5).cell? ⟨q, 1, none⟩ = some (.int .i64 (W)) := (hq5).cell (i := 1) (by omega)
  have q2 : (w5).cell? ⟨q, 2, none⟩ = some (.int .i64 (H)) := (hq5).cell (i := 2) (by omega)
  have q3 : (w5).cell? ⟨q, 3, none⟩ = some (.slice a n c) := (hq5).cell (i := 3) (by omega)
  have q4 : (w5).cell? ⟨q, 4, none⟩ = some (.slice tra nr cr) := (hq5).cell (i := 4) (by omega)
  have lq : LtW q (w5) := (hq5).lt
  clear hq5
  go_wp2_with fail
  refine (HM2.out _ (HT.out.below (by rw [HQE.out]; exact HB5.out))).mono ?_
  rintro r w6 ⟨A2, c2, rfl, hT2, hb6, hg2⟩
  have hs6 := hb6.size
  have HT2 := Lib.hid hT2; have HB6 := Lib.hid hb6
  clear q0 q1 q2 q3 q4 lq hb6 hg2 hT2
  go_wp2_with fail
  refine (HTN.out _ _ _ HT2.out).mono ?_
  rintro r w7 ⟨g, rfl, hT3, hb7⟩
  have hb57 : Below w5.heap.size w5 w7 := HB6.out.trans (hb7.mono hs6)
  have hs7 := hb57.size
  have hx7 := rowBelow HX5.out hb57 (by omega)
  have hy7 := rowBelow HY5.out hb57 (by omega)
  have hz7 := rowBelow HZ5.out hb57 (by omega)
  have HQ7 := Lib.hid (rowBelow HQ5.out hb57 (by omega))
  have HT17 := Lib.hid (HT5.out.below hb57)
  have HB7 : Hid (Below q w w7) := Lib.hid (HB5.out.trans (hb57.mono (by omega)))
  have HG3 : Hid (g ≠ b1 ∧ g ≠ b2 ∧ g ≠ b3) := Lib.hid ⟨hT3.off_row HN3.out hx7 g 0 rfl, hT3.off_row HN3.out hy7 g 0 rfl, hT3.off_row HN3.out hz7 g 0 rfl⟩
  have HT37 := Lib.hid hT3
  have c0z : (w7).cell? ⟨b3, 0, none⟩ = some (.int .i64 (0)) := (hz7).cell (i := 0) (by omega)
  have c1z : (w7).cell? ⟨b3, 1, none⟩ = some (.int .i64 (0)) := (hz7).cell (i := 1) (by omega)
  have c2z : (w7).cell? ⟨b3, 2, none⟩ = some (.slice none 0 0) := (hz7).cell (i := 2) (by omega)
  have lz : LtW (b3) (w7) := (hz7).lt
  have f0z := (hz7).frozen 0; have f1z := (hz7).frozen 1; have f2z := (hz7).frozen 2
  have HX7 := Lib.hid hx7; have HY7 := Lib.hid hy7; have HZ7 := Lib.hid hz7
  clear hx7 hy7 hz7 hb7 hb57 hT3 HX5 HY5 HZ5 HQ5 HT5 HB5 HB6 HT2
  go_upto_region 6 with fail
  have hz8 := tF_store (W := nt) (H := W) (v := .slice (some ⟨g, 0, none⟩) n3 n3) HZ7.out
  have BX := tst_bx w7 b3 nt W (.slice (some ⟨g, 0, none⟩) n3 n3)
  generalize ((w7.setCell ⟨b3, 0, none⟩ (.int .i64 (nt))).setCell ⟨b3, 1, none⟩ (.int .i64 (W))).setCell ⟨b3, 2, none⟩ (.slice (some ⟨g, 0, none⟩) n3 n3) = w8 at *
  have hq8 := BX.rowIs HQ7.out (by omega) (by omega)
  have hx8 := BX.rowIs HX7.out (by omega) (by omega)
  have HB8 : Hid (Below q w w8) := Lib.hid (HB7.out.trans (BX.below rfl (by omega) (by omega)))
  have HY8 := Lib.hid (BX.rowIs HY7.out (by omega) (by omega))
  have HT18 := Lib.hid (BX.okT HT17.out rfl fun b o e => by have := HG1.out b o e; omega)
  have HT38 := Lib.hid (BX.okT HT37.out rfl fun b o e => by have := HG3.out; cases e; omega)
  have HTT := Lib.hid (HB.out.below (by rw [HQE.out]; exact HB8.out))
  have hs8 : w7.heap.size ≤ w8.heap.size := BX.size
  clear c0z c1z c2z lz f0z f1z f2z BX HX7 HY7 HZ7 HQ7 HT17 HT37 HB7
  have HCS : Hid (ChS q b1 b3 (dF (.slice tha nt ct) W H (.slice a n c) (.slice tra nr cr)) (tF H nr (.slice A1 n1 c1)) (tF nt W (.slice (some ⟨g, 0, none⟩) n3 n3)) w8) := Lib.hid ⟨hq8, hx8, hz8⟩
  have hlt8 : b3 < w8.heap.size := hz8.lt
  clear hq8 hx8 hz8
  go_upto_region 6 with fail
  refine wp_region_any (by kernel_rfl) ?_
  refine anyT_any (S := ChS q b1 b3 (dF (.slice tha nt ct) W H (.slice a n c) (.slice tra nr cr)) (tF H nr (.slice A1 n1 c1)) (tF nt W (.slice (some ⟨g, 0, none⟩) n3 n3))) (stop := fun _ => false) _ _ _ _ ?_
  (refine anyT_take (i := 0) (.agg #[.int .i64 (H), .int .i64 (nr), .slice A1 n1 c1]) rfl (by kernel_rfl) (fun c a w h => by (simp (config := {zetaDelta := true}) [Exit.then, bodyPost, go_sem, ChainPost] at h; done)) (.inl ⟨by simp [Region.wanted], fun wx hx => ?_⟩) HCS.out ?_; · obtain ⟨r1, r2, r3⟩ := hx; have u0 : wx.cell? ⟨q, 0, none⟩ = some (.slice tha nt ct) := r1.cell (i := 0) (by omega); have u1 : wx.cell? ⟨q, 1, none⟩ = some (.int .i64 (W)) := r1.cell (i := 1) (by omega); have u2 : wx.cell? ⟨q, 2, none⟩ = some (.int .i64 (H)) := r1.cell (i := 2) (by omega); have u3 : wx.cell? ⟨q, 3, none⟩ = some (.slice a n c) := r1.cell (i := 3) (by omega); have u4 : wx.cell? ⟨q, 4, none⟩ = some (.slice tra nr cr) := r1.cell (i := 4) (by omega); have y0 : wx.cell? ⟨b1, 0, none⟩ = some (.int .i64 (H)) := r2.cell (i := 0) (by omega); have y1 : wx.cell? ⟨b1, 1, none⟩ = some (.int .i64 (nr)) := r2.cell (i := 1) (by omega); have y2 : wx.cell? ⟨b1, 2, none⟩ = some (.slice A1 n1 c1) := r2.cell (i := 2) (by omega); have z0 : wx.cell? ⟨b3, 0, none⟩ = some (.int .i64 (nt)) := r3.cell (i := 0) (by omega); have z1 : wx.cell? ⟨b3, 1, none⟩ = some (.int .i64 (W)) := r3.cell (i := 1) (by omega); have z2 : wx.cell? ⟨b3, 2, none⟩ = some (.slice (some ⟨g, 0, none⟩) n3 n3) := r3.cell (i := 2) (by omega); have l1 : LtW q wx := r1.lt; have l2 : LtW b1 wx := r2.lt; have l3 : LtW b3 wx := r3.lt; clear r1 r2 r3; go_simp); go_simp
  (refine anyT_take (i := 1) (.pointer (some ⟨q, 1, none⟩)) rfl (by kernel_rfl) (fun c a w h => by (simp (config := {zetaDelta := true}) [Exit.then, bodyPost, go_sem, ChainPost] at h; done)) (.inl ⟨by simp [Region.wanted], fun wx hx => ?_⟩) HCS.out ?_; · obtain ⟨r1, r2, r3⟩ := hx; have u0 : wx.cell? ⟨q, 0, none⟩ = some (.slice tha nt ct) := r1.cell (i := 0) (by omega); have u1 : wx.cell? ⟨q, 1, none⟩ = some (.int .i64 (W)) := r1.cell (i := 1) (by omega); have u2 : wx.cell? ⟨q, 2, none⟩ = some (.int .i64 (H)) := r1.cell (i := 2) (by omega); have u3 : wx.cell? ⟨q, 3, none⟩ = some (.slice a n c) := r1.cell (i := 3) (by omega); have u4 : wx.cell? ⟨q, 4, none⟩ = some (.slice tra nr cr) := r1.cell (i := 4) (by omega); have y0 : wx.cell? ⟨b1, 0, none⟩ = some (.int .i64 (H)) := r2.cell (i := 0) (by omega); have y1 : wx.cell? ⟨b1, 1, none⟩ = some (.int .i64 (nr)) := r2.cell (i := 1) (by omega); have y2 : wx.cell? ⟨b1, 2, none⟩ = some (.slice A1 n1 c1) := r2.cell (i := 2) (by omega); have z0 : wx.cell? ⟨b3, 0, none⟩ = some (.int .i64 (nt)) := r3.cell (i := 0) (by omega); have z1 : wx.cell? ⟨b3, 1, none⟩ = some (.int .i64 (W)) := r3.cell (i := 1) (by omega); have z2 : wx.cell? ⟨b3, 2, none⟩ = some (.slice (some ⟨g, 0, none⟩) n3 n3) := r3.cell (i := 2) (by omega); have l1 : LtW q wx := r1.lt; have l2 : LtW b1 wx := r2.lt; have l3 : LtW b3 wx := r3.lt; clear r1 r2 r3; go_simp); go_simp
  (refine anyT_take (i := 2) (.pointer (some ⟨q, 1, none⟩)) rfl (by kernel_rfl) (fun c a w h => by (simp (config := {zetaDelta := true}) [Exit.then, bodyPost, go_sem, ChainPost] at h; done)) (.inl ⟨by simp [Region.wanted], fun wx hx => ?_⟩) HCS.out ?_; · obtain ⟨r1, r2, r3⟩ := hx; have u0 : wx.cell? ⟨q, 0, none⟩ = some (.slice tha nt ct) := r1.cell (i := 0) (by omega); have u1 : wx.cell? ⟨q, 1, none⟩ = some (.int .i64 (W)) := r1.cell (i := 1) (by omega); have u2 : wx.cell? ⟨q, 2, none⟩ = some (.int .i64 (H)) := r1.cell (i := 2) (by omega); have u3 : wx.cell? ⟨q, 3, none⟩ = some (.slice a n c) := r1.cell (i := 3) (by omega); have u4 : wx.cell? ⟨q, 4, none⟩ = some (.slice tra nr cr) := r1.cell (i := 4) (by omega); have y0 : wx.cell? ⟨b1, 0, none⟩ = some (.int .i64 (H)) := r2.cell (i := 0) (by omega); have y1 : wx.cell? ⟨b1, 1, none⟩ = some (.int .i64 (nr)) := r2.cell (i := 1) (by omega); have y2 : wx.cell? ⟨b1, 2, none⟩ = some (.slice A1 n1 c1) := r2.cell (i := 2) (by omega); have z0 : wx.cell? ⟨b3, 0, none⟩ = some (.int .i64 (nt)) := r3.cell (i := 0) (by omega); have z1 : wx.cell? ⟨b3, 1, none⟩ = some (.int .i64 (W)) := r3.cell (i := 1) (by omega); have z2 : wx.cell? ⟨b3, 2, none⟩ = some (.slice (some ⟨g, 0, none⟩) n3 n3) := r3.cell (i := 2) (by omega); have l1 : LtW q wx := r1.lt; have l2 : LtW b1 wx := r2.lt; have l3 : LtW b3 wx := r3.lt; clear r1 r2 r3; go_simp); go_simp
  (refine anyT_take (i := 3) (.int .i64 (W)) rfl (by kernel_rfl) (fun c a w h => by (simp (config := {zetaDelta := true}) [Exit.then, bodyPost, go_sem, ChainPost] at h; done)) (.inl ⟨by simp [Region.wanted], fun wx hx => ?_⟩) HCS.out ?_; · obtain ⟨r1, r2, r3⟩ := hx; have u0 : wx.cell? ⟨q, 0, none⟩ = some (.slice tha nt ct) := r1.cell (i := 0) (by omega); have u1 : wx.cell? ⟨q, 1, none⟩ = some (.int .i64 (W)) := r1.cell (i := 1) (by omega); have u2 : wx.cell? ⟨q, 2, none⟩ = some (.int .i64 (H)) := r1.cell (i := 2) (by omega); have u3 : wx.cell? ⟨q, 3, none⟩ = some (.slice a n c) := r1.cell (i := 3) (by omega); have u4 : wx.cell? ⟨q, 4, none⟩ = some (.slice tra nr cr) := r1.cell (i := 4) (by omega); have y0 : wx.cell? ⟨b1, 0, none⟩ = some (.int .i64 (H)) := r2.cell (i := 0) (by omega); have y1 : wx.cell? ⟨b1, 1, none⟩ = some (.int .i64 (nr)) := r2.cell (i := 1) (by omega); have y2 : wx.cell? ⟨b1, 2, none⟩ = some (.slice A1 n1 c1) := r2.cell (i := 2) (by omega); have z0 : wx.cell? ⟨b3, 0, none⟩ = some (.int .i64 (nt)) := r3.cell (i := 0) (by omega); have z1 : wx.cell? ⟨b3, 1, none⟩ = some (.int .i64 (W)) := r3.cell (i := 1) (by omega); have z2 : wx.cell? ⟨b3, 2, none⟩ = some (.slice (some ⟨g, 0, none⟩) n3 n3) := r3.cell (i := 2) (by omega); have l1 : LtW q wx := r1.lt; have l2 : LtW b1 wx := r2.lt; have l3 : LtW b3 wx := r3.lt; clear r1 r2 r3; go_simp); go_simp
  (refine anyT_take (i := 4) (.pointer (some ⟨q, 1, none⟩)) rfl (by kernel_rfl) (fun c a w h => by (simp (config := {zetaDelta := true}) [Exit.then, bodyPost, go_sem, ChainPost] at h; done)) (.inl ⟨by simp [Region.wanted], fun wx hx => ?_⟩) HCS.out ?_; · obtain ⟨r1, r2, r3⟩ := hx; have u0 : wx.cell? ⟨q, 0, none⟩ = some (.slice tha nt ct) := r1.cell (i := 0) (by omega); have u1 : wx.cell? ⟨q, 1, none⟩ = some (.int .i64 (W)) := r1.cell (i := 1) (by omega); have u2 : wx.cell? ⟨q, 2, none⟩ = some (.int .i64 (H)) := r1.cell (i := 2) (by omega); have u3 : wx.cell? ⟨q, 3, none⟩ = some (.slice a n c) := r1.cell (i := 3) (by omega); have u4 : wx.cell? ⟨q, 4, none⟩ = some (.slice tra nr cr) := r1.cell (i := 4) (by omega); have y0 : wx.cell? ⟨b1, 0, none⟩ = some (.int .i64 (H)) := r2.cell (i := 0) (by omega); have y1 : wx.cell? ⟨b1, 1, none⟩ = some (.int .i64 (nr)) := r2.cell (i := 1) (by omega); have y2 : wx.cell? ⟨b1, 2, none⟩ = some (.slice A1 n1 c1) := r2.cell (i := 2) (by omega); have z0 : wx.cell? ⟨b3, 0, none⟩ = some (.int .i64 (nt)) := r3.cell (i := 0) (by omega); have z1 : wx.cell? ⟨b3, 1, none⟩ = some (.int .i64 (W)) := r3.cell (i := 1) (by omega); have z2 : wx.cell? ⟨b3, 2, none⟩ = some (.slice (some ⟨g, 0, none⟩) n3 n3) := r3.cell (i := 2) (by omega); have l1 : LtW q wx := r1.lt; have l2 : LtW b1 wx := r2.lt; have l3 : LtW b3 wx := r3.lt; clear r1 r2 r3; go_simp); go_simp
  (refine anyT_take (i := 5) (.pointer (some ⟨q, 2, none⟩)) rfl (by kernel_rfl) (fun c a w h => by (simp (config := {zetaDelta := true}) [Exit.then, bodyPost, go_sem, ChainPost] at h; done)) (.inl ⟨by simp [Region.wanted], fun wx hx => ?_⟩) HCS.out ?_; · obtain ⟨r1, r2, r3⟩ := hx; have u0 : wx.cell? ⟨q, 0, none⟩ = some (.slice tha nt ct) := r1.cell (i := 0) (by omega); have u1 : wx.cell? ⟨q, 1, none⟩ = some (.int .i64 (W)) := r1.cell (i := 1) (by omega); have u2 : wx.cell? ⟨q, 2, none⟩ = some (.int .i64 (H)) := r1.cell (i := 2) (by omega); have u3 : wx.cell? ⟨q, 3, none⟩ = some (.slice a n c) := r1.cell (i := 3) (by omega); have u4 : wx.cell? ⟨q, 4, none⟩ = some (.slice tra nr cr) := r1.cell (i := 4) (by omega); have y0 : wx.cell? ⟨b1, 0, none⟩ = some (.int .i64 (H)) := r2.cell (i := 0) (by omega); have y1 : wx.cell? ⟨b1, 1, none⟩ = some (.int .i64 (nr)) := r2.cell (i := 1) (by omega); have y2 : wx.cell? ⟨b1, 2, none⟩ = some (.slice A1 n1 c1) := r2.cell (i := 2) (by omega); have z0 : wx.cell? ⟨b3, 0, none⟩ = some (.int .i64 (nt)) := r3.cell (i := 0) (by omega); have z1 : wx.cell? ⟨b3, 1, none⟩ = some (.int .i64 (W)) := r3.cell (i := 1) (by omega); have z2 : wx.cell? ⟨b3, 2, none⟩ = some (.slice (some ⟨g, 0, none⟩) n3 n3) := r3.cell (i := 2) (by omega); have l1 : LtW q wx := r1.lt; have l2 : LtW b1 wx := r2.lt; have l3 : LtW b3 wx := r3.lt; clear r1 r2 r3; go_simp); go_simp
  (refine anyT_take (i := 6) (.int .i64 (H)) rfl (by kernel_rfl) (fun c a w h => by (simp (config := {zetaDelta := true}) [Exit.then, bodyPost, go_sem, ChainPost] at h; done)) (.inl ⟨by simp [Region.wanted], fun wx hx => ?_⟩) HCS.out ?_; · obtain ⟨r1, r2, r3⟩ := hx; have u0 : wx.cell? ⟨q, 0, none⟩ = some (.slice tha nt ct) := r1.cell (i := 0) (by omega); have u1 : wx.cell? ⟨q, 1, none⟩ = some (.int .i64 (W)) := r1.cell (i := 1) (by omega); have u2 : wx.cell? ⟨q, 2, none⟩ = some (.int .i64 (H)) := r1.cell (i := 2) (by omega); have u3 : wx.cell? ⟨q, 3, none⟩ = some (.slice a n c) := r1.cell (i := 3) (by omega); have u4 : wx.cell? ⟨q, 4, none⟩ = some (.slice tra nr cr) := r1.cell (i := 4) (by omega); have y0 : wx.cell? ⟨b1, 0, none⟩ = some (.int .i64 (H)) := r2.cell (i := 0) (by omega); have y1 : wx.cell? ⟨b1, 1, none⟩ = some (.int .i64 (nr)) := r2.cell (i := 1) (by omega); have y2 : wx.cell? ⟨b1, 2, none⟩ = some (.slice A1 n1 c1) := r2.cell (i := 2) (by omega); have z0 : wx.cell? ⟨b3, 0, none⟩ = some (.int .i64 (nt)) := r3.cell (i := 0) (by omega); have z1 : wx.cell? ⟨b3, 1, none⟩ = some (.int .i64 (W)) := r3.cell (i := 1) (by omega); have z2 : wx.cell? ⟨b3, 2, none⟩ = some (.slice (some ⟨g, 0, none⟩) n3 n3) := r3.cell (i := 2) (by omega); have l1 : LtW q wx := r1.lt; have l2 : LtW b1 wx := r2.lt; have l3 : LtW b3 wx := r3.lt; clear r1 r2 r3; go_simp); go_simp
  (refine anyT_take (i := 7) (.pointer (some ⟨q, 1, none⟩)) rfl (by kernel_rfl) (fun c a w h => by (simp (config := {zetaDelta := true}) [Exit.then, bodyPost, go_sem, ChainPost] at h; done)) (.inl ⟨by simp [Region.wanted], fun wx hx => ?_⟩) HCS.out ?_; · obtain ⟨r1, r2, r3⟩ := hx; have u0 : wx.cell? ⟨q, 0, none⟩ = some (.slice tha nt ct) := r1.cell (i := 0) (by omega); have u1 : wx.cell? ⟨q, 1, none⟩ = some (.int .i64 (W)) := r1.cell (i := 1) (by omega); have u2 : wx.cell? ⟨q, 2, none⟩ = some (.int .i64 (H)) := r1.cell (i := 2) (by omega); have u3 : wx.cell? ⟨q, 3, none⟩ = some (.slice a n c) := r1.cell (i := 3) (by omega); have u4 : wx.cell? ⟨q, 4, none⟩ = some (.slice tra nr cr) := r1.cell (i := 4) (by omega); have y0 : wx.cell? ⟨b1, 0, none⟩ = some (.int .i64 (H)) := r2.cell (i := 0) (by omega); have y1 : wx.cell? ⟨b1, 1, none⟩ = some (.int .i64 (nr)) := r2.cell (i := 1) (by omega); have y2 : wx.cell? ⟨b1, 2, none⟩ = some (.slice A1 n1 c1) := r2.cell (i := 2) (by omega); have z0 : wx.cell? ⟨b3, 0, none⟩ = some (.int .i64 (nt)) := r3.cell (i := 0) (by omega); have z1 : wx.cell? ⟨b3, 1, none⟩ = some (.int .i64 (W)) := r3.cell (i := 1) (by omega); have z2 : wx.cell? ⟨b3, 2, none⟩ = some (.slice (some ⟨g, 0, none⟩) n3 n3) := r3.cell (i := 2) (by omega); have l1 : LtW q wx := r1.lt; have l2 : LtW b1 wx := r2.lt; have l3 : LtW b3 wx := r3.lt; clear r1 r2 r3; go_simp); go_simp
  (refine anyT_take (i := 8) (.pointer (some ⟨q, 3, none⟩)) rfl (by kernel_rfl) (fun c a w h => by (simp (config := {zetaDelta := true}) [Exit.then, bodyPost, go_sem, ChainPost] at h; done)) (.inl ⟨by simp [Region.wanted], fun wx hx => ?_⟩) HCS.out ?_; · obtain ⟨r1, r2, r3⟩ := hx; have u0 : wx.cell? ⟨q, 0, none⟩ = some (.slice tha nt ct) := r1.cell (i := 0) (by omega); have u1 : wx.cell? ⟨q, 1, none⟩ = some (.int .i64 (W)) := r1.cell (i := 1) (by omega); have u2 : wx.cell? ⟨q, 2, none⟩ = some (.int .i64 (H)) := r1.cell (i := 2) (by omega); have u3 : wx.cell? ⟨q, 3, none⟩ = some (.slice a n c) := r1.cell (i := 3) (by omega); have u4 : wx.cell? ⟨q, 4, none⟩ = some (.slice tra nr cr) := r1.cell (i := 4) (by omega); have y0 : wx.cell? ⟨b1, 0, none⟩ = some (.int .i64 (H)) := r2.cell (i := 0) (by omega); have y1 : wx.cell? ⟨b1, 1, none⟩ = some (.int .i64 (nr)) := r2.cell (i := 1) (by omega); have y2 : wx.cell? ⟨b1, 2, none⟩ = some (.slice A1 n1 c1) := r2.cell (i := 2) (by omega); have z0 : wx.cell? ⟨b3, 0, none⟩ = some (.int .i64 (nt)) := r3.cell (i := 0) (by omega); have z1 : wx.cell? ⟨b3, 1, none⟩ = some (.int .i64 (W)) := r3.cell (i := 1) (by omega); have z2 : wx.cell? ⟨b3, 2, none⟩ = some (.slice (some ⟨g, 0, none⟩) n3 n3) := r3.cell (i := 2) (by omega); have l1 : LtW q wx := r1.lt; have l2 : LtW b1 wx := r2.lt; have l3 : LtW b3 wx := r3.lt; clear r1 r2 r3; go_simp); go_simp
  (refine anyT_take (i := 9) (.slice a n c) rfl (by kernel_rfl) (fun c a w h => by (simp (config := {zetaDelta := true}) [Exit.then, bodyPost, go_sem, ChainPost] at h; done)) (.inl ⟨by simp [Region.wanted], fun wx hx => ?_⟩) HCS.out ?_; · obtain ⟨r1, r2, r3⟩ := hx; have u0 : wx.cell? ⟨q, 0, none⟩ = some (.slice tha nt ct) := r1.cell (i := 0) (by omega); have u1 : wx.cell? ⟨q, 1, none⟩ = some (.int .i64 (W)) := r1.cell (i := 1) (by omega); have u2 : wx.cell? ⟨q, 2, none⟩ = some (.int .i64 (H)) := r1.cell (i := 2) (by omega); have u3 : wx.cell? ⟨q, 3, none⟩ = some (.slice a n c) := r1.cell (i := 3) (by omega); have u4 : wx.cell? ⟨q, 4, none⟩ = some (.slice tra nr cr) := r1.cell (i := 4) (by omega); have y0 : wx.cell? ⟨b1, 0, none⟩ = some (.int .i64 (H)) := r2.cell (i := 0) (by omega); have y1 : wx.cell? ⟨b1, 1, none⟩ = some (.int .i64 (nr)) := r2.cell (i := 1) (by omega); have y2 : wx.cell? ⟨b1, 2, none⟩ = some (.slice A1 n1 c1) := r2.cell (i := 2) (by omega); have z0 : wx.cell? ⟨b3, 0, none⟩ = some (.int .i64 (nt)) := r3.cell (i := 0) (by omega); have z1 : wx.cell? ⟨b3, 1, none⟩ = some (.int .i64 (W)) := r3.cell (i := 1) (by omega); have z2 : wx.cell? ⟨b3, 2, none⟩ = some (.slice (some ⟨g, 0, none⟩) n3 n3) := r3.cell (i := 2) (by omega); have l1 : LtW q wx := r1.lt; have l2 : LtW b1 wx := r2.lt; have l3 : LtW b3 wx := r3.lt; clear r1 r2 r3; go_simp); go_simp
  (refine anyT_take (i := 12) (.agg #[.int .i64 (nt), .int .i64 (W), .slice (some ⟨g, 0, none⟩) n3 n3]) rfl (by kernel_rfl) (fun c a w h => by (simp (config := {zetaDelta := true}) [Exit.then, bodyPost, go_sem, ChainPost] at h; done)) (.inl ⟨by simp [Region.wanted], fun wx hx => ?_⟩) HCS.out ?_; · obtain ⟨r1, r2, r3⟩ := hx; have u0 : wx.cell? ⟨q, 0, none⟩ = some (.slice tha nt ct) := r1.cell (i := 0) (by omega); have u1 : wx.cell? ⟨q, 1, none⟩ = some (.int .i64 (W)) := r1.cell (i := 1) (by omega); have u2 : wx.cell? ⟨q, 2, none⟩ = some (.int .i64 (H)) := r1.cell (i := 2) (by omega); have u3 : wx.cell? ⟨q, 3, none⟩ = some (.slice a n c) := r1.cell (i := 3) (by omega); have u4 : wx.cell? ⟨q, 4, none⟩ = some (.slice tra nr cr) := r1.cell (i := 4) (by omega); have y0 : wx.cell? ⟨b1, 0, none⟩ = some (.int .i64 (H)) := r2.cell (i := 0) (by omega); have y1 : wx.cell? ⟨b1, 1, none⟩ = some (.int .i64 (nr)) := r2.cell (i := 1) (by omega); have y2 : wx.cell? ⟨b1, 2, none⟩ = some (.slice A1 n1 c1) := r2.cell (i := 2) (by omega); have z0 : wx.cell? ⟨b3, 0, none⟩ = some (.int .i64 (nt)) := r3.cell (i := 0) (by omega); have z1 : wx.cell? ⟨b3, 1, none⟩ = some (.int .i64 (W)) := r3.cell (i := 1) (by omega); have z2 : wx.cell? ⟨b3, 2, none⟩ = some (.slice (some ⟨g, 0, none⟩) n3 n3) := r3.cell (i := 2) (by omega); have l1 : LtW q wx := r1.lt; have l2 : LtW b1 wx := r2.lt; have l3 : LtW b3 wx := r3.lt; clear r1 r2 r3; go_simp); go_simp
  refine anyT_one (i := 10) (by kernel_rfl) rfl rfl ?_
  refine opAppBs (.const (.slice none 0 0)) (.tmp 40) rfl a c n tie rfl rfl HNP.out hn4 (HTT.out.bits.below blw) ?_
  intro v' w9 hown9 hb9
  have hb9 : Below w8.heap.size w8 w9 := Below.trans blw (hb9.mono bnd)
  have hown9 : w9.ownsRow w8.heap.size 4 1 v' n (tie.map Value.bool) := hown9
  have hlen : tie.length = n := HTT.out.bits.1
  rw [← hlen] at hown9
  obtain ⟨A4, c4, rfl, hT4, hg4⟩ := OkT.of_owns hown9
  rw [hlen] at hT4 ⊢
  have hy9 := rowBelow HY8.out hb9 (by omega)
  have HCS : Hid (ChS q b1 b3 (dF (.slice tha nt ct) W H (.slice a n c) (.slice tra nr cr)) (tF H nr (.slice A1 n1 c1)) (tF nt W (.slice (some ⟨g, 0, none⟩) n3 n3)) w9) := Lib.hid ⟨rowBelow HCS.out.1 hb9 (by omega), rowBelow HCS.out.2.1 hb9 (by omega), rowBelow HCS.out.2.2 hb9 (by omega)⟩
  have HT19 := Lib.hid (HT18.out.below hb9)
  have HT39 := Lib.hid (HT38.out.below hb9)
  have HT49 := Lib.hid hT4
  have HG4 : Hid (∀ b o, A4 = some ⟨b, o, none⟩ → b3 < b) := Lib.hid fun b o e => by have := hg4 b o e; omega
  have HB9 : Hid (Below q w w9) := Lib.hid (HB8.out.trans (hb9.mono (by omega)))
  have hs9 := hb9.size
  clear hown9 hb9 hT4 hg4 HT18 HT38 HTT HB8 hlen
  refine ⟨fun _ => HCS.out, ?_⟩
  go_simp
  (refine anyT_take (i := 11) (.agg #[.int .i64 (W), .int .i64 (H), .slice A4 n c4]) rfl (by kernel_rfl) (fun c a w h => by (simp (config := {zetaDelta := true}) [Exit.then, bodyPost, go_sem, ChainPost] at h; done)) (.inl ⟨by simp [Region.wanted], fun wx hx => ?_⟩) HCS.out ?_; · obtain ⟨r1, r2, r3⟩ := hx; have u0 : wx.cell? ⟨q, 0, none⟩ = some (.slice tha nt ct) := r1.cell (i := 0) (by omega); have u1 : wx.cell? ⟨q, 1, none⟩ = some (.int .i64 (W)) := r1.cell (i := 1) (by omega); have u2 : wx.cell? ⟨q, 2, none⟩ = some (.int .i64 (H)) := r1.cell (i := 2) (by omega); have u3 : wx.cell? ⟨q, 3, none⟩ = some (.slice a n c) := r1.cell (i := 3) (by omega); have u4 : wx.cell? ⟨q, 4, none⟩ = some (.slice tra nr cr) := r1.cell (i := 4) (by omega); have y0 : wx.cell? ⟨b1, 0, none⟩ = some (.int .i64 (H)) := r2.cell (i := 0) (by omega); have y1 : wx.cell? ⟨b1, 1, none⟩ = some (.int .i64 (nr)) := r2.cell (i := 1) (by omega); have y2 : wx.cell? ⟨b1, 2, none⟩ = some (.slice A1 n1 c1) := r2.cell (i := 2) (by omega); have z0 : wx.cell? ⟨b3, 0, none⟩ = some (.int .i64 (nt)) := r3.cell (i := 0) (by omega); have z1 : wx.cell? ⟨b3, 1, none⟩ = some (.int .i64 (W)) := r3.cell (i := 1) (by omega); have z2 : wx.cell? ⟨b3, 2, none⟩ = some (.slice (some ⟨g, 0, none⟩) n3 n3) := r3.cell (i := 2) (by omega); have l1 : LtW q wx := r1.lt; have l2 : LtW b1 wx := r2.lt; have l3 : LtW b3 wx := r3.lt; clear r1 r2 r3; go_simp); go_simp
  refine anyT_one (i := 13) (by kernel_rfl) rfl rfl ?_
  have hx9 := HCS.out.2.1
  have c0x : (w9).cell? ⟨b1, 0, none⟩ = some (.int .i64 (H)) := (hx9).cell (i := 0) (by omega)
  have c1x : (w9).cell? ⟨b1, 1, none⟩ = some (.int .i64 (nr)) := (hx9).cell (i := 1) (by omega)
  have c2x : (w9).cell? ⟨b1, 2, none⟩ = some (.slice A1 n1 c1) := (hx9).cell (i := 2) (by omega)
  have lx : LtW (b1) (w9) := (hx9).lt
  have f0x := (hx9).frozen 0; have f1x := (hx9).frozen 1; have f2x := (hx9).frozen 2
  go_simp
  have hx10 := tF_store (W := H) (H := nr) (v := .slice A1 n1 c1) hx9
  have BX := tst_bx w9 b1 H nr (.slice A1 n1 c1)
  clear c0x c1x c2x lx f0x f1x f2x hx9
  generalize ((w9.setCell ⟨b1, 0, none⟩ (.int .i64 (H))).setCell ⟨b1, 1, none⟩ (.int .i64 (nr))).setCell ⟨b1, 2, none⟩ (.slice A1 n1 c1) = w10 at *
  have hy10 := BX.rowIs hy9 (by omega) (by omega)
  have HCS10 : Hid (ChS q b1 b3 (dF (.slice tha nt ct) W H (.slice a n c) (.slice tra nr cr)) (tF H nr (.slice A1 n1 c1)) (tF nt W (.slice (some ⟨g, 0, none⟩) n3 n3)) w10) := Lib.hid ⟨BX.rowIs HCS.out.1 (by omega) (by omega), hx10, BX.rowIs HCS.out.2.2 (by omega) (by omega)⟩
  have HT110 := Lib.hid (BX.okT HT19.out rfl fun b o e => by have := HG1.out b o e; omega)
  have HT310 := Lib.hid (BX.okT HT39.out rfl fun b o e => by have := HG3.out; cases e; omega)
  have HT410 := Lib.hid (BX.okT HT49.out rfl fun b o e => by have := HG4.out b o e; omega)
  have HB10 : Hid (Below q w w10) := Lib.hid (HB9.out.trans (BX.below rfl (by omega) (by omega)))
  have hs10 : w9.heap.size ≤ w10.heap.size := BX.size
  clear BX hx10 hy9 HCS HT19 HT39 HT49 HB9
  refine ⟨HCS10.out, ?_⟩
  refine anyT_one (i := 14) (by kernel_rfl) rfl rfl ?_
  have c0y : (w10).cell? ⟨b2, 0, none⟩ = some (.int .i64 (0)) := (hy10).cell (i := 0) (by omega)
  have c1y : (w10).cell? ⟨b2, 1, none⟩ = some (.int .i64 (0)) := (hy10).cell (i := 1) (by omega)
  have c2y : (w10).cell? ⟨b2, 2, none⟩ = some (.slice none 0 0) := (hy10).cell (i := 2) (by omega)
  have ly : LtW (b2) (w10) := (hy10).lt
  have f0y := (hy10).frozen 0; have f1y := (hy10).frozen 1; have f2y := (hy10).frozen 2
  go_simp
  have hy11 := tF_store (W := W) (H := H) (v := .slice A4 n c4) hy10
  have BX := tst_bx w10 b2 W H (.slice A4 n c4)
  clear c0y c1y c2y ly f0y f1y f2y hy10
  generalize ((w10.setCell ⟨b2, 0, none⟩ (.int .i64 (W))).setCell ⟨b2, 1, none⟩ (.int .i64 (H))).setCell ⟨b2, 2, none⟩ (.slice A4 n c4) = w11 at *
  have HCS11 : Hid (ChS q b1 b3 (dF (.slice tha nt ct) W H (.slice a n c) (.slice tra nr cr)) (tF H nr (.slice A1 n1 c1)) (tF nt W (.slice (some ⟨g, 0, none⟩) n3 n3)) w11) := Lib.hid ⟨BX.rowIs HCS10.out.1 (by omega) (by omega), BX.rowIs HCS10.out.2.1 (by omega) (by omega), BX.rowIs HCS10.out.2.2 (by omega) (by omega)⟩
  have HT111 := Lib.hid (BX.okT HT110.out rfl fun b o e => by have := HG1.out b o e; omega)
  have HT311 := Lib.hid (BX.okT HT310.out rfl fun b o e => by have := HG3.out; cases e; omega)
  have HT411 := Lib.hid (BX.okT HT410.out rfl fun b o e => by have := HG4.out b o e; omega)
  have HB11 : Hid (Below q w w11) := Lib.hid (HB10.out.trans (BX.below rfl (by omega) (by omega)))
  have hs11 : w10.heap.size ≤ w11.heap.size := BX.size
  clear BX HCS10 HT110 HT310 HT410 HB10
  refine ⟨HCS11.out, ?_⟩
  refine anyT_one (i := 15) (by kernel_rfl) rfl rfl ?_
  have hz11 := HCS11.out.2.2
  have c0z : (w11).cell? ⟨b3, 0, none⟩ = some (.int .i64 (nt)) := (hz11).cell (i := 0) (by omega)
  have c1z : (w11).cell? ⟨b3, 1, none⟩ = some (.int .i64 (W)) := (hz11).cell (i := 1) (by omega)
  have c2z : (w11).cell? ⟨b3, 2, none⟩ = some (.slice (some ⟨g, 0, none⟩) n3 n3) := (hz11).cell (i := 2) (by omega)
  have lz : LtW (b3) (w11) := (hz11).lt
  have f0z := (hz11).frozen 0; have f1z := (hz11).frozen 1; have f2z := (hz11).frozen 2
  go_simp
  have hz12 := tF_store (W := nt) (H := W) (v := .slice (some ⟨g, 0, none⟩) n3 n3) hz11
  have BX := tst_bx w11 b3 nt W (.slice (some ⟨g, 0, none⟩) n3 n3)
  clear c0z c1z c2z lz f0z f1z f2z hz11
  generalize ((w11.setCell ⟨b3, 0, none⟩ (.int .i64 (nt))).setCell ⟨b3, 1, none⟩ (.int .i64 (W))).setCell ⟨b3, 2, none⟩ (.slice (some ⟨g, 0, none⟩) n3 n3) = w12 at *
  have hy12 := BX.rowIs hy11 (by omega) (by omega)
  have hx12 := BX.rowIs HCS11.out.2.1 (by omega) (by omega)
  have HCS12 : Hid (ChS q b1 b3 (dF (.slice tha nt ct) W H (.slice a n c) (.slice tra nr cr)) (tF H nr (.slice A1 n1 c1)) (tF nt W (.slice (some ⟨g, 0, none⟩) n3 n3)) w12) := Lib.hid ⟨BX.rowIs HCS11.out.1 (by omega) (by omega), hx12, hz12⟩
  have HT112 := Lib.hid (BX.okT HT111.out rfl fun b o e => by have := HG1.out b o e; omega)
  have HT312 := Lib.hid (BX.okT HT311.out rfl fun b o e => by have := HG3.out; cases e; omega)
  have HT412 := Lib.hid (BX.okT HT411.out rfl fun b o e => by have := HG4.out b o e; omega)
  have HB12 : Hid (Below q w w12) := Lib.hid (HB11.out.trans (BX.below rfl (by omega) (by omega)))
  clear BX HCS11 HT111 HT311 HT411 HB11
  refine ⟨HCS12.out, ?_⟩
  refine anyT_one (i := 16) (by kernel_rfl) rfl rfl ?_
  go_simp
  refine ⟨HCS12.out, ?_⟩
  refine anyT_done (by kernel_rfl) ?_
  have c0x : (w12).cell? ⟨b1, 0, none⟩ = some (.int .i64 (H)) := (hx12).cell (i := 0) (by omega)
  have c1x : (w12).cell? ⟨b1, 1, none⟩ = some (.int .i64 (nr)) := (hx12).cell (i := 1) (by omega)
  have c2x : (w12).cell? ⟨b1, 2, none⟩ = some (.slice A1 n1 c1) := (hx12).cell (i := 2) (by omega)
  have lx : LtW (b1) (w12) := (hx12).lt
  have c0y : (w12).cell? ⟨b2, 0, none⟩ = some (.int .i64 (W)) := (hy12).cell (i := 0) (by omega)
  have c1y : (w12).cell? ⟨b2, 1, none⟩ = some (.int .i64 (H)) := (hy12).cell (i := 1) (by omega)
  have c2y : (w12).cell? ⟨b2, 2, none⟩ = some (.slice A4 n c4) := (hy12).cell (i := 2) (by omega)
  have ly : LtW (b2) (w12) := (hy12).lt
  have c0z : (w12).cell? ⟨b3, 0, none⟩ = some (.int .i64 (nt)) := (hz12).cell (i := 0) (by omega)
  have c1z : (w12).cell? ⟨b3, 1, none⟩ = some (.int .i64 (W)) := (hz12).cell (i := 1) (by omega)
  have c2z : (w12).cell? ⟨b3, 2, none⟩ = some (.slice (some ⟨g, 0, none⟩) n3 n3) := (hz12).cell (i := 2) (by omega)
  have lz : LtW (b3) (w12) := (hz12).lt
  go_simp
  refine (‹∀ (a : Act) (w : World), Code.wp Tryd.prog _ _ a w → _›) _ _ ?_
  go_wp2
  refine bodyPost_ret (v := .tuple #[.agg #[.int .i64 (H), .int .i64 (nr), .slice A1 n1 c1], .agg #[.int .i64 (W), .int .i64 (H), .slice A4 n c4], .agg #[.int .i64 (nt), .int .i64 (W), .slice (some ⟨g, 0, none⟩) n3 n3], .int .i64 (0)]) (by simp [results, Tryd.results11, go_sem, c0x, c1x, c2x, c0y, c1y, c2y, c0z, c1z, c2z]) rfl ?_
  unfold ChainPost
  rw [HN1.out, HN3'.out]
  exact ⟨A1, c1, A4, c4, _, _, rfl, HT112.out, HT412.out, HT312.out, by rw [HQE.out]; exact HB12.out⟩
end
section
open Go.RowKit
open Lo
end
section
open Go.RowKit
open Lo
end
section
open Go.RowKit
open Lo
end
section
open Go.RowKit
open Lo
def UT (W H : Int) (n : Nat) (L : List Bool) (e : Int) (w : World) (r : Ending) (w' : World) : Prop := ∃ A C, r = .returned (.tuple #[.agg #[.int .i64 (W), .int .i64 (H), .slice A n C], .int .i64 (e)]) ∧ OkT w' A n C L ∧ Below w.heap.size w w'
def UC (W1 H1 W2 H2 W3 H3 : Int) (n1 n2 n3 : Nat) (L1 L2 L3 : List Bool) (e : Int) (w : World) (r : Ending) (w' : World) : Prop := ∃ A1 c1 A2 c2 A3 c3, r = .returned (.tuple #[.agg #[.int .i64 (W1), .int .i64 (H1), .slice A1 n1 c1], .agg #[.int .i64 (W2), .int .i64 (H2), .slice A2 n2 c2], .agg #[.int .i64 (W3), .int .i64 (H3), .slice A3 n3 c3], .int .i64 (e)]) ∧ OkT w' A1 n1 c1 L1 ∧ OkT w' A2 n2 c2 L2 ∧ OkT w' A3 n3 c3 L3 ∧ Below w.heap.size w w'
theorem same_selfI (W H : Int) (n : Nat) (bs : List Bool) (a1 a2 : Option Addr) (c1 c2 : Nat) (w : World) (h1 : OkT w a1 n c1 bs) (h2 : OkT w a2 n c2 bs) :
  Calls Tryd.prog 10 #[.agg #[.int .i64 (W), .int .i64 (H), .slice a1 n c1], .agg #[.int .i64 (W), .int .i64 (H), .slice a2 n c2]] w fun e w' => e = .returned (.bool true) ∧ Below w.heap.size w w' := by
 have := Same_any W H a1 n c1 bs W H a2 n c2 bs w h1.bits h2.bits (Nat.le_trans h1.cap h1.lim) (Nat.le_trans h1.cap h1.lim)
 rwa [decide_eq_true (p := (W = W ∧ H = H ∧ bs = bs)) ⟨rfl, rfl, rfl⟩] at this
end
end Go.Proofs.YtajdoobkfbdgoaaDoor
