/- Lemmas on which the law of this seat rests; each states its own conditions. -/
import Derived.Test.YtajdoobkfbdgoaaDoorB20
set_option linter.unusedVariables false
set_option linter.unusedSimpArgs false
namespace Go.Proofs.YtajdoobkfbdgoaaDoor
section
open Go.RowKit
open Lo
def TruPost (W H n : Nat) (L : List Bool) (w : World) (r : Ending) (w' : World) : Prop := ∃ A C, r = .returned (.tuple #[.agg #[.int .i64 (W), .int .i64 (H), .slice A n C], .int .i64 (0)]) ∧ OkT w' A n C L ∧ Below w.heap.size w w' ∧ ∀ b o, A = some ⟨b, o, none⟩ → w.heap.size ≤ b
set_option maxRecDepth 100000 in
set_option maxHeartbeats 8000000 in
theorem dDraw_ok (tha : Option Addr) (nt ct : Nat) (th : List Nat) (W H : Nat) (a : Option Addr) (n c : Nat) (tie : List Bool) (tra : Option Addr) (nr cr : Nat) (tr : List Nat) (w : World) (hth : IsInts w tha nt (natI th)) (htr : IsInts w tra nr (natI tr)) (hT : OkT w a n c tie) (hW : W ≤ 64) (hH : H ≤ 64) (hn : n = W * H) (hnt : th.length = nt) (hnr : tr.length = nr) (k1 : 0 < nt) (k2 : nt ≤ 64) (k3 : 0 < nr) (k4 : nr ≤ 64) (k5 : ∀ x ∈ th, x < W) (k6 : ∀ x ∈ tr, x < H) :
  Calls Tryd.prog 9 #[.agg #[.slice tha nt ct, .int .i64 (W), .int .i64 (H), .slice a n c, .slice tra nr cr]] w (TruPost nt nr (nt * nr) (ddL W tie th tr) w) := by
 have hE : drE (natI th) (natI tr) W H n = 0 := drE_ok hW hH hn (by omega) (by omega) (by omega) (by omega) k5 k6
 have hn4 : n ≤ 4096 := by rw [hn]; exact mul64n hW hH
 have HD := Lib.hid (fun w x y => dWrong_any tha nt ct (natI th) W H a n c tra nr cr (natI tr) w x y (by omega) (by omega) (by omega) (by omega) (by omega))
 rw [hE] at HD
 have HT := Lib.hid hth; have HR := Lib.hid htr; have HB := Lib.hid hT
 have HNT := Lib.hid hnt; have HNR := Lib.hid hnr; have HN := Lib.hid hn
 have HK5 := Lib.hid k5; have HK6 := Lib.hid k6
 clear hth htr hT hnt hnr hn k5 k6 hE
 go_enter Tryd.func9, Tryd.ntmps9
 go_wp2_with fail
 refine (HD.out _ (HT.out.below blw) (HR.out.below blw)).mono ?_
 rintro r w1 ⟨rfl, hb⟩
 obtain ⟨E1, d1, rfl⟩ := bExt hb
 clear hb
 go_wp2_with fail
 have hq := ((dF_alloc w (.slice tha nt ct) W H (.slice a n c) (.slice tra nr cr)).alloc (.cells #[.int .i64 (0), .int .i64 (0), .slice none 0 0] 33))
 have hq := rowBelow hq (bExtW (Below.refl _ _) (Nat.le_refl _) : Below ((w.alloc (.cells #[.slice tha nt ct, .int .i64 (W), .int .i64 (H), .slice a n c, .slice tra nr cr] 35)).alloc (.cells #[.int .i64 (0), .int .i64 (0), .slice none 0 0] 33)).heap.size ((w.alloc (.cells #[.slice tha nt ct, .int .i64 (W), .int .i64 (H), .slice a n c, .slice tra nr cr] 35)).alloc (.cells #[.int .i64 (0), .int .i64 (0), .slice none 0 0] 33)) (extW ((w.alloc (.cells #[.slice tha nt ct, .int .i64 (W), .int .i64 (H), .slice a n c, .slice tra nr cr] 35)).alloc (.cells #[.int .i64 (0), .int .i64 (0), .slice none 0 0] 33)) E1 d1)) (by simp; omega)
 have hr := rowBelow (tF_alloc (w.alloc (.cells #[.slice tha nt ct, .int .i64 (W), .int .i64 (H), .slice a n c, .slice tra nr cr] 35)) 0 0 (.slice none 0 0) rfl) (bExtW (Below.refl _ _) (Nat.le_refl _) : Below ((w.alloc (.cells #[.slice tha nt ct, .int .i64 (W), .int .i64 (H), .slice a n c, .slice tra nr cr] 35)).alloc (.cells #[.int .i64 (0), .int .i64 (0), .slice none 0 0] 33)).heap.size ((w.alloc (.cells #[.slice tha nt ct, .int .i64 (W), .int .i64 (H), .slice a n c, .slice tra nr cr] 35)).alloc (.cells #[.int .i64 (0), .int .i64 (0), .slice none 0 0] 33)) (extW ((w.alloc (.cells #[.slice tha nt ct, .int .i64 (W), .int .i64 (H), .slice a n c, .slice tra nr cr] 35)).alloc (.cells #[.int .i64 (0), .int .i64 (0), .slice none 0 0] 33)) E1 d1)) (by simp)
 have hbw0 : Below w.heap.size w (extW ((w.alloc (.cells #[.slice tha nt ct, .int .i64 (W), .int .i64 (H), .slice a n c, .slice tra nr cr] 35)).alloc (.cells #[.int .i64 (0), .int .i64 (0), .slice none 0 0] 33)) E1 d1) := blw
 have hszE : (extW ((w.alloc (.cells #[.slice tha nt ct, .int .i64 (W), .int .i64 (H), .slice a n c, .slice tra nr cr] 35)).alloc (.cells #[.int .i64 (0), .int .i64 (0), .slice none 0 0] 33)) E1 d1).heap.size = w.heap.size + 1 + 1 + E1.size := by simp
 rw [World.size_alloc] at hr
 generalize extW ((w.alloc (.cells #[.slice tha nt ct, .int .i64 (W), .int .i64 (H), .slice a n c, .slice tra nr cr] 35)).alloc (.cells #[.int .i64 (0), .int .i64 (0), .slice none 0 0] 33)) E1 d1 = WC at *
 have hq3 := hq.alloc (.cells #[.int .i64 (nt), .int .i64 (nr), .slice none 0 0] 33)
 have hr3 := hr.alloc (.cells #[.int .i64 (nt), .int .i64 (nr), .slice none 0 0] 33)
 have ho3 := tF_alloc WC nt nr (.slice none 0 0) rfl
 have hb3 : Below w.heap.size w (WC.alloc (.cells #[.int .i64 (nt), .int .i64 (nr), .slice none 0 0] 33)) := hbw0.alloc hbw0.size _
 have hsz3 : (WC.alloc (.cells #[.int .i64 (nt), .int .i64 (nr), .slice none 0 0] 33)).heap.size = WC.heap.size + 1 := by simp
 generalize WC.alloc (.cells #[.int .i64 (nt), .int .i64 (nr), .slice none 0 0] 33) = W3 at *
 rw [hszE] at ho3 hsz3
 obtain ⟨ob, ho⟩ : ∃ ob, w.heap.size + 1 + 1 + E1.size = ob := ⟨_, rfl⟩
 rw [ho] at ho3 hsz3 ⊢
 obtain ⟨rb, hrb⟩ : ∃ rb, w.heap.size + 1 = rb := ⟨_, rfl⟩
 rw [hrb] at hr3 ho ⊢
 obtain ⟨q, hqe⟩ : ∃ q, w.heap.size = q := ⟨_, rfl⟩
 rw [hqe] at hq3 hb3 hrb ⊢
 obtain ⟨base, hbase⟩ : ∃ b, b = W3.heap.size := ⟨_, rfl⟩
 have hord : q < rb ∧ rb < ob ∧ ob < base := by omega
 have HQ := Lib.hid hq3; have HRB := Lib.hid hr3; have HO3 := Lib.hid ho3; have HBS := Lib.hid hbase; have HQE := Lib.hid hqe
 have hB0 : Hid (∀ w', BelowX base ob W3 w' → Below w.heap.size w w') := Lib.hid fun w' h => by
  rw [hqe]
  exact hb3.trans ((h.below hbase.symm (Nat.le_refl _) hord.2.2).mono (by omega))
 clear hq hr hbw0 hszE hq3 hr3 ho3 hb3 hsz3 ho hrb hqe hbase
 obtain ⟨F, hF⟩ : ∃ F, ddF W nt tie th tr = F := ⟨_, rfl⟩
 have HF := Lib.hid hF
 clear hF
 go_loopw [26] (fun i wr => ∃ (y : Nat) (v : Value), y ≤ nr ∧ i = .int .i64 y ∧ FB base ob nt nr (bT F (y * nt)) W3 v wr) (fun i _ => nr - (intOf i).toNat)
 case atStart => exact ⟨0, _, Nat.zero_le _, rfl, by rw [Nat.zero_mul]; exact FB.start HO3.out HBS.out⟩
 case round =>
  obtain ⟨y, v, hy, rfl, hfb⟩ := hrel
  have HFB := Lib.hid hfb
  have hqr := hfb.bel.rowIs HQ.out (by omega) (by omega)
  have hbw := hB0.out _ hfb.bel
  by_cases hyn : y < nr
  ·have q0 : wr.cell? ⟨q, 0, none⟩ = some (.slice tha nt ct) := hqr.cell (i := 0) (by omega)
   have q4 : wr.cell? ⟨q, 4, none⟩ = some (.slice tra nr cr) := hqr.cell (i := 4) (by omega)
   have lq : LtW q wr := hqr.lt
   obtain ⟨b, o, rfl, hbl, hc⟩ := (HR.out.below hbw).2 (by omega)
   have c0 := hc y hyn
   rw [natI_getN] at c0
   have lb : LtW b wr := hbl
   have htH := HK6.out _ (getD_memN (L := tr) (j := y) (by rw [HNR.out]; exact hyn))
   obtain ⟨t, ht⟩ : ∃ t, tr.getD y 0 = t := ⟨_, rfl⟩
   have HTY := Lib.hid ht
   rw [ht] at c0 htH
   clear hc hbl ht hfb hqr hbw
   go_wp2_with fail
   clear q0 q4 c0 lb lq
   go_loopw [33] (fun i wr => ∃ (x : Nat) (v : Value), x ≤ nt ∧ i = .int .i64 x ∧ FB base ob nt nr (bT F (y * nt + x)) W3 v wr) (fun i _ => nt - (intOf i).toNat)
   case atStart => exact ⟨0, v, Nat.zero_le _, rfl, HFB.out⟩
   case round =>
    clear HFB
    obtain ⟨x, v, hx, rfl, hfb⟩ := hrel
    have hfb2 := Lib.hid hfb
    have hqr := hfb.bel.rowIs HQ.out (by omega) (by omega)
    have hbw := hB0.out _ hfb.bel
    clear hfb
    by_cases hxn : x < nt
    ·have q1 : wr.cell? ⟨q, 1, none⟩ = some (.int .i64 (W)) := hqr.cell (i := 1) (by omega)
     have q3 : wr.cell? ⟨q, 3, none⟩ = some (.slice a n c) := hqr.cell (i := 3) (by omega)
     have lq : LtW q wr := hqr.lt
     obtain ⟨b1, o1, rfl, hbl, hc⟩ := (HT.out.below hbw).2 (by omega)
     have c0 := hc x hxn
     rw [natI_getN] at c0
     have lb1 : LtW b1 wr := hbl
     have hsW := HK5.out _ (getD_memN (L := th) (j := x) (by rw [HNT.out]; exact hxn))
     have hFx : F (y * nt + x) = tie.getD (t * W + th.getD x 0) false := by rw [← HF.out, ddF_at hxn, HTY.out]
     obtain ⟨s, hs⟩ : ∃ s, th.getD x 0 = s := ⟨_, rfl⟩
     rw [hs] at c0 hsW hFx
     obtain ⟨M, hM⟩ : ∃ M, t * W = M := ⟨_, rfl⟩
     have hp : M + s < n := by
      rw [HN.out, ← hM]; exact place_lt' hsW htH
     have hmul : (t : Int) * (W : Int) = (M : Int) := by rw [← Int.natCast_mul, hM]
     rw [hM] at hFx
     obtain ⟨b2, o2, rfl, hb2, hc2⟩ := (HB.out.below hbw).bits.2 (by omega)
     have cb := hc2 (M + s) hp
     have lb2 : LtW b2 wr := hb2
     obtain ⟨bit, hbit⟩ : ∃ b, tie.getD (M + s) false = b := ⟨_, rfl⟩
     rw [hbit] at cb hFx
     obtain ⟨hr0, ho0, hx0⟩ := hfb2.out
     obtain ⟨P, hP⟩ : ∃ P, y * nt + x = P := ⟨_, rfl⟩
     have hPn4 : P < 4096 := by
      rw [← hP]
      exact Nat.lt_of_lt_of_le (place_lt' hxn hyn) (mul64n k2 k4)
     have HBT := Lib.hid (bT_succ F P)
     rw [← hP, hFx, hP] at HBT
     rw [bT_len, hP] at ho0
     have HP := Lib.hid hP
     have cM : wr.cell? ⟨ob, 2, none⟩ = some v := hr0.cell (i := 2) (by omega)
     have fM := hr0.frozen 2
     have lm : LtW ob wr := hr0.lt
     have HO := Lib.hid ho0
     have HX := Lib.hid hx0
     have HR := Lib.hid hr0
     have hxs := hx0.size
     have v1 : IntKind.i64.wrap (M : Int) = (M : Int) := IntWalk.i64_in _ (by omega)
     have v2 : IntKind.i64.wrap ((M : Int) + (s : Int)) = (M : Int) + (s : Int) := IntWalk.i64_in _ (by omega)
     have v3 : ((M : Int) + (s : Int)).toNat = M + s := by omega
     have i0 : (0 : Int) ≤ (M : Int) + (s : Int) := by omega
     have i1 : (M : Int) + (s : Int) < (n : Int) := by omega
     clear hr0 ho0 hx0 hfb2 hP hM hc hc2 hs hbit hFx hqr hbw hbl hb2 hsW
     generalize bT F P = L at *
     go_wp2_with fail
     (refine wp_region_ext_build 14 _ mkOne (.cells #[.bool (bit)] 4) (by kernel_rfl) (by kernel_rfl) rfl rfl ?_; simp only [List.take_succ_cons, List.take_zero, List.drop_succ_cons, List.drop_zero]; (repeat (first | ((with_reducible refine wpV_step (fun K hK => ?_)); go_simp; first | (refine hK _ ?_; clear hK K) | (apply Exists.intro; refine ⟨fun _ _ => ?_, hK _ ?_⟩; fail; clear hK K)))); refine wpV_nil ?_; refine ⟨fun W => by go_simp; rfl, fun E d E' d' => ?_⟩)
     have hbE := built_below wr E d (.cells #[.bool (bit)] 4) E' d'
     have HCS := Lib.hid (built_cell wr E d #[.bool (bit)] 4 E' d')
     have cME := bCs hbE cM
     have fME := (hbE.frozen (p := ⟨ob, 2, none⟩) (show ob < wr.heap.size from lm)).trans fM
     have HOE := Lib.hid (ownBelow HO.out hbE)
     have hgE := Nat.le_trans HX.out.size hbE.size
     have HBE := Lib.hid hbE
     clear hbE cM fM
     generalize extW ((extW wr E d).alloc (.cells #[.bool (bit)] 4)) E' d' = WE at *
     generalize (extW wr E d).heap.size = BB at *
     go_wp2_with (at_builtin; refine wpAppB okBools rfl (.tmp 38) (.tmp 51) rfl base _ _ _ #[.bool (bit)] BB rfl HOE.out rfl HCS.out rfl ?_ (by omega) (by omega) (by omega) ?_)
     ·simp [Value.oneCell']
     intro v' w2 hown2 hb2
     obtain ⟨A', cp', rfl⟩ := own_form hown2
     have cM2 : w2.cell? ⟨ob, 2, none⟩ = some v := (hb2.cell (p := ⟨ob, 2, none⟩) (by simp; omega)).trans cME
     have fM2 : w2.frozen? ⟨ob, 2, none⟩ = false := (hb2.frozen (p := ⟨ob, 2, none⟩) (by simp; omega)).trans fME
     have HNW := Lib.hid (FB.app HR.out HX.out HBE.out (by omega) hown2 hb2)
     clear hown2 hb2 cME fME
     go_wp2
     go_roundw
     case rel => exact ⟨x + 1, _, by omega, by go_num, by rw [show y * nt + (x + 1) = P + 1 by have := HP.out; omega, HBT.out]; exact HNW.out⟩
     case measure => simp [intOf]; omega
    ·obtain rfl : nt = x := by omega
     clear hqr hbw
     go_wp2
     go_roundw
     case rel => exact ⟨y + 1, v, by omega, by go_num, by rw [Nat.add_mul, Nat.one_mul]; exact hfb2.out⟩
     case measure => simp [intOf]; omega
  ·obtain rfl : nr = y := by omega
   obtain ⟨hr9, ho9, hx9⟩ := hfb
   have hL : bT F (nr * nt) = ddL W tie th tr := by
    rw [← HF.out]
    have := dd_bT (W := W) (tie := tie) (th := th) (tr := tr)
    rwa [HNT.out, HNR.out] at this
   rw [hL] at ho9
   have hlo : (ddL W tie th tr).length = nt * nr := by unfold ddL; rw [grid_len, HNT.out, HNR.out]
   obtain ⟨a1, c1, rfl, hT1, hg1⟩ := OkT.of_owns ho9
   rw [hlo] at hr9 hT1
   have o0 : wr.cell? ⟨ob, 0, none⟩ = some (.int .i64 (nt)) := hr9.cell (i := 0) (by omega)
   have o1 : wr.cell? ⟨ob, 1, none⟩ = some (.int .i64 (nr)) := hr9.cell (i := 1) (by omega)
   have o2 : wr.cell? ⟨ob, 2, none⟩ = some (.slice a1 (nt * nr) c1) := hr9.cell (i := 2) (by omega)
   have rr := hx9.rowIs HRB.out (by omega) (by omega)
   have r0 : wr.cell? ⟨rb, 0, none⟩ = some (.int .i64 (0)) := rr.cell (i := 0) (by omega)
   have r1 : wr.cell? ⟨rb, 1, none⟩ = some (.int .i64 (0)) := rr.cell (i := 1) (by omega)
   have r2 : wr.cell? ⟨rb, 2, none⟩ = some (.slice none 0 0) := rr.cell (i := 2) (by omega)
   have f0 := rr.frozen 0; have f1 := rr.frozen 1; have f2 := rr.frozen 2
   have q4 : wr.cell? ⟨q, 4, none⟩ = some (.slice tra nr cr) := hqr.cell (i := 4) (by omega)
   have HT1 := Lib.hid hT1
   have HG1 := Lib.hid hg1
   have HX9 := Lib.hid hx9
   have HBW := Lib.hid hbw
   have hxs := hx9.size
   clear hr9 ho9 hx9 rr hlo hT1 hg1 HFB HO3 HRB hL hqr hbw
   generalize ddL W tie th tr = DL at *
   go_wp2
   refine bodyPost_ret (v := .tuple #[.agg #[.int .i64 (nt), .int .i64 (nr), .slice a1 (nt * nr) c1], .int .i64 (0)]) (by simp [results, Tryd.results9, go_sem, r0, r1, r2]) rfl ⟨a1, c1, rfl, ?_, ?_, fun b o e => by have := HG1.out b o e; have := HQE.out; omega⟩
   ·exact (((((BelowX.refl (base := wr.heap.size) (mb := rb) (Nat.le_refl _)).set 0 _).set 1 _).set 2 _).okT HT1.out rfl fun b o e => by have := HG1.out b o e; omega)
   ·exact ((HBW.out.setCell (by simp; have := HQE.out; omega) _).setCell (by simp; have := HQE.out; omega) _).setCell (by simp; have := HQE.out; omega) _
end
end Go.Proofs.YtajdoobkfbdgoaaDoor
