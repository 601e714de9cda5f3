/- Lemmas on which the law of this seat rests; each states its own conditions. -/
import Derived.Test.YtajdoobkfbdgoaaGreatDoorB10
import Derived.Test.YtajdoobkfbdgoaaGreatDoorB07
import Derived.Test.YtajdoobkfbdgoaaGreatDoorB02
set_option linter.unusedVariables false
set_option linter.unusedSimpArgs false
namespace Go.Proofs.YtajdoobkfbdgoaaGreatDoor
section
open Go.RowKit
open Z (torN place pnt Mv To lin okT nrm keepB colP idm)
theorem keepsM_ok (G W H n N t : Nat) (f : Bool) (a ta : Option Addr) (c tc : Nat) (cs : List Int) (ox oy : Int) (w : World) (hn : 0 < n) (h24 : n ≤ 24) (hN : n * n = N) (hW : W ∣ n) (hH : H ∣ n) (hI : IsInts w a N (Z.laidL W H cs n)) (hT : IsInts w ta N (intsN (Z.imageL G n t f))) (hx : -1000000000000 ≤ ox ∧ ox ≤ 1000000000000) (hy : -1000000000000 ≤ oy ∧ oy ≤ 1000000000000) :
  Calls Tryz.prog 72 #[.agg #[.int .i64 (G), .int .i64 (n), .slice a N c], .slice ta N tc, .agg #[.int .i64 (ox), .int .i64 (oy)]] w fun e w' => e = .returned (.bool (keepB W H cs G n ⟨t, f, (ox, oy)⟩)) ∧ Below w.heap.size w w' := by
 rw [← keepsL_eq hn hW hH]
 exact keeps_ok G n N a ta c tc _ _ ox oy w hn h24 hN hI hT (fun k hk => by rw [Z.imageL_get (by omega), ← hN]; exact Z.place_lt hn _) hx hy
set_option maxRecDepth 100000 in
set_option maxHeartbeats 8000000 in
theorem all_ok (G W H n N : Nat) (a : Option Addr) (c : Nat) (cs : List Int) (w : World) (hI : IsInts w a N (Z.laidL W H cs n)) (hg : G = 4 ∨ G = 6) (hn : 0 < n) (h24 : n ≤ 24) (hN : n * n = N) (hW : W ∣ n) (hH : H ∣ n) :
  Calls Tryz.prog 33 #[.agg #[.int .i64 (G), .int .i64 (n), .slice a N c]] w fun r w' => (∃ A C, r = .returned (.slice A (Z.movesL W H cs G n).length C) ∧ OwnM w' w.heap.size A (Z.movesL W H cs G n).length C (Z.movesL W H cs G n)) ∧ Below w.heap.size w w' := by
 have hN6 : N ≤ 576 := by rw [← hN]; exact Nat.mul_le_mul h24 h24
 have hG6 : G ≤ 6 := by omega
 have HIM := Lib.hid (fun t f w (ht : t < G) => image_ok G n N t f a c w (by omega) (by omega) hn h24 hN)
 have HKP := Lib.hid (fun t f ta tc (ox oy : Int) w hI hT hx hy => keepsM_ok G W H n N t f a ta c tc cs ox oy w hn h24 hN hW hH hI hT hx hy)
 have HALL := Lib.hid (P1_all W H cs G n)
 have HNN := Lib.hid hN
 have hNi : (n : Int) * (n : Int) = (N : Int) := by rw [← hN]; push_cast; rfl
 have vN : IntKind.i64.wrap (N : Int) = (N : Int) := IntWalk.i64_in _ (by omega)
 have HI := Lib.hid hI
 obtain ⟨K, hK⟩ : ∃ K, keepB W H cs (G : Int) n = K := ⟨_, rfl⟩
 have b1 : ((n : Int) == 0) = false := by simp; omega
 have b2 : (n : Int) ≠ 0 := by omega
 have b3 : ¬ n = 0 := by omega
 rw [hK] at HALL HKP
 generalize Z.movesL W H cs G n = ML at *
 clear hI hg hN hW hH hK
 go_enter Tryz.func33, Tryz.ntmps33
 go_wp2_with fail
 have hG0 := GL.nil ((w.alloc (.cells #[.int .i64 G, .int .i64 n, .slice a N c] 85)).alloc (.cells #[.bool false, .bool true] 4)) 91 4
 obtain ⟨W1, hW1⟩ : ∃ W1, W1 = (w.alloc (.cells #[.int .i64 G, .int .i64 n, .slice a N c] 85)).alloc (.cells #[.bool false, .bool true] 4) := ⟨_, rfl⟩
 have HB1 : Hid (Below w.heap.size w W1) := Lib.hid (by rw [hW1]; exact blw)
 have hsz : W1.heap.size = w.heap.size + 2 := by rw [hW1, World.size_alloc, World.size_alloc]
 have hs0 : w.heap.size < W1.heap.size := by omega
 have hs1 : w.heap.size + 1 < W1.heap.size := by omega
 have cb0 : W1.cell? ⟨w.heap.size, 0, none⟩ = some (.int .i64 (G)) := by rw [hW1]; simp [go_sem]
 have cb1 : W1.cell? ⟨w.heap.size, 1, none⟩ = some (.int .i64 (n)) := by rw [hW1]; simp [go_sem]
 have cb2 : W1.cell? ⟨w.heap.size, 2, none⟩ = some (.slice a N c) := by rw [hW1]; simp [go_sem]
 have HBB : Hid (∀ i, i < 2 → W1.cell? ⟨w.heap.size + 1, i, none⟩ = some (.bool (decide (i = 1)))) := Lib.hid fun i hi => by
  obtain rfl | rfl : i = 0 ∨ i = 1 := by omega
  ·rw [hW1]; simp [go_sem]
  ·rw [hW1]; simp [go_sem]
 have HW1 := Lib.hid hW1
 have HG0 := Lib.hid hG0
 have HSZ := Lib.hid hsz
 clear hW1 hG0 hsz
 go_loopw [3, 12] (fun ov iv wr => ∃ (i : Nat) (L : List Mv), i ≤ 2 ∧ iv = .int .i64 i ∧ Hid (GL 91 4 (mvsK L) L.length W1 ov wr) ∧ Hid (L = P1 K n G i) ∧ L.length ≤ i * 6 * 576) (fun _ iv _ => 2 - (intOf iv).toNat)
 case atStart => exact ⟨0, [], by omega, rfl, Lib.hid (by rw [HW1.out]; exact HG0.out), Lib.hid rfl, by simp⟩
 case round =>
  obtain ⟨i, L, hi, rfl, HG, HL, hlen⟩ := hrel
  have k0 := bCs (HG.out).bel cb0
  have k1 := bCs (HG.out).bel cb1
  have k2 := bCs (HG.out).bel cb2
  have lk : LtW w.heap.size wr := Nat.lt_of_lt_of_le hs0 (HG.out).bel.size
  have hsw : W1.heap.size ≤ (wr).heap.size := (HG.out).bel.size
  by_cases hi2 : i < 2
  ·have di : decide (i < 2) = true := by simpa using hi2
   have di2 : decide ((i : Int) < 2) = true := by simp; omega
   have bc := bCs HG.out.bel (HBB.out i hi2)
   have lb : LtW (w.heap.size + 1) wr := Nat.lt_of_lt_of_le hs1 HG.out.bel.size
   have vi : IntKind.i64.wrap ((i : Int) + 1) = (i : Int) + 1 := IntWalk.i64_in _ (by omega)
   have HPS := Lib.hid (P1_succ K n G i hi2)
   obtain ⟨f, hf⟩ : ∃ f, decide (i = 1) = f := ⟨_, rfl⟩
   rw [hf] at bc HPS
   clear hf
   go_wp2_with fail
   obtain ⟨wo, rfl⟩ : ∃ wo : World, wo = wr := ⟨_, rfl⟩
   go_loopw [3, 18] (fun ov tv wr => ∃ (t : Nat) (L : List Mv), t ≤ G ∧ tv = .int .i64 t ∧ Hid (GL 91 4 (mvsK L) L.length W1 ov wr) ∧ Hid (L = P1 K n G i ++ P2 K n f t) ∧ L.length ≤ (i * 6 + t) * 576) (fun _ tv _ => G - (intOf tv).toNat)
   case atStart => exact ⟨0, L, by omega, rfl, HG, Lib.hid (by rw [HL.out, P2_zero, List.append_nil]), by omega⟩
   case round =>
    clear k0 k1 k2 lk hsw
    clear HG HL bc lb hlen
    obtain ⟨t, L, ht, rfl, HG, HL, hlen⟩ := hrel
    have k0 := bCs (HG.out).bel cb0
    have k1 := bCs (HG.out).bel cb1
    have k2 := bCs (HG.out).bel cb2
    have lk : LtW w.heap.size wr := Nat.lt_of_lt_of_le hs0 (HG.out).bel.size
    have hsw : W1.heap.size ≤ (wr).heap.size := (HG.out).bel.size
    by_cases htG : t < G
    ·have dt : decide ((t : Int) < (G : Int)) = true := by simpa using htG
     have vt : IntKind.i64.wrap ((t : Int) + 1) = (t : Int) + 1 := IntWalk.i64_in _ (by omega)
     have HIM1 := Lib.hid (fun w => HIM.out t f w htG)
     go_wp2_with fail
     refine (HIM1.out _).mono ?_
     rintro r w2 ⟨⟨TA, TC, rfl, hT⟩, hb2⟩
     have HG2 := Lib.hid (HG.out.below hb2)
     have HT2 := Lib.hid hT
     have HIW := Lib.hid (HI.out.below (HB1.out.trans ((HG.out.bel.trans (hb2.mono HG.out.bel.size)).mono (Nat.le_of_lt hs0))))
     clear k0 k1 k2 lk hsw
     clear hT hb2 HIM1 HG
     have k0 := bCs (HG2.out).bel cb0
     have k1 := bCs (HG2.out).bel cb1
     have k2 := bCs (HG2.out).bel cb2
     have lk : LtW w.heap.size w2 := Nat.lt_of_lt_of_le hs0 (HG2.out).bel.size
     have hsw : W1.heap.size ≤ (w2).heap.size := (HG2.out).bel.size
     go_wp2_with fail
     obtain ⟨wp, rfl⟩ : ∃ wp : World, wp = wr := ⟨_, rfl⟩
     go_loopw [3, 31] (fun ov pv wr => ∃ (p : Nat) (L : List Mv), p ≤ N ∧ pv = .int .i64 p ∧ Hid (GL 91 4 (mvsK L) L.length W1 ov wr) ∧ Hid (L = (P1 K n G i ++ P2 K n f t) ++ P3 K n t f p) ∧ L.length ≤ (i * 6 + t) * 576 + p ∧ Hid (OwnI wr wp.heap.size TA N TC (intsN (Z.imageL G n t f)))) (fun _ pv _ => N - (intOf pv).toNat)
     case atStart => exact ⟨0, L, by omega, rfl, HG2, Lib.hid (by rw [HL.out, P3_zero, List.append_nil]), by omega, HT2⟩
     case round =>
      clear k0 k1 k2 lk hsw
      clear HG2 HL HT2 HIW hlen
      obtain ⟨p, L, hp, rfl, HG, HL, hlen, HT⟩ := hrel
      have k0 := bCs (HG.out).bel cb0
      have k1 := bCs (HG.out).bel cb1
      have k2 := bCs (HG.out).bel cb2
      have lk : LtW w.heap.size wr := Nat.lt_of_lt_of_le hs0 (HG.out).bel.size
      have hsw : W1.heap.size ≤ (wr).heap.size := (HG.out).bel.size
      by_cases hpN : p < N
      ·have dp : decide ((p : Int) < (N : Int)) = true := by simpa using hpN
       have vp : IntKind.i64.wrap ((p : Int) + 1) = (p : Int) + 1 := IntWalk.i64_in _ (by omega)
       have HPS3 := Lib.hid (P3_succ K n t f p)
       obtain ⟨u, hu⟩ : ∃ u, p % n = u := ⟨_, rfl⟩
       obtain ⟨v, hv⟩ : ∃ v, p / n = v := ⟨_, rfl⟩
       have hu1 : u < n := by rw [← hu]; exact Nat.mod_lt _ hn
       have hv1 : v < n := by rw [← hv]; exact Nat.div_lt_of_lt_mul (by rw [HNN.out]; exact hpN)
       have hpn : pnt n p = ((u : Int), (v : Int)) := by unfold pnt; rw [hu, hv]
       have t1 : (p : Int).tmod (n : Int) = (u : Int) := by rw [← hu]; rfl
       have t2 : (p : Int).tdiv (n : Int) = (v : Int) := by rw [← hv]; rfl
       have v1 : IntKind.i64.wrap (u : Int) = (u : Int) := IntWalk.i64_in _ (by omega)
       have v2 : IntKind.i64.wrap (v : Int) = (v : Int) := IntWalk.i64_in _ (by omega)
       rw [hpn] at HPS3
       have HKP1 := Lib.hid (fun w hI hT => HKP.out t f TA TC (u : Int) (v : Int) w hI hT (by omega) (by omega))
       clear hu hv hpn HIM HALL
       have HIW := Lib.hid (HI.out.below (HB1.out.trans (HG.out.bel.mono (Nat.le_of_lt hs0))))
       cases hkb : K ⟨t, f, ((u : Int), (v : Int))⟩ with
       | true =>
        rw [hkb] at HKP1 HPS3
        have HPT : Hid (P3 K n t f (p + 1) = P3 K n t f p ++ [⟨t, f, ((u : Int), (v : Int))⟩]) := Lib.hid (by have := HPS3.out; simpa using this)
        go_wp2_with fail
        (refine wp_region_ext_alloc 9 71 (some 9) _ (by kernel_rfl) (by kernel_rfl) rfl allocPt ?_; simp only [List.take_succ_cons, List.take_zero, List.drop_succ_cons, List.drop_zero]; (repeat (first | ((with_reducible refine wpV_step (fun K hK => ?_)); go_simp; first | (refine hK _ ?_; clear hK K) | (apply Exists.intro; refine ⟨fun _ _ => ?_, hK _ ?_⟩; fail; clear hK K)))); refine wpV_nil ?_; intro E d E' d'; go_simp)
        go_wp2_with fail
        have pc0 := built_cell wr E d #[.int .i64 (u : Int), .int .i64 (v : Int)] 71 E' d' 0 _ rfl
        have pc1 := built_cell wr E d #[.int .i64 (u : Int), .int .i64 (v : Int)] 71 E' d' 1 _ rfl
        rw [size_extW] at pc0 pc1
        have lpt := World.block_lt_of_cell? _ _ pc0
        have hbL := built_below wr E d (.cells #[.int .i64 (u : Int), .int .i64 (v : Int)] 71) E' d'
        refine (HKP1.out _ (HIW.out.below hbL) (HT.out.ints.below hbL)).mono ?_
        rintro r w3 ⟨rfl, hb3⟩
        have p0 := bCs hb3 pc0
        have p1 := bCs hb3 pc1
        have HG3 := Lib.hid ((HG.out.below hbL).below hb3)
        have HT3 := Lib.hid ((HT.out.below hbL).below hb3)
        have lp : LtW (wr.heap.size + E.size) w3 := Nat.lt_of_lt_of_le lpt hb3.size
        clear k0 k1 k2 lk hsw
        clear HG HT HIW pc0 pc1 hb3 hbL lpt HPS3
        go_wp2_with (at_builtin; refine wpAppM okMv rfl (.tmp 47) (.tmp 52) rfl W1.heap.size _ _ _ #[.int .i64 t, .bool f, .int .i64 u, .int .i64 v] rfl HG3.out.own rfl rfl ?_ (by omega) (by omega) HG3.out.bel.size ?_)
        ·simp [Value.oneCell']
        intro v' w4 hown4 hg4 hb4
        obtain ⟨A', cp', rfl⟩ := own_form hown4
        have HG4 : Hid (GL 91 4 (mvsK (L ++ [⟨t, f, ((u : Int), (v : Int))⟩])) (L ++ [(⟨t, f, ((u : Int), (v : Int))⟩ : Mv)]).length W1 (.slice A' (L.length + 1) cp') w4) := Lib.hid ⟨by rw [mvsK_app, List.length_append]; exact hown4, HG3.out.bel.trans hb4⟩
        have HT4 : Hid (OwnI w4 wp.heap.size TA N TC (intsN (Z.imageL (G : Int) n t f))) := Lib.hid (OwnI.grownT (HT3.out.below ((Below.refl _ _).alloc (Nat.le_refl _) _)) (HG3.out.own.alloc _) (by decide) hg4)
        clear hown4 hg4 hb4 HG3 HT3 p0 p1 lp
        go_wp2
        go_roundw
        case rel => exact ⟨p + 1, L ++ [⟨t, f, ((u : Int), (v : Int))⟩], by omega, by go_num, HG4, Lib.hid (by rw [HPT.out, ← List.append_assoc, ← HL.out]), by simp; omega, HT4⟩
        case measure => simp [intOf]; omega
       | false =>
        rw [hkb] at HKP1 HPS3
        have HPT : Hid (P3 K n t f (p + 1) = P3 K n t f p) := Lib.hid (by have := HPS3.out; simpa using this)
        go_wp2_with fail
        (refine wp_region_ext_alloc 9 71 (some 9) _ (by kernel_rfl) (by kernel_rfl) rfl allocPt ?_; simp only [List.take_succ_cons, List.take_zero, List.drop_succ_cons, List.drop_zero]; (repeat (first | ((with_reducible refine wpV_step (fun K hK => ?_)); go_simp; first | (refine hK _ ?_; clear hK K) | (apply Exists.intro; refine ⟨fun _ _ => ?_, hK _ ?_⟩; fail; clear hK K)))); refine wpV_nil ?_; intro E d E' d'; go_simp)
        go_wp2_with fail
        have pc0 := built_cell wr E d #[.int .i64 (u : Int), .int .i64 (v : Int)] 71 E' d' 0 _ rfl
        have pc1 := built_cell wr E d #[.int .i64 (u : Int), .int .i64 (v : Int)] 71 E' d' 1 _ rfl
        rw [size_extW] at pc0 pc1
        have lpt := World.block_lt_of_cell? _ _ pc0
        have hbL := built_below wr E d (.cells #[.int .i64 (u : Int), .int .i64 (v : Int)] 71) E' d'
        refine (HKP1.out _ (HIW.out.below hbL) (HT.out.ints.below hbL)).mono ?_
        rintro r w3 ⟨rfl, hb3⟩
        have p0 := bCs hb3 pc0
        have p1 := bCs hb3 pc1
        have HG3 := Lib.hid ((HG.out.below hbL).below hb3)
        have HT3 := Lib.hid ((HT.out.below hbL).below hb3)
        clear k0 k1 k2 lk hsw
        clear HG HT HIW pc0 pc1 hb3 hbL lpt HPS3 p0 p1
        go_wp2
        go_roundw
        case rel => exact ⟨p + 1, L, by omega, by go_num, HG3, Lib.hid (by rw [HPT.out]; exact HL.out), by omega, HT3⟩
        case measure => simp [intOf]; omega
      ·obtain rfl : p = N := by omega
       have dp : decide ((p : Int) < (p : Int)) = false := by simp
       have HL2 : Hid (L = P1 K n G i ++ P2 K n f (t + 1)) := Lib.hid (by rw [P2_succ, HNN.out, ← List.append_assoc]; exact HL.out)
       clear HT HIM
       go_wp2
       go_roundw
       case rel => exact ⟨t + 1, L, by omega, by go_num, HG, HL2, by omega⟩
       case measure => simp [intOf]; omega
    ·obtain rfl : t = G := by omega
     have dt : decide ((t : Int) < (t : Int)) = false := by simp
     have HL2 : Hid (L = P1 K n t (i + 1)) := Lib.hid (by rw [HPS.out]; exact HL.out)
     go_wp2
     go_roundw
     case rel => exact ⟨i + 1, L, by omega, by go_num, HG, HL2, by omega⟩
     case measure => simp [intOf]; omega
  ·obtain rfl : i = 2 := by omega
   obtain rfl : L = ML := HL.out.trans HALL.out
   obtain ⟨A, C, rfl⟩ := own_form HG.out.own
   have HO : Hid (OwnM wr w.heap.size A L.length C L) := Lib.hid ⟨rfl, own_baseV HG.out.own (Nat.le_of_lt hs0)⟩
   have HBL := Lib.hid (HB1.out.trans (HG.out.bel.mono (Nat.le_of_lt hs0)))
   clear HG HL HALL HIM HKP
   go_wp2
   go_ret
   exact ⟨⟨A, C, rfl, HO.out⟩, HBL.out⟩
end
section
open Go.RowKit
open Z (torN place pnt Mv To lin okT nrm keepB colP idm)
set_option maxRecDepth 100000 in
set_option maxHeartbeats 8000000 in
theorem rAll_ok (G W H n m : Nat) (a : Option Addr) (c : Nat) (cs : List Int) (w : World) (hI : IsInts w a n cs) (h : ChOk G W H n cs) (hm : m ≤ 24) :
  Calls Tryz.prog 43 #[.agg #[.int .i64 (G), .int .i64 (W), .int .i64 (H), .slice a n c], .int .i64 (m)] w fun r w' => (∃ A C, r = .returned (.slice A (Z.movesL W H cs G m).length C) ∧ OwnM w' w.heap.size A (Z.movesL W H cs G m).length C (Z.movesL W H cs G m)) ∧ Below w.heap.size w w' := by
 have hG6 : G ≤ 6 := by have := h.g; omega
 have HKP := Lib.hid (fun t f (x y : Int) w hI ht hx hy => Kept_ok G W H n m t f x y a c cs w hI h hm ht hx hy)
 have HALL := Lib.hid (P1_all W H cs G m)
 have HI := Lib.hid hI
 obtain ⟨K, hK⟩ : ∃ K, keepB W H cs (G : Int) m = K := ⟨_, rfl⟩
 rw [hK] at HALL HKP
 generalize Z.movesL W H cs G m = ML at *
 clear hI hK h
 go_enter Tryz.func43, Tryz.ntmps43
 go_wp2_with fail
 have hG0 := GL.nil (w.alloc (.cells #[.int .i64 (G : Int), .int .i64 (W : Int), .int .i64 (H : Int), .slice a n c] 38)) 91 4
 obtain ⟨W1, hW1⟩ : ∃ W1, W1 = w.alloc (.cells #[.int .i64 (G : Int), .int .i64 (W : Int), .int .i64 (H : Int), .slice a n c] 38) := ⟨_, rfl⟩
 have HB1 : Hid (Below w.heap.size w W1) := Lib.hid (by rw [hW1]; exact blw)
 have hsz : W1.heap.size = w.heap.size + 1 := by rw [hW1, World.size_alloc]
 have hs0 : w.heap.size < W1.heap.size := by omega
 have cb0 : W1.cell? ⟨w.heap.size, 0, none⟩ = some (.int .i64 (G)) := by rw [hW1]; simp [go_sem]
 have cb1 : W1.cell? ⟨w.heap.size, 1, none⟩ = some (.int .i64 (W)) := by rw [hW1]; simp [go_sem]
 have cb2 : W1.cell? ⟨w.heap.size, 2, none⟩ = some (.int .i64 (H)) := by rw [hW1]; simp [go_sem]
 have cb3 : W1.cell? ⟨w.heap.size, 3, none⟩ = some (.slice a n c) := by rw [hW1]; simp [go_sem]
 have HW1 := Lib.hid hW1
 have HG0 := Lib.hid hG0
 clear hW1 hG0 hsz
 go_loopw [5, 6] (fun ov iv wr => ∃ (i : Nat) (L : List Mv), i ≤ 2 ∧ iv = .int .i64 i ∧ Hid (GL 91 4 (mvsK L) L.length W1 ov wr) ∧ Hid (L = P1 K m G i) ∧ L.length ≤ i * 6 * 576) (fun _ iv _ => 2 - (intOf iv).toNat)
 case atStart => exact ⟨0, [], by omega, rfl, Lib.hid (by rw [HW1.out]; exact HG0.out), Lib.hid rfl, by simp⟩
 case round =>
  obtain ⟨i, L, hi, rfl, HG, HL, hlen⟩ := hrel
  have k0 := bCs (HG.out).bel cb0
  have k1 := bCs (HG.out).bel cb1
  have k2 := bCs (HG.out).bel cb2
  have k3 := bCs (HG.out).bel cb3
  have lk : LtW w.heap.size wr := Nat.lt_of_lt_of_le hs0 (HG.out).bel.size
  have hsw : W1.heap.size ≤ (wr).heap.size := (HG.out).bel.size
  by_cases hi2 : i < 2
  ·have di : decide (i < 2) = true := by simpa using hi2
   have di2 : decide ((i : Int) < 2) = true := by simp; omega
   have vi : IntKind.i64.wrap ((i : Int) + 1) = (i : Int) + 1 := IntWalk.i64_in _ (by omega)
   have HPS := Lib.hid (P1_succ K m G i hi2)
   have hf0 : ((i : Int) == 1) = decide (i = 1) := by
    obtain rfl | rfl : i = 0 ∨ i = 1 := by omega
    ·rfl
    ·rfl
   obtain ⟨f, hf⟩ : ∃ f, decide (i = 1) = f := ⟨_, rfl⟩
   rw [hf] at hf0 HPS
   clear hf
   go_wp2_with fail
   obtain ⟨wo, rfl⟩ : ∃ wo : World, wo = wr := ⟨_, rfl⟩
   go_loopw [5, 7] (fun ov tv wr => ∃ (t : Nat) (L : List Mv), t ≤ G ∧ tv = .int .i64 t ∧ Hid (GL 91 4 (mvsK L) L.length W1 ov wr) ∧ Hid (L = P1 K m G i ++ P2 K m f t) ∧ L.length ≤ (i * 6 + t) * 576) (fun _ tv _ => G - (intOf tv).toNat)
   case atStart => exact ⟨0, L, by omega, rfl, HG, Lib.hid (by rw [HL.out, P2_zero, List.append_nil]), by omega⟩
   case round =>
    clear k0 k1 k2 k3 lk hsw
    clear HG HL hlen
    obtain ⟨t, L, ht, rfl, HG, HL, hlen⟩ := hrel
    have k0 := bCs (HG.out).bel cb0
    have k1 := bCs (HG.out).bel cb1
    have k2 := bCs (HG.out).bel cb2
    have k3 := bCs (HG.out).bel cb3
    have lk : LtW w.heap.size wr := Nat.lt_of_lt_of_le hs0 (HG.out).bel.size
    have hsw : W1.heap.size ≤ (wr).heap.size := (HG.out).bel.size
    by_cases htG : t < G
    ·have dt : decide ((t : Int) < (G : Int)) = true := by simpa using htG
     have vt : IntKind.i64.wrap ((t : Int) + 1) = (t : Int) + 1 := IntWalk.i64_in _ (by omega)
     go_wp2_with fail
     obtain ⟨wp, rfl⟩ : ∃ wp : World, wp = wr := ⟨_, rfl⟩
     go_loopw [5, 8] (fun ov yv wr => ∃ (y : Nat) (L : List Mv), y ≤ m ∧ yv = .int .i64 y ∧ Hid (GL 91 4 (mvsK L) L.length W1 ov wr) ∧ Hid (L = (P1 K m G i ++ P2 K m f t) ++ P3 K m t f (y * m)) ∧ L.length ≤ (i * 6 + t) * 576 + y * 24) (fun _ yv _ => m - (intOf yv).toNat)
     case atStart => exact ⟨0, L, by omega, rfl, HG, Lib.hid (by rw [HL.out, Nat.zero_mul, P3_zero, List.append_nil]), by omega⟩
     case round =>
      clear k0 k1 k2 k3 lk hsw
      clear HG HL hlen
      obtain ⟨y, L, hy, rfl, HG, HL, hlen⟩ := hrel
      have k0 := bCs (HG.out).bel cb0
      have k1 := bCs (HG.out).bel cb1
      have k2 := bCs (HG.out).bel cb2
      have k3 := bCs (HG.out).bel cb3
      have lk : LtW w.heap.size wr := Nat.lt_of_lt_of_le hs0 (HG.out).bel.size
      have hsw : W1.heap.size ≤ (wr).heap.size := (HG.out).bel.size
      by_cases hym : y < m
      ·have dy : decide ((y : Int) < (m : Int)) = true := by simpa using hym
       have vy : IntKind.i64.wrap ((y : Int) + 1) = (y : Int) + 1 := IntWalk.i64_in _ (by omega)
       go_wp2_with fail
       obtain ⟨wq, rfl⟩ : ∃ wq : World, wq = wr := ⟨_, rfl⟩
       go_loopw [5, 9] (fun ov xv wr => ∃ (x : Nat) (L : List Mv), x ≤ m ∧ xv = .int .i64 x ∧ Hid (GL 91 4 (mvsK L) L.length W1 ov wr) ∧ Hid (L = (P1 K m G i ++ P2 K m f t) ++ P3 K m t f (y * m + x)) ∧ L.length ≤ (i * 6 + t) * 576 + y * 24 + x) (fun _ xv _ => m - (intOf xv).toNat)
       case atStart => exact ⟨0, L, by omega, rfl, HG, HL, by omega⟩
       case round =>
        clear k0 k1 k2 k3 lk hsw
        clear HG HL hlen
        obtain ⟨x, L, hx, rfl, HG, HL, hlen⟩ := hrel
        have k0 := bCs (HG.out).bel cb0
        have k1 := bCs (HG.out).bel cb1
        have k2 := bCs (HG.out).bel cb2
        have k3 := bCs (HG.out).bel cb3
        have lk : LtW w.heap.size wr := Nat.lt_of_lt_of_le hs0 (HG.out).bel.size
        have hsw : W1.heap.size ≤ (wr).heap.size := (HG.out).bel.size
        by_cases hxm : x < m
        ·have dx : decide ((x : Int) < (m : Int)) = true := by simpa using hxm
         have vx : IntKind.i64.wrap ((x : Int) + 1) = (x : Int) + 1 := IntWalk.i64_in _ (by omega)
         have HPS3 := Lib.hid (P3_succ K m t f (y * m + x))
         rw [pnt_at hxm] at HPS3
         have HKP1 := Lib.hid (fun w hI => HKP.out t f (x : Int) (y : Int) w hI htG (by omega) (by omega))
         have hbL : Below wr.heap.size wr (wr.alloc (.cells #[.int .i64 (t : Int), .bool f, .int .i64 (x : Int), .int .i64 (y : Int)] 91)) := (Below.refl _ _).alloc (Nat.le_refl _) _
         have HIW := Lib.hid (HI.out.below ((HB1.out.trans (HG.out.bel.mono (Nat.le_of_lt hs0))).trans (hbL.mono (Nat.le_trans (Nat.le_of_lt hs0) hsw))))
         clear HALL
         cases hkb : K ⟨t, f, ((x : Int), (y : Int))⟩ with
         | true =>
          rw [hkb] at HKP1 HPS3
          have HPT : Hid (P3 K m t f (y * m + (x + 1)) = P3 K m t f (y * m + x) ++ [⟨t, f, ((x : Int), (y : Int))⟩]) := Lib.hid (by have := HPS3.out; rw [← Nat.add_assoc]; simpa using this)
          go_wp2_with fail
          refine (HKP1.out _ HIW.out).mono ?_
          rintro r w3 ⟨rfl, hb3⟩
          have p0 : w3.cell? ⟨wr.heap.size, 0, none⟩ = some (.int .i64 (t)) := bCs hb3 (by simp [go_sem])
          have p1 : w3.cell? ⟨wr.heap.size, 1, none⟩ = some (.bool f) := bCs hb3 (by simp [go_sem])
          have p2 : w3.cell? ⟨wr.heap.size, 2, none⟩ = some (.int .i64 (x)) := bCs hb3 (by simp [go_sem])
          have p3 : w3.cell? ⟨wr.heap.size, 3, none⟩ = some (.int .i64 (y)) := bCs hb3 (by simp [go_sem])
          have lp : LtW wr.heap.size w3 := World.block_lt_of_cell? _ _ p0
          have HG3 := Lib.hid ((HG.out.below hbL).below hb3)
          clear k0 k1 k2 k3 lk hsw
          clear HG HIW hb3 hbL HPS3
          go_wp2_with (at_builtin; refine wpAppM okMv rfl (.tmp 42) (.tmp 44) rfl W1.heap.size _ _ _ #[.int .i64 (t : Int), .bool f, .int .i64 (x : Int), .int .i64 (y : Int)] rfl HG3.out.own rfl rfl ?_ (by omega) (by omega) HG3.out.bel.size ?_)
          ·simp [Value.oneCell']
          intro v' w4 hown4 hg4 hb4
          obtain ⟨A', cp', rfl⟩ := own_form hown4
          have HG4 : Hid (GL 91 4 (mvsK (L ++ [⟨t, f, ((x : Int), (y : Int))⟩])) (L ++ [(⟨t, f, ((x : Int), (y : Int))⟩ : Mv)]).length W1 (.slice A' (L.length + 1) cp') w4) := Lib.hid ⟨by rw [mvsK_app, List.length_append]; exact hown4, HG3.out.bel.trans hb4⟩
          clear hown4 hg4 hb4 HG3 p0 p1 p2 p3 lp
          go_wp2
          go_roundw
          case rel => exact ⟨x + 1, L ++ [⟨t, f, ((x : Int), (y : Int))⟩], by omega, by go_num, HG4, Lib.hid (by rw [HPT.out, ← List.append_assoc, ← HL.out]), by simp; omega⟩
          case measure => simp [intOf]; omega
         | false =>
          rw [hkb] at HKP1 HPS3
          have HPT : Hid (P3 K m t f (y * m + (x + 1)) = P3 K m t f (y * m + x)) := Lib.hid (by have := HPS3.out; rw [← Nat.add_assoc]; simpa using this)
          go_wp2_with fail
          refine (HKP1.out _ HIW.out).mono ?_
          rintro r w3 ⟨rfl, hb3⟩
          have HG3 := Lib.hid ((HG.out.below hbL).below hb3)
          clear k0 k1 k2 k3 lk hsw
          clear HG HIW hb3 hbL HPS3
          go_wp2
          go_roundw
          case rel => exact ⟨x + 1, L, by omega, by go_num, HG3, Lib.hid (by rw [HPT.out]; exact HL.out), by omega⟩
          case measure => simp [intOf]; omega
        ·obtain rfl : x = m := by omega
         have dx : decide ((x : Int) < (x : Int)) = false := by simp
         rw [← Nat.succ_mul] at HL
         go_wp2
         go_roundw
         case rel => exact ⟨y + 1, L, by omega, by go_num, HG, HL, by omega⟩
         case measure => simp [intOf]; omega
      ·obtain rfl : y = m := by omega
       have dy : decide ((y : Int) < (y : Int)) = false := by simp
       have HL2 : Hid (L = P1 K y G i ++ P2 K y f (t + 1)) := Lib.hid (by rw [P2_succ, ← List.append_assoc]; exact HL.out)
       go_wp2
       go_roundw
       case rel => exact ⟨t + 1, L, by omega, by go_num, HG, HL2, by omega⟩
       case measure => simp [intOf]; omega
    ·obtain rfl : t = G := by omega
     have dt : decide ((t : Int) < (t : Int)) = false := by simp
     have HL2 : Hid (L = P1 K m t (i + 1)) := Lib.hid (by rw [HPS.out]; exact HL.out)
     go_wp2
     go_roundw
     case rel => exact ⟨i + 1, L, by omega, by go_num, HG, HL2, by omega⟩
     case measure => simp [intOf]; omega
  ·obtain rfl : i = 2 := by omega
   obtain rfl : L = ML := HL.out.trans HALL.out
   obtain ⟨A, C, rfl⟩ := own_form HG.out.own
   have HO : Hid (OwnM wr w.heap.size A L.length C L) := Lib.hid ⟨rfl, own_baseV HG.out.own (Nat.le_of_lt hs0)⟩
   have HBL := Lib.hid (HB1.out.trans (HG.out.bel.mono (Nat.le_of_lt hs0)))
   clear HG HL HALL HKP
   go_wp2
   go_ret
   exact ⟨⟨A, C, rfl, HO.out⟩, HBL.out⟩
end
section
open Go.RowKit
open Z (torN place pnt Mv To lin okT nrm keepB colP idm)
def TorBad (e : Int) (V : Value) (a : Option Addr) (n : Nat) (cs : List Int) : Prop :=
 e ≠ 0 ∧ (∀ w, IsInts w a n cs → Calls Tryz.prog 70 #[V] w fun r w' => r = .returned (.tuple #[.int .i64 (0), .int .i64 (e)]) ∧ Below w.heap.size w w') ∧ (∀ w, IsInts w a n cs → Calls Tryz.prog 15 #[V] w fun r w' => r = .returned (.tuple #[.int .i64 (0), .int .i64 (e)]) ∧ Below w.heap.size w w')
theorem torOk {G W H n N : Nat} {a : Option Addr} {c : Nat} {cs : List Int} (h : ChOk G W H n cs) (hN : torN W H = N) (h24 : N ≤ 24) :
  (∀ w, IsInts w a n cs → Calls Tryz.prog 70 #[.agg #[.int .i64 (G), .int .i64 (W), .int .i64 (H), .slice a n c]] w fun r w' => r = .returned (.tuple #[.int .i64 (N), .int .i64 (0)]) ∧ Below w.heap.size w w') ∧
  (∀ w, IsInts w a n cs → Calls Tryz.prog 15 #[.agg #[.int .i64 (G), .int .i64 (W), .int .i64 (H), .slice a n c]] w fun r w' => r = .returned (.tuple #[.int .i64 (N), .int .i64 (0)]) ∧ Below w.heap.size w w') := by
 have hv : torV (torN W H) = .tuple #[.int .i64 (N), .int .i64 (0)] := by unfold torV; rw [hN, if_neg (by omega)]
 exact ⟨fun w hI => by rw [← hv]; exact Torus_ok G W H n a c cs w hI h, fun w hI => by rw [← hv]; exact rTorus_ok G W H n a c cs w hI h⟩
def MvPost (L : List Mv) (e : Int) (w : World) (r : Ending) (w' : World) : Prop := (∃ A C, r = .returned (.tuple #[.slice A L.length C, .int .i64 (e)]) ∧ OwnM w' w.heap.size A L.length C L) ∧ Below w.heap.size w w'
theorem OwnM.none (w : World) (b : Nat) : OwnM w b none 0 0 [] := ⟨rfl, World.ownsRow_nil _ _ _ _⟩
set_option maxRecDepth 100000 in
set_option maxHeartbeats 8000000 in
theorem Moves_bad (G W H : Int) (a : Option Addr) (n c : Nat) (cs : List Int) (w : World) (hI : IsInts w a n cs) (e : Int) (hT : TorBad e (.agg #[.int .i64 (G), .int .i64 (W), .int .i64 (H), .slice a n c]) a n cs) :
  Calls Tryz.prog 65 #[.agg #[.int .i64 (G), .int .i64 (W), .int .i64 (H), .slice a n c]] w (MvPost [] e w) := by
 have hb : (e != 0) = true := by simpa using hT.1
 have HL := Lib.hid (fun w hI => laid_bad G W H a n c cs w hI e hT.1 hT.2.1)
 have HI := Lib.hid hI
 clear hI hT
 go_enter Tryz.func65, Tryz.ntmps65
 (go_wp2_with fail; refine (HL.out _ (HI.out.below blw)).mono ?_; rintro r w1 ⟨rfl, hb⟩; obtain ⟨E, d, rfl⟩ := bExt hb; clear hb)
 go_wp2
 go_ret2
 exact ⟨⟨none, 0, rfl, OwnM.none _ _⟩, blw⟩
theorem OwnM.base {w : World} {base base' n C : Nat} {A : Option Addr} {L : List Mv} (h : OwnM w base A n C L) (hb : base' ≤ base) : OwnM w base' A n C L := ⟨h.1, own_baseV h.2 hb⟩
set_option maxRecDepth 100000 in
set_option maxHeartbeats 8000000 in
theorem Moves_ok (G W H n N : Nat) (a : Option Addr) (c : Nat) (cs : List Int) (w : World) (hI : IsInts w a n cs) (h : ChOk G W H n cs) (hN : torN W H = N) (h24 : N ≤ 24) (h0 : 0 < N) :
  Calls Tryz.prog 65 #[.agg #[.int .i64 (G), .int .i64 (W), .int .i64 (H), .slice a n c]] w (MvPost (Z.movesL W H cs G N) 0 w) := by
 obtain ⟨M, hM⟩ : ∃ M, N * N = M := ⟨_, rfl⟩
 have HL := Lib.hid (fun w hI => laid_ok G W H n N M a c cs w hI h hN h24 hM)
 have hd := Z.torN_dvd W H
 rw [hN] at hd
 have HA := Lib.hid (fun a c w hI => all_ok G W H N M a c cs w hI h.g h0 h24 hM hd.1 hd.2)
 have HI := Lib.hid hI
 clear hI hN hM h hd
 go_enter Tryz.func65, Tryz.ntmps65
 go_wp2_with fail
 refine (HL.out _ (HI.out.below blw)).mono ?_
 rintro r w2 ⟨⟨A, C, rfl, hA⟩, hb2⟩
 have HB2 : Hid (Below w.heap.size w w2) := Lib.hid (((Below.refl _ _).alloc (Nat.le_refl _) _).trans (hb2.mono (by simp)))
 have HA2 := Lib.hid hA.ints
 have hs2 : w.heap.size < w2.heap.size := by have := hb2.size; simp at this; omega
 clear hA hb2
 go_wp2_with fail
 refine (HA.out A C _ (HA2.out.below ((Below.refl _ _).alloc (Nat.le_refl _) _))).mono ?_
 rintro r w3 ⟨⟨B, D, rfl, hB⟩, hb3⟩
 have HB3 : Hid (Below w.heap.size w w3) := Lib.hid ((HB2.out.alloc (Nat.le_of_lt hs2) _).trans (hb3.mono (by simp; omega)))
 have HM := Lib.hid (hB.base (base' := w.heap.size) (by simp; omega))
 clear hB hb3
 go_wp2
 go_ret2
 exact ⟨⟨B, D, rfl, HM.out⟩, HB3.out⟩
end
section
open Go.RowKit
open Z (torN place pnt Mv To lin okT nrm keepB colP idm md redM)
set_option maxRecDepth 100000 in
set_option maxHeartbeats 8000000 in
theorem On_ok (n : Nat) (x y : Int) (w : World) (hn : 0 < n) (h24 : n ≤ 64) (hx : (-9223372036854775808 ≤ x ∧ x ≤ 9223372036854775807)) (hy : (-9223372036854775808 ≤ y ∧ y ≤ 9223372036854775807)) :
  Calls Tryz.prog 50 #[.int .i64 (n), .agg #[.int .i64 (x), .int .i64 (y)]] w fun e w' => e = .returned (.agg #[.int .i64 (x % (n : Int)), .int .i64 (y % (n : Int))]) ∧ Below w.heap.size w w' := by
 have HX := Lib.hid (fun w => Rest_ok x n w hn h24 hx)
 have HY := Lib.hid (fun w => Rest_ok y n w hn h24 hy)
 generalize x % (n : Int) = p at *
 generalize y % (n : Int) = q at *
 clear hx hy hn
 go_enter Tryz.func50, Tryz.ntmps50
 go_wp2_with fail
 (refine wp_region_ext_tail 8 (by kernel_rfl) (by kernel_rfl) ?_; simp only [List.take_succ_cons, List.take_zero, List.drop_succ_cons, List.drop_zero]; (repeat (first | ((with_reducible refine ext_step (fun K hK => ?_)); go_simp; first | (refine hK _ ?_; clear hK K) | (apply Exists.intro; refine ⟨fun _ _ => ?_, hK _ ?_⟩; (go_at_call 91; first | (with_reducible exact extOf (HX.out _)) | (with_reducible exact extOf (HY.out _))); clear hK K)))); refine wpQuiet_nil ?_; intro E d)
 go_wp2
 refine bodyPost_ret (v := .agg #[.int .i64 (p), .int .i64 (q)]) (by simp [results, Tryz.results50, go_sem]) rfl ⟨rfl, blw⟩
end
section
open Go.RowKit
namespace Z
theorem length_by (g : Nat) (f : Mv → Nat) (m : Nat) : ∀ L : List Mv, (∀ x ∈ L, f x < m) → L.length = sumL (List.range m) fun v => L.countP fun x => f x == v
 | [], _ => by rw [sumL_zero]; rfl; intro x _; rfl
 | a :: L, h => by
  have ih := length_by g f m L (fun x hx => h x (List.mem_cons_of_mem _ hx))
  have h1 : ∀ v, (a :: L).countP (fun x => f x == v) = L.countP (fun x => f x == v) + (if f a == v then 1 else 0) := fun v => List.countP_cons
  simp only [h1]
  rw [sumL_add, ← ih, List.length_cons]
  congr 1
  rw [sumL_one List.nodup_range (List.mem_range.2 (h a (List.mem_cons_self ..))) (fun x _ hx => by simp [Ne.symm hx])]
  simp
end Z
end
namespace Z
def latB (a b c : Int) (z : Pt) : Bool := decide (z.2 % b = 0) && decide ((z.1 - z.2 / b * c) % a = 0)
theorem latB_iff {a b c : Int} {z : Pt} : latB a b c z = true ↔ b ∣ z.2 ∧ a ∣ z.1 - z.2 / b * c := by
 unfold latB
 rw [Bool.and_eq_true, decide_eq_true_eq, decide_eq_true_eq]
 exact ⟨fun h => ⟨Int.dvd_of_emod_eq_zero h.1, Int.dvd_of_emod_eq_zero h.2⟩, fun h => ⟨Int.emod_eq_zero_of_dvd h.1, Int.emod_eq_zero_of_dvd h.2⟩⟩
theorem latB_stp {col : Pt → Int} {a b c : Int} (h : Fine (Stp col) a b c) (z : Pt) : latB a b c z = true ↔ Stp col z := by
 rw [latB_iff, h.spec (stp_sub col)]
def rf (g : Int) (t : Nat) (z : Pt) : Pt := lin g t true z
theorem rf_rf {g : Int} (hg : G g) (t : Nat) (z : Pt) : rf g t (rf g t z) = z := by
 unfold rf lin mir
 simp only [if_true]
 rw [tn_conj hg, conj_conj]
theorem rf_add (g : Int) (t : Nat) (y z : Pt) : rf g t (add y z) = add (rf g t y) (rf g t z) := lin_add _ _ _ _ _
theorem rf_sml (g k : Int) (t : Nat) (z : Pt) : rf g t (sml k z) = sml k (rf g t z) := lin_sml _ _ _ _ _
def al (g : Int) (t : Nat) (z : Pt) : Pt := add z (rf g t z)
theorem al_fix {g : Int} (hg : G g) (t : Nat) (z : Pt) : rf g t (al g t z) = al g t z := by
 unfold al
 rw [rf_add, rf_rf hg]
 apply ext2 <;> simp [add] <;> omega
theorem rf4 (t : Nat) (ht : t < 4) (x y : Int) : rf 4 t (x, y) = if t = 0 then (x, -y) else if t = 1 then (y, x) else if t = 2 then (-x, y) else (-y, -x) := by
 have h4 : t = 0 ∨ t = 1 ∨ t = 2 ∨ t = 3 := by omega
 rcases h4 with rfl | rfl | rfl | rfl <;> (apply ext2 <;> simp [rf, lin, mir, conj, miX, tn, turn])
theorem rf6 (t : Nat) (ht : t < 6) (x y : Int) : rf 6 t (x, y) = if t = 0 then (x + y, -y) else if t = 1 then (y, x) else if t = 2 then (-x, x + y) else if t = 3 then (-x - y, y) else if t = 4 then (-y, -x) else (x, -x - y) := by
 have h6 : t = 0 ∨ t = 1 ∨ t = 2 ∨ t = 3 ∨ t = 4 ∨ t = 5 := by omega
 rcases h6 with rfl | rfl | rfl | rfl | rfl | rfl <;> (apply ext2 <;> simp [rf, lin, mir, conj, miX, tn, turn] <;> omega)
theorem rf_bd {g : Int} (hg : G g) {t : Nat} (ht : t < g.toNat) {x y B : Int} (h : -B ≤ x ∧ x ≤ B ∧ -B ≤ y ∧ y ≤ B) : -(2 * B) ≤ (rf g t (x, y)).1 ∧ (rf g t (x, y)).1 ≤ 2 * B ∧ -(2 * B) ≤ (rf g t (x, y)).2 ∧ (rf g t (x, y)).2 ≤ 2 * B := by
 rcases hg with rfl | rfl
 ·rw [rf4 t ht]
  (repeat' split) <;> simp only <;> omega
 ·rw [rf6 t ht]
  (repeat' split) <;> simp only <;> omega
theorem al_lin (g : Int) (t : Nat) (x y : Int) : al g t (x, y) = add (sml x (al g t (1, 0))) (sml y (al g t (0, 1))) := by
 unfold al
 have e : (x, y) = add (sml x (1, 0)) (sml y (0, 1)) := by apply ext2 <;> simp [add, sml]
 have e2 : rf g t (x, y) = add (sml x (rf g t (1, 0))) (sml y (rf g t (0, 1))) := by
  conv => lhs; rw [e]
  rw [rf_add, rf_sml, rf_sml]
 rw [e2]
 apply ext2 <;> simp [add, sml, Int.mul_add] <;> omega
theorem al_some {g : Int} (hg : G g) {t : Nat} (ht : t < g.toNat) : al g t (1, 0) ≠ (0, 0) ∨ al g t (0, 1) ≠ (0, 0) := by
 rcases hg with rfl | rfl
 ·have : ∀ t : Fin 4, al 4 t.val (1, 0) ≠ (0, 0) ∨ al 4 t.val (0, 1) ≠ (0, 0) := by decide +kernel
  exact this ⟨t, ht⟩
 ·have : ∀ t : Fin 6, al 6 t.val (1, 0) ≠ (0, 0) ∨ al 6 t.val (0, 1) ≠ (0, 0) := by decide +kernel
  exact this ⟨t, ht⟩
theorem al_one {g : Int} (hg : G g) {t : Nat} (ht : t < g.toNat) {a b c : Int} (ha : 0 < a) (hb : 0 < b) (h0 : al g t (a, 0) = (0, 0)) : al g t (c, b) ≠ (0, 0) := by
 intro h1
 rw [al_lin] at h0 h1
 have e0 : al g t (1, 0) = (0, 0) := by
  have p : a * (al g t (1, 0)).1 + 0 * (al g t (0, 1)).1 = 0 := congrArg Prod.fst h0
  have q : a * (al g t (1, 0)).2 + 0 * (al g t (0, 1)).2 = 0 := congrArg Prod.snd h0
  rw [Int.zero_mul, Int.add_zero] at p q
  exact ext2 ((Int.mul_eq_zero.1 p).resolve_left (by omega)) ((Int.mul_eq_zero.1 q).resolve_left (by omega))
 rw [e0] at h1
 have e1 : al g t (0, 1) = (0, 0) := by
  have p : c * 0 + b * (al g t (0, 1)).1 = 0 := congrArg Prod.fst h1
  have q : c * 0 + b * (al g t (0, 1)).2 = 0 := congrArg Prod.snd h1
  rw [Int.mul_zero, Int.zero_add] at p q
  exact ext2 ((Int.mul_eq_zero.1 p).resolve_left (by omega)) ((Int.mul_eq_zero.1 q).resolve_left (by omega))
 rcases al_some hg ht with h | h
 ·exact h e0
 ·exact h e1
theorem stp_lin {g : Int} (hg : G g) {col : Pt → Int} {m : Mv} (hm : okT g m) (hk : Keep g col m) {z : Pt} (hz : Stp col z) : Stp col (lin g m.t m.f z) := by
 intro p
 have hi := both_inv hg hm
 have e : To g m (To g (inv g m) p) = p := by rw [← To_both hg (inv_ok hg hm), hi.2, To_idm]
 generalize To g (inv g m) p = q at e
 subst e
 have e2 : add (To g m q) (lin g m.t m.f z) = To g m (add q z) := by
  unfold To
  rw [lin_add]
  apply ext2 <;> simp [add] <;> omega
 rw [e2, hk, hz, hk]
theorem stp_al {g : Int} (hg : G g) {col : Pt → Int} {m : Mv} (hm : okT g m) (hk : Keep g col m) (hf : m.f = true) {z : Pt} (hz : Stp col z) : Stp col (al g m.t z) := by
 have := stp_lin hg hm hk hz
 rw [hf] at this
 exact (stp_sub col).add _ _ hz this
def dvN (a b c : Int) (v : Pt) (n : Nat) : Bool := decide (v.1 % (n : Int) = 0) && decide (v.2 % (n : Int) = 0) && latB a b c (v.1 / (n : Int), v.2 / (n : Int))
def shoN (a b c : Int) (v : Pt) : Nat → Nat
 | 0 => 0
 | n + 1 => if dvN a b c v (n + 1) then n + 1 else shoN a b c v n
def szP (v : Pt) : Nat := v.1.natAbs + v.2.natAbs
def shoP (a b c : Int) (v : Pt) : Pt := (v.1 / ((shoN a b c v (szP v) : Nat) : Int), v.2 / ((shoN a b c v (szP v) : Nat) : Int))
theorem shoN_spec {a b c : Int} {v : Pt} (h1 : dvN a b c v 1 = true) : ∀ n, 1 ≤ n → 1 ≤ shoN a b c v n ∧ shoN a b c v n ≤ n ∧ dvN a b c v (shoN a b c v n) = true
 | 0, h => by omega
 | n + 1, _ => by
  rw [shoN]
  split
  ·rename_i h
   exact ⟨by omega, Nat.le_refl _, h⟩
  ·rename_i h
   by_cases hn : n = 0
   ·subst hn
    exact absurd h1 h
   ·have := shoN_spec h1 n (by omega)
    exact ⟨this.1, by omega, this.2.2⟩
theorem dvN_one {a b c : Int} {v : Pt} (h : latB a b c v = true) : dvN a b c v 1 = true := by
 unfold dvN
 simp [Int.emod_one, Int.ediv_one]
 exact h
theorem szP_pos {v : Pt} (h : v ≠ (0, 0)) : 1 ≤ szP v := by
 unfold szP
 by_cases h1 : v.1 = 0
 ·by_cases h2 : v.2 = 0
  ·exact absurd (ext2 h1 h2) h
  ·omega
 ·omega
theorem shoP_spec {a b c : Int} {v : Pt} (hv : v ≠ (0, 0)) (h : latB a b c v = true) : latB a b c (shoP a b c v) = true ∧ shoP a b c v ≠ (0, 0) ∧ ∃ n : Nat, 1 ≤ n ∧ v = sml n (shoP a b c v) := by
 obtain ⟨h1, h2, h3⟩ := shoN_spec (dvN_one h) (szP v) (szP_pos hv)
 unfold dvN at h3
 rw [Bool.and_eq_true, Bool.and_eq_true, decide_eq_true_eq, decide_eq_true_eq] at h3
 obtain ⟨⟨h3, h4⟩, h5⟩ := h3
 have e : v = sml ((shoN a b c v (szP v) : Nat) : Int) (shoP a b c v) := by
  unfold shoP
  apply ext2
  ·simp only [sml]
   exact (Int.mul_ediv_cancel' (Int.dvd_of_emod_eq_zero h3)).symm
  ·simp only [sml]
   exact (Int.mul_ediv_cancel' (Int.dvd_of_emod_eq_zero h4)).symm
 refine ⟨h5, fun h0 => ?_, _, h1, e⟩
 rw [h0] at e
 exact hv (by rw [e]; apply ext2 <;> simp [sml])
def tms (z p : Pt) : Int := if p.1 ≠ 0 then Int.tdiv z.1 p.1 else Int.tdiv z.2 p.2
def wayP (g a b c : Int) (f : Mv) : Bool × Bool :=
 let a0 := al g f.t (a, 0)
 let a1 := al g f.t (c, b)
 let p := shoP a b c (if a0 = (0, 0) then a1 else a0)
 if Int.tmod (tms a0 p) 2 ≠ 0 ∨ Int.tmod (tms a1 p) 2 ≠ 0 then (true, true) else
  (decide (Int.tmod (tms (both g f f).o p) 2 = 0), !decide (Int.tmod (tms (both g f f).o p) 2 = 0))
def turnS (T : List Nat) (f : Mv) : List Nat := if f.f = true ∨ f.t ∈ T then T else T ++ [f.t]
def turnsF (L : List Mv) : List Nat := L.foldl turnS []
def wayS (g a b c : Int) (E : List (Nat × Bool × Bool)) (f : Mv) : List (Nat × Bool × Bool) := if f.f = false ∨ (E.any fun e => e.1 == f.t) = true then E else E ++ [(f.t, wayP g a b c f)]
def waysF (g a b c : Int) (L : List Mv) : List (Nat × Bool × Bool) := L.foldl (wayS g a b c) []
theorem turnS_nodup {T : List Nat} (h : T.Nodup) (f : Mv) : (turnS T f).Nodup := by
 unfold turnS
 split
 ·exact h
 ·rename_i hn
  rw [List.nodup_append]
  refine ⟨h, by simp, ?_⟩
  intro x hx y hy e
  simp at hy
  subst hy e
  exact hn (.inr hx)
theorem turnsF_snoc (L : List Mv) (f : Mv) : turnsF (L ++ [f]) = turnS (turnsF L) f := by
 unfold turnsF
 rw [List.foldl_append]
 rfl
theorem waysF_snoc (g a b c : Int) (L : List Mv) (f : Mv) : waysF g a b c (L ++ [f]) = wayS g a b c (waysF g a b c L) f := by
 unfold waysF
 rw [List.foldl_append]
 rfl
def kindP (tn : Nat) (al9 : Bool) (E : List (Nat × Bool × Bool)) : Int :=
 if tn = 1 then (if E = [] then 1 else if (∀ e ∈ E, e.2 = (true, false)) then 3 else if (∀ e ∈ E, e.2 = (false, true)) then 4 else 5)
 else if tn = 2 then (if E = [] then 2 else if (∀ e ∈ E, e.2 = (true, false)) then 6 else if (∀ e ∈ E, e.2 = (false, true)) then 8 else if (∀ e ∈ E, e.2 = (true, true)) then 9 else 7)
 else if tn = 3 then (if E = [] then 13 else if al9 = true then 15 else 14)
 else if tn = 4 then (if E = [] then 10 else if (∀ e ∈ E, e.2.1 = true) then 11 else 12)
 else if E = [] then 16 else 17
end Z
end Go.Proofs.YtajdoobkfbdgoaaGreatDoor
