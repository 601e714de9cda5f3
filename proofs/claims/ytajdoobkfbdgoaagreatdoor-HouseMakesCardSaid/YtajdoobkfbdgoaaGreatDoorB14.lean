/- Lemmas on which the law of this seat rests; each states its own conditions. -/
import Derived.Test.YtajdoobkfbdgoaaGreatDoorB13
import Derived.Test.YtajdoobkfbdgoaaGreatDoorB11
import Derived.Test.YtajdoobkfbdgoaaGreatDoorB02
set_option linter.unusedVariables false
set_option linter.unusedSimpArgs false
namespace Go.Proofs.YtajdoobkfbdgoaaGreatDoor
section
open Go.RowKit
open Z (torN place pnt Mv To lin okT nrm both idm md stepB)
set_option maxRecDepth 100000 in
set_option maxHeartbeats 8000000 in
theorem rKind_ok (G W H n N : Nat) (a : Option Addr) (c : Nat) (cs : List Int) (w : World) (hI : IsInts w a n cs) (h : ChOk G W H n cs) (hN : torN W H = N) (h24 : N ≤ 24) (h0 : 0 < N) (hlen : (Z.movesL W H cs G N).length ≤ 10000) :
  Calls Tryz.prog 14 #[.agg #[.int .i64 (G), .int .i64 (W), .int .i64 (H), .slice a n c]] w fun r w' => r = .returned (.tuple #[.int .i64 (rkP G N (Z.movesL W H cs G N)), .int .i64 (0)]) ∧ Below w.heap.size w w' := by
 have hg : Z.G (G : Int) := by have := h.g; show (G : Int) = 4 ∨ (G : Int) = 6; omega
 have hG6 : G ≤ 6 := by have := h.g; omega
 have hgt : (G : Int).toNat = G := by omega
 have hd := Z.torN_dvd W H
 rw [hN] at hd
 have HO := Lib.hid (mvsOk_moves (cs := cs) hg h0 h24 hd)
 have HTO := Lib.hid (torOk (a := a) (c := c) h hN h24).2
 have HAL := Lib.hid (fun w hI => rAll_ok G W H n N a c cs w hI h h24)
 have HI := Lib.hid hI
 unfold rkP
 generalize Z.movesL W H cs G N = L at *
 obtain ⟨k, hk⟩ : ∃ k, L.length = k := ⟨_, rfl⟩
 rw [hk] at hlen
 have HK := Lib.hid hk
 have HLA : ∀ P : Mv → Bool, Hid (anyL P L k = L.any P) := fun P => Lib.hid (by unfold anyL; rw [← hk, List.take_length])
 obtain ⟨TU, hTU⟩ : ∃ TU : Nat → Bool, (fun t => L.any (PT t)) = TU := ⟨_, rfl⟩
 obtain ⟨FL, hFL⟩ : ∃ FL : Nat → Bool, (fun t => L.any (PF t)) = FL := ⟨_, rfl⟩
 obtain ⟨SO, hSO⟩ : ∃ SO : Nat → Bool, (fun t => L.any (PS G L N t)) = SO := ⟨_, rfl⟩
 obtain ⟨OT, hOT⟩ : ∃ OT : Nat → Bool, (fun t => L.any (PO G L N t)) = OT := ⟨_, rfl⟩
 rw [hTU, hFL, hSO, hOT]
 have HDU : Hid (∀ t, anyL (PT t) L k = TU t) := Lib.hid fun t => by rw [← hTU]; exact (HLA _).out
 have HDF : Hid (∀ t, anyL (PF t) L k = FL t) := Lib.hid fun t => by rw [← hFL]; exact (HLA _).out
 have HDS : Hid (∀ t, anyL (PS G L N t) L k = SO t) := Lib.hid fun t => by rw [← hSO]; exact (HLA _).out
 have HDO : Hid (∀ t, anyL (PO G L N t) L k = OT t) := Lib.hid fun t => by rw [← hOT]; exact (HLA _).out
 clear hTU hFL hSO hOT HLA
 rw [hk]
 have HMI := Lib.hid (fun A C w hIM => Mirrors_ok G W H a n c L k N A C w hg hIM HO.out hlen h24)
 have hRB := mvsB_mir h24 HO.out
 have hRL := mrL_len (G : Int) (N : Int) L k
 rw [hk] at hRB
 obtain ⟨R, hR⟩ : ∃ R, mrL (G : Int) N L k = R := ⟨_, rfl⟩
 rw [hR] at HMI hRB hRL ⊢
 have HCE : Hid (∀ A C am cm w, IsMoves w A k L → IsMoves w am R.length R → Calls Tryz.prog 47 #[.agg #[.int .i64 (G), .int .i64 (W), .int .i64 (H), .slice a n c], .int .i64 (N), .slice A k C, .slice am R.length cm, .int .i64 (2)] w fun e w' => e = .returned (.bool (cenB G N L R 2)) ∧ Below w.heap.size w w') := Lib.hid fun A C am cm w h1 h2 => Centred_ok G W H a n c L R k R.length N 2 A am C cm w hg h24 h1 HO.out h2 hRB hlen (by omega)
 have HSM : Hid (∀ A C am cm w, IsMoves w A k L → IsMoves w am R.length R → Calls Tryz.prog 48 #[.agg #[.int .i64 (G), .int .i64 (W), .int .i64 (H), .slice a n c], .slice A k C, .slice am R.length cm, .int .i64 (1)] w fun e w' => e = .returned (.bool (someB G L R 1)) ∧ Below w.heap.size w w') := Lib.hid fun A C am cm w h1 h2 => Some_ok G W H a n c L R k R.length 1 A am C cm w hg h1 HO.out h2 hRB hlen (by omega)
 obtain ⟨cT, hcT⟩ : ∃ cT : Int, ((cnt TU G : Nat) : Int) = cT := ⟨_, rfl⟩
 obtain ⟨cF, hcF⟩ : ∃ cF : Int, ((cnt FL G : Nat) : Int) = cF := ⟨_, rfl⟩
 obtain ⟨cS, hcS⟩ : ∃ cS : Int, ((cnt SO G : Nat) : Int) = cS := ⟨_, rfl⟩
 obtain ⟨cO, hcO⟩ : ∃ cO : Int, ((cnt OT G : Nat) : Int) = cO := ⟨_, rfl⟩
 rw [hcT, hcF, hcS, hcO]
 have HcT := Lib.hid hcT; have HcF := Lib.hid hcF; have HcS := Lib.hid hcS; have HcO := Lib.hid hcO
 clear hcT hcF hcS hcO
 generalize cenB G N L R 2 = ce at *
 generalize someB G L R 1 = sm at *
 clear hR hRB hRL
 clear hI h hk hN
 go_enter Tryz.func14, Tryz.ntmps14
 (go_wp2_with fail; refine (HTO.out _ (HI.out.below blw)).mono ?_; rintro r w1 ⟨rfl, hb⟩; obtain ⟨E, d, rfl⟩ := bExt hb; clear hb)
 go_wp2_with fail
 refine (HAL.out _ (HI.out.below blw)).mono ?_
 rintro r W1 ⟨⟨A, C, rfl, hOM⟩, hb1⟩
 have HBW : Hid (Below w.heap.size w W1) := Lib.hid (Below.trans blw (hb1.mono bnd))
 have HIM := Lib.hid hOM.moves
 have b0 : W1.cell? ⟨w.heap.size, 0, none⟩ = some (.int .i64 (G)) := bCs hb1 (by simp [go_sem])
 have b1 : W1.cell? ⟨w.heap.size, 1, none⟩ = some (.int .i64 (W)) := bCs hb1 (by simp [go_sem])
 have b2 : W1.cell? ⟨w.heap.size, 2, none⟩ = some (.int .i64 (H)) := bCs hb1 (by simp [go_sem])
 have b3 : W1.cell? ⟨w.heap.size, 3, none⟩ = some (.slice a n c) := bCs hb1 (by simp [go_sem])
 have lw : LtW w.heap.size W1 := World.block_lt_of_cell? _ _ b0
 rw [HK.out] at HIM ⊢
 clear hb1 hOM HAL HTO HI
 go_wp2_with fail
 go_loopw [7, 8, 9, 10, 11] (fun v7 v8 v9 v10 tv wr => ∃ (t : Nat) (i7 i8 i9 i10 : Int) (E : Array Obj) (d : Nat), t ≤ G ∧ v7 = .int .i64 i7 ∧ v8 = .int .i64 i8 ∧ v9 = .int .i64 i9 ∧ v10 = .int .i64 i10 ∧ tv = .int .i64 t ∧ Hid (i7 = (cnt TU t : Nat)) ∧ Hid (i8 = (cnt FL t : Nat)) ∧ Hid (i9 = (cnt SO t : Nat)) ∧ Hid (i10 = (cnt OT t : Nat)) ∧ (0 ≤ i7 ∧ i7 ≤ t) ∧ (0 ≤ i8 ∧ i8 ≤ t) ∧ (0 ≤ i9 ∧ i9 ≤ t) ∧ (0 ≤ i10 ∧ i10 ≤ t) ∧ wr = extW W1 E d) (fun _ _ _ _ tv _ => G - (intOf tv).toNat)
 case atStart =>
  obtain ⟨E0, d0, h0⟩ := bExt (Below.refl W1.heap.size W1)
  exact ⟨0, 0, 0, 0, 0, E0, d0, by omega, rfl, rfl, rfl, rfl, rfl, Lib.hid rfl, Lib.hid rfl, Lib.hid rfl, Lib.hid rfl, by omega, by omega, by omega, by omega, h0⟩
 case round =>
  obtain ⟨t, i7, i8, i9, i10, E0, d0, ht, rfl, rfl, rfl, rfl, rfl, H7, H8, H9, H10, g7, g8, g9, g10, rfl⟩ := hrel
  by_cases htG : t < G
  ·have dt : decide ((t : Int) < (G : Int)) = true := by simpa using htG
   have vt : IntKind.i64.wrap ((t : Int) + 1) = (t : Int) + 1 := IntWalk.i64_in _ (by omega)
   have v7 : IntKind.i64.wrap (i7 + 1) = i7 + 1 := IntWalk.i64_in _ (by omega)
   have v8 : IntKind.i64.wrap (i8 + 1) = i8 + 1 := IntWalk.i64_in _ (by omega)
   have v9 : IntKind.i64.wrap (i9 + 1) = i9 + 1 := IntWalk.i64_in _ (by omega)
   have v10 : IntKind.i64.wrap (i10 + 1) = i10 + 1 := IntWalk.i64_in _ (by omega)
   go_wp2_with fail
   go_loopw [12, 13, 14, 15, 40] (fun v12 v13 v14 v15 jv wr => ∃ (j : Nat) (p12 p13 p14 p15 : Bool) (E : Array Obj) (d : Nat), j ≤ k ∧ v12 = .bool p12 ∧ v13 = .bool p13 ∧ v14 = .bool p14 ∧ v15 = .bool p15 ∧ jv = .int .i64 j ∧ Hid (p12 = anyL (PT t) L j) ∧ Hid (p13 = anyL (PF t) L j) ∧ Hid (p14 = anyL (PS G L N t) L j) ∧ Hid (p15 = anyL (PO G L N t) L j) ∧ wr = extW W1 E d) (fun _ _ _ _ jv _ => k - (intOf jv).toNat)
   case atStart => exact ⟨0, false, false, false, false, E0, d0, by omega, rfl, rfl, rfl, rfl, rfl, Lib.hid rfl, Lib.hid rfl, Lib.hid rfl, Lib.hid rfl, rfl⟩
   case round =>
    obtain ⟨j, p12, p13, p14, p15, E1, d1, hj, rfl, rfl, rfl, rfl, rfl, H12, H13, H14, H15, rfl⟩ := hrel
    by_cases hjk : j < k
    ·have dj : decide ((j : Int) < (k : Int)) = true := by simpa using hjk
     have vj : IntKind.i64.wrap ((j : Int) + 1) = (j : Int) + 1 := IntWalk.i64_in _ (by omega)
     obtain ⟨b, o, rfl, hbb, hc⟩ := HIM.out.2 (by omega)
     obtain ⟨c0, c1, c2, c3⟩ := hc j hjk
     have lb : LtW b W1 := hbb
     have hjL : j < L.length := by rw [HK.out]; exact hjk
     have hmem := getD_mem (L := L) (j := j) hjL
     have ht' := HO.out.t _ hmem
     have ho' := HO.out.o _ hmem
     have S12 := Lib.hid (anyL_succ (PT t) hjL)
     have S13 := Lib.hid (anyL_succ (PF t) hjL)
     have S14 := Lib.hid (anyL_succ (PS G L N t) hjL)
     have S15 := Lib.hid (anyL_succ (PO G L N t) hjL)
     rw [← H12.out] at S12
     rw [← H13.out] at S13
     rw [← H14.out] at S14
     rw [← H15.out] at S15
     obtain ⟨m, hm⟩ : ∃ m, L.getD j idm = m := ⟨_, rfl⟩
     rw [hm] at c0 c1 c2 c3 ht' ho' S12 S13 S14 S15
     clear hbb hc hm hmem H12 H13 H14 H15 hjL
     obtain ⟨t', f', x', y'⟩ := m
     simp only at c0 c1 c2 c3 ht' ho'
     by_cases htt : t' = t
     ·have htn : ((t' : Int) != (t : Int)) = false := by simp [htt]
      cases f' with
      | false =>
       have R12 : Hid (true = anyL (PT t) L (j + 1)) := Lib.hid (by rw [S12.out]; simp [PT, htt])
       have R13 : Hid (p13 = anyL (PF t) L (j + 1)) := Lib.hid (by rw [S13.out]; simp [PF])
       have R14 : Hid (p14 = anyL (PS G L N t) L (j + 1)) := Lib.hid (by rw [S14.out]; simp [PS])
       have R15 : Hid (p15 = anyL (PO G L N t) L (j + 1)) := Lib.hid (by rw [S15.out]; simp [PO])
       clear S12 S13 S14 S15 htt
       go_wp2
       go_roundw
       case rel => exact ⟨j + 1, true, p13, p14, p15, _, _, by omega, rfl, rfl, rfl, rfl, by go_num, R12, R13, R14, R15, by simp only [alloc_extW, extW_extW]; rfl⟩
       case measure => simp [intOf]; omega
      | true =>
       have R12 : Hid (p12 = anyL (PT t) L (j + 1)) := Lib.hid (by rw [S12.out]; simp [PT])
       have R13 : Hid (true = anyL (PF t) L (j + 1)) := Lib.hid (by rw [S13.out]; simp [PF, htt])
       have R14 : Hid ((p14 || anyN (lnK G L N ⟨t', true, (x', y')⟩) 9) = anyL (PS G L N t) L (j + 1)) := Lib.hid (by rw [S14.out]; simp [PS, htt])
       have R15 : Hid ((p15 || anyN (fun k => !lnK G L N ⟨t', true, (x', y')⟩ k) 9) = anyL (PO G L N t) L (j + 1)) := Lib.hid (by rw [S15.out]; simp [PO, htt])
       clear S12 S13 S14 S15 htt
       have HNN : Hid (∀ i j : Int, -1 ≤ i ∧ i ≤ 1 → -1 ≤ j ∧ j ≤ 1 → (-24 ≤ (N : Int) * i ∧ (N : Int) * i ≤ 24) ∧ (-24 ≤ (N : Int) * j ∧ (N : Int) * j ≤ 24)) := Lib.hid (by
        have hb : ∀ i : Int, -1 ≤ i ∧ i ≤ 1 → -24 ≤ (N : Int) * i ∧ (N : Int) * i ≤ 24 := fun i hi => by
         have h1 := Int.mul_le_mul_of_nonneg_left hi.1 (show (0 : Int) ≤ N by omega)
         have h2 := Int.mul_le_mul_of_nonneg_left hi.2 (show (0 : Int) ≤ N by omega)
         omega
        exact fun i j hi hj => ⟨hb i hi, hb j hj⟩)
       have HLI := Lib.hid (fun (p q : Int) w hI (h1 : -100 ≤ p ∧ p ≤ 100) (h2 : -100 ≤ q ∧ q ≤ 100) => Line_ok G L k N t' p q (some ⟨b, o, none⟩) C w hg ht' hI (by omega) h0 (by omega) (by omega) (by omega))
       obtain ⟨Q1, hQ1⟩ : ∃ Q1, lnK (G : Int) L N ⟨t', true, (x', y')⟩ = Q1 := ⟨_, rfl⟩
       obtain ⟨Q2, hQ2⟩ : ∃ Q2 : Nat → Bool, (fun k => !lnK (G : Int) L N ⟨t', true, (x', y')⟩ k) = Q2 := ⟨_, rfl⟩
       rw [hQ1] at R14
       rw [hQ2] at R15
       have HQ2 : Hid (∀ k, Q2 k = !Q1 k) := Lib.hid fun k => by rw [← hQ2, ← hQ1]
       have HQ1 : Hid (∀ u v : Nat, u < 3 → lnB (G : Int) L N t' (x' + (N : Int) * ((u : Int) - 1), y' + (N : Int) * ((v : Int) - 1)) = Q1 (3 * v + u)) := Lib.hid fun u v hu => by
        rw [← hQ1]
        unfold lnK q3 shM
        rw [show (3 * v + u) % 3 = u by omega, show (3 * v + u) / 3 = v by omega]
       clear hQ1 hQ2
       have HCL : Hid (Below w.heap.size w W1) := HBW
       clear H7 H8 H9 H10 HDU HDF HDS HDO HCE HSM HMI
       go_wp2_with fail
       go_loopw [14, 15, 18] (fun v14 v15 yv wr => ∃ (v : Nat) (y : Int) (c14 c15 : Bool) (E : Array Obj) (d : Nat), v ≤ 3 ∧ (-1 ≤ y ∧ y ≤ 2) ∧ Hid (y = (v : Int) - 1) ∧ v14 = .bool c14 ∧ v15 = .bool c15 ∧ yv = .int .i64 y ∧ Hid (c14 = (p14 || anyN Q1 (3 * v))) ∧ Hid (c15 = (p15 || anyN Q2 (3 * v))) ∧ wr = extW ((extW W1 E1 d1).alloc (.cells #[.int .i64 t', .bool true, .int .i64 x', .int .i64 y'] 91)) E d) (fun _ _ yv _ => (2 - intOf yv).toNat)
       case atStart =>
        obtain ⟨E9, d9, h9⟩ := bExt (Below.refl ((extW W1 E1 d1).alloc (.cells #[.int .i64 t', .bool true, .int .i64 x', .int .i64 y'] 91)).heap.size ((extW W1 E1 d1).alloc (.cells #[.int .i64 t', .bool true, .int .i64 x', .int .i64 y'] 91)))
        exact ⟨0, -1, p14, p15, E9, d9, by omega, by omega, Lib.hid rfl, rfl, rfl, rfl, Lib.hid (by simp [anyN]), Lib.hid (by simp [anyN]), h9⟩
       case round =>
        obtain ⟨v, y, c14, c15, E2, d2, hv, hy, HY, rfl, rfl, rfl, HA, HB, rfl⟩ := hrel
        by_cases hy1 : y ≤ 1
        ·have dy : decide (y ≤ 1) = true := by simpa using hy1
         have vy : IntKind.i64.wrap (y + 1) = y + 1 := IntWalk.i64_in _ (by omega)
         go_wp2_with fail
         go_loopw [14, 15, 19] (fun v14 v15 xv wr => ∃ (u : Nat) (x : Int) (c14 c15 : Bool) (E : Array Obj) (d : Nat), u ≤ 3 ∧ (-1 ≤ x ∧ x ≤ 2) ∧ Hid (x = (u : Int) - 1) ∧ v14 = .bool c14 ∧ v15 = .bool c15 ∧ xv = .int .i64 x ∧ Hid (c14 = (p14 || anyN Q1 (3 * v + u))) ∧ Hid (c15 = (p15 || anyN Q2 (3 * v + u))) ∧ wr = extW ((extW W1 E1 d1).alloc (.cells #[.int .i64 t', .bool true, .int .i64 x', .int .i64 y'] 91)) E d) (fun _ _ xv _ => (2 - intOf xv).toNat)
         case atStart => exact ⟨0, -1, c14, c15, E2, d2, by omega, by omega, Lib.hid rfl, rfl, rfl, rfl, HA, HB, rfl⟩
         case round =>
          clear HA HB
          obtain ⟨u, x, c14, c15, E3, d3, hu, hx, HX, rfl, rfl, rfl, HA, HB, rfl⟩ := hrel
          by_cases hx1 : x ≤ 1
          ·have dx : decide (x ≤ 1) = true := by simpa using hx1
           have vx : IntKind.i64.wrap (x + 1) = x + 1 := IntWalk.i64_in _ (by omega)
           have hu3 : u < 3 := by have := HX.out; omega
           have hnb := HNN.out x y (by omega) (by omega)
           have HSH := Lib.hid (fun w => shifted_any (N : Int) x y t' true x' y' w (by omega) (by omega) (by omega) (by omega) (by omega))
           have HLI1 := Lib.hid (fun w hI => HLI.out (x' + (N : Int) * x) (y' + (N : Int) * y) w hI (by omega) (by omega))
           have hq := HQ1.out u v hu3
           rw [← HX.out, ← HY.out] at hq
           rw [hq] at HLI1
           have hV1 : mvV ⟨t', true, (x' + (N : Int) * x, y' + (N : Int) * y)⟩ = .agg #[.int .i64 (t'), .bool (true), .int .i64 (x' + (N : Int) * x), .int .i64 (y' + (N : Int) * y)] := rfl
           rw [hV1] at HSH
           have hA := anyN_succ Q1 (3 * v + u)
           have hB := anyN_succ Q2 (3 * v + u)
           rw [HQ2.out] at hB
           clear hq hV1 hnb HNN HLI HQ1 HQ2
           generalize x' + (N : Int) * x = p at *
           generalize y' + (N : Int) * y = q at *
           cases hl : Q1 (3 * v + u) with
           | true =>
            rw [hl] at hA hB HLI1
            have HA2 : Hid (true = (p14 || anyN Q1 (3 * v + (u + 1)))) := Lib.hid (by rw [← Nat.add_assoc, hA]; simp)
            have HB2 : Hid (c15 = (p15 || anyN Q2 (3 * v + (u + 1)))) := Lib.hid (by rw [← Nat.add_assoc, hB, HB.out]; simp)
            clear hA hB hl HA HB
            go_wp2_with fail
            (refine wp_region_ext (by kernel_rfl) (by kernel_rfl) ?_; (repeat (first | ((with_reducible refine ext_step (fun K hK => ?_)); go_simp; first | (refine hK _ ?_; clear hK K) | (apply Exists.intro; refine ⟨fun _ _ => ?_, hK _ ?_⟩; (first | ((go_at_call 45; exact extOf (HSH.out _))) | ((go_at_call 44; exact extOf (HLI1.out _ (HIM.out.below blw))))); clear hK K)))); refine wpQuiet_nil ?_; intro E d)
            go_wp2
            go_roundw
            case rel => exact ⟨u + 1, x + 1, true, c15, _, _, by omega, by omega, Lib.hid (by have := HX.out; omega), rfl, rfl, by go_num, HA2, HB2, by simp only [extW_extW]; rfl⟩
            case measure => simp [intOf]; omega
           | false =>
            rw [hl] at hA hB HLI1
            have HA2 : Hid (c14 = (p14 || anyN Q1 (3 * v + (u + 1)))) := Lib.hid (by rw [← Nat.add_assoc, hA, HA.out]; simp)
            have HB2 : Hid (true = (p15 || anyN Q2 (3 * v + (u + 1)))) := Lib.hid (by rw [← Nat.add_assoc, hB]; simp)
            clear hA hB hl HA HB
            go_wp2_with fail
            (refine wp_region_ext (by kernel_rfl) (by kernel_rfl) ?_; (repeat (first | ((with_reducible refine ext_step (fun K hK => ?_)); go_simp; first | (refine hK _ ?_; clear hK K) | (apply Exists.intro; refine ⟨fun _ _ => ?_, hK _ ?_⟩; (first | ((go_at_call 45; exact extOf (HSH.out _))) | ((go_at_call 44; exact extOf (HLI1.out _ (HIM.out.below blw))))); clear hK K)))); refine wpQuiet_nil ?_; intro E d)
            go_wp2
            go_roundw
            case rel => exact ⟨u + 1, x + 1, c14, true, _, _, by omega, by omega, Lib.hid (by have := HX.out; omega), rfl, rfl, by go_num, HA2, HB2, by simp only [extW_extW]; rfl⟩
            case measure => simp [intOf]; omega
          ·obtain rfl : x = 2 := by omega
           have dx : decide ((2 : Int) ≤ 1) = false := by simp
           have hu3 : u = 3 := by have := HX.out; omega
           have HA2 : Hid (c14 = (p14 || anyN Q1 (3 * (v + 1)))) := Lib.hid (by rw [HA.out, hu3]; rfl)
           have HB2 : Hid (c15 = (p15 || anyN Q2 (3 * (v + 1)))) := Lib.hid (by rw [HB.out, hu3]; rfl)
           clear HA HB HX hu3
           go_wp2
           go_roundw
           case rel => exact ⟨v + 1, y + 1, c14, c15, _, _, by have := HY.out; omega, by omega, Lib.hid (by have := HY.out; omega), rfl, rfl, by go_num, HA2, HB2, rfl⟩
           case measure => simp [intOf]; omega
        ·obtain rfl : y = 2 := by omega
         have dy : decide ((2 : Int) ≤ 1) = false := by simp
         have hv3 : v = 3 := by have := HY.out; omega
         have HA2 : Hid (c14 = anyL (PS G L N t) L (j + 1)) := Lib.hid (by rw [HA.out, hv3]; exact R14.out)
         have HB2 : Hid (c15 = anyL (PO G L N t) L (j + 1)) := Lib.hid (by rw [HB.out, hv3]; exact R15.out)
         clear HA HB HY hv3 R14 R15
         go_wp2
         go_roundw
         case rel => exact ⟨j + 1, p12, true, c14, c15, _, _, by omega, rfl, rfl, rfl, rfl, by go_num, R12, R13, HA2, HB2, by simp only [alloc_extW, extW_extW]; rfl⟩
         case measure => simp [intOf]; omega
     ·have htn : ((t' : Int) != (t : Int)) = true := by simp; omega
      have R12 : Hid (p12 = anyL (PT t) L (j + 1)) := Lib.hid (by rw [S12.out]; simp [PT, htt])
      have R13 : Hid (p13 = anyL (PF t) L (j + 1)) := Lib.hid (by rw [S13.out]; simp [PF, htt])
      have R14 : Hid (p14 = anyL (PS G L N t) L (j + 1)) := Lib.hid (by rw [S14.out]; simp [PS, htt])
      have R15 : Hid (p15 = anyL (PO G L N t) L (j + 1)) := Lib.hid (by rw [S15.out]; simp [PO, htt])
      clear S12 S13 S14 S15 htt
      go_wp2
      go_roundw
      case rel => exact ⟨j + 1, p12, p13, p14, p15, _, _, by omega, rfl, rfl, rfl, rfl, by go_num, R12, R13, R14, R15, by simp only [alloc_extW, extW_extW]; rfl⟩
      case measure => simp [intOf]; omega
    ·obtain rfl : j = k := by omega
     have dj : decide ((j : Int) < (j : Int)) = false := by simp
     have C7 := Lib.hid (cnt_succ TU t)
     have C8 := Lib.hid (cnt_succ FL t)
     have C9 := Lib.hid (cnt_succ SO t)
     have C10 := Lib.hid (cnt_succ OT t)
     rw [← H7.out, ← (HDU.out t), ← H12.out] at C7
     rw [← H8.out, ← (HDF.out t), ← H13.out] at C8
     rw [← H9.out, ← (HDS.out t), ← H14.out] at C9
     rw [← H10.out, ← (HDO.out t), ← H15.out] at C10
     clear H7 H8 H9 H10 H12 H13 H14 H15 HDU HDF HDS HDO
     cases p12 <;> cases p13 <;> cases p14 <;> cases p15
     all_goals
      go_wp2
      go_roundw
      case rel => exact ⟨t + 1, _, _, _, _, _, _, by omega, rfl, rfl, rfl, rfl, by go_num, Lib.hid (by have h := C7.out; simp only [Bool.false_eq_true, if_true, if_false, Int.add_zero] at h; exact h.symm), Lib.hid (by have h := C8.out; simp only [Bool.false_eq_true, if_true, if_false, Int.add_zero] at h; exact h.symm), Lib.hid (by have h := C9.out; simp only [Bool.false_eq_true, if_true, if_false, Int.add_zero] at h; exact h.symm), Lib.hid (by have h := C10.out; simp only [Bool.false_eq_true, if_true, if_false, Int.add_zero] at h; exact h.symm), by omega, by omega, by omega, by omega, rfl⟩
      case measure => simp [intOf]; omega
  ·obtain rfl : t = G := by omega
   have dt : decide ((t : Int) < (t : Int)) = false := by simp
   obtain rfl : i7 = cT := H7.out.trans HcT.out
   obtain rfl : i8 = cF := H8.out.trans HcF.out
   obtain rfl : i9 = cS := H9.out.trans HcS.out
   obtain rfl : i10 = cO := H10.out.trans HcO.out
   clear H7 H8 H9 H10 HcT HcF HcS HcO HDU HDF HDS HDO
   go_wp2_with fail
   refine (HMI.out _ _ _ (HIM.out.below blw)).mono ?_
   rintro r W2 ⟨⟨A2, C2, rfl, hM2⟩, hb2⟩
   have hb3 : Below W1.heap.size W1 W2 := Below.trans blw (hb2.mono bnd)
   have HBW2 := Lib.hid (HBW.out.trans (hb3.mono HBW.out.size))
   have HIL := Lib.hid (HIM.out.below hb3)
   have HIR := Lib.hid hM2.moves
   have e0 := bCs hb3 b0
   have e1 := bCs hb3 b1
   have e2 := bCs hb3 b2
   have e3 := bCs hb3 b3
   have lw2 : LtW w.heap.size W2 := World.block_lt_of_cell? _ _ e0
   clear hb2 hb3 hM2 b0 b1 b2 b3 lw HIM HBW HMI g7 g8 g9 g10
   by_cases hT1 : i7 = 1
   ·subst hT1
    by_cases hF : i8 = 0
    ·subst hF
     have HV : Hid (rkS 1 0 i9 i10 ce sm = 1) := Lib.hid (by simp [rkS])
     clear HCE HSM HIL HIR
     go_wp2
     refine bodyPost_ret (v := .tuple #[.int .i64 (1), .int .i64 (0)]) (by simp [results, Tryz.results14, go_sem]) rfl ⟨by rw [HV.out], HBW2.out⟩
    ·have f8 : (i8 == 0) = false := by simpa using hF
     by_cases hO : i10 = 0
     ·subst hO
      have HV : Hid (rkS 1 i8 i9 0 ce sm = 3) := Lib.hid (by simp [rkS, hF])
      clear HCE HSM HIL HIR
      go_wp2
      refine bodyPost_ret (v := .tuple #[.int .i64 (3), .int .i64 (0)]) (by simp [results, Tryz.results14, go_sem]) rfl ⟨by rw [HV.out], HBW2.out⟩
     ·have f10 : (i10 == 0) = false := by simpa using hO
      by_cases hS : i9 = 0
      ·subst hS
       have HV : Hid (rkS 1 i8 0 i10 ce sm = 4) := Lib.hid (by simp [rkS, hF, hO])
       clear HCE HSM HIL HIR
       go_wp2
       refine bodyPost_ret (v := .tuple #[.int .i64 (4), .int .i64 (0)]) (by simp [results, Tryz.results14, go_sem]) rfl ⟨by rw [HV.out], HBW2.out⟩
      ·have f9 : (i9 == 0) = false := by simpa using hS
       have HV : Hid (rkS 1 i8 i9 i10 ce sm = 5) := Lib.hid (by simp [rkS, hF, hO, hS])
       clear HCE HSM HIL HIR
       go_wp2
       refine bodyPost_ret (v := .tuple #[.int .i64 (5), .int .i64 (0)]) (by simp [results, Tryz.results14, go_sem]) rfl ⟨by rw [HV.out], HBW2.out⟩
   ·have f71 : (i7 == 1) = false := by simpa using hT1
    by_cases hT2 : i7 = 2
    ·subst hT2
     clear hT1 f71
     by_cases hF : i8 = 0
     ·subst hF
      have HV : Hid (rkS 2 0 i9 i10 ce sm = 2) := Lib.hid (by simp [rkS])
      clear HCE HSM HIL HIR
      go_wp2
      refine bodyPost_ret (v := .tuple #[.int .i64 (2), .int .i64 (0)]) (by simp [results, Tryz.results14, go_sem]) rfl ⟨by rw [HV.out], HBW2.out⟩
     ·have f8 : (i8 == 0) = false := by simpa using hF
      by_cases hO : i10 = 0
      ·subst hO
       have HV : Hid (rkS 2 i8 i9 0 ce sm = 6) := Lib.hid (by simp [rkS, hF])
       clear HCE HSM HIL HIR
       go_wp2
       refine bodyPost_ret (v := .tuple #[.int .i64 (6), .int .i64 (0)]) (by simp [results, Tryz.results14, go_sem]) rfl ⟨by rw [HV.out], HBW2.out⟩
      ·have f10 : (i10 == 0) = false := by simpa using hO
       by_cases hS : i9 = 0
       ·subst hS
        have HV : Hid (rkS 2 i8 0 i10 ce sm = 8) := Lib.hid (by simp [rkS, hF, hO])
        clear HCE HSM HIL HIR
        go_wp2
        refine bodyPost_ret (v := .tuple #[.int .i64 (8), .int .i64 (0)]) (by simp [results, Tryz.results14, go_sem]) rfl ⟨by rw [HV.out], HBW2.out⟩
       ·have f9 : (i9 == 0) = false := by simpa using hS
        by_cases hS2 : i9 = 2
        ·subst hS2
         clear f9 hS
         have HV : Hid (rkS 2 i8 2 i10 ce sm = 9) := Lib.hid (by simp [rkS, hF, hO])
         clear HCE HSM HIL HIR
         go_wp2
         refine bodyPost_ret (v := .tuple #[.int .i64 (9), .int .i64 (0)]) (by simp [results, Tryz.results14, go_sem]) rfl ⟨by rw [HV.out], HBW2.out⟩
        ·have f92 : (i9 == 2) = false := by simpa using hS2
         have HV : Hid (rkS 2 i8 i9 i10 ce sm = 7) := Lib.hid (by simp [rkS, hF, hO, hS, hS2])
         clear HCE HSM HIL HIR
         go_wp2
         refine bodyPost_ret (v := .tuple #[.int .i64 (7), .int .i64 (0)]) (by simp [results, Tryz.results14, go_sem]) rfl ⟨by rw [HV.out], HBW2.out⟩
    ·have f72 : (i7 == 2) = false := by simpa using hT2
     by_cases hT3 : i7 = 3
     ·subst hT3
      clear hT1 hT2 f71 f72
      by_cases hF : i8 = 0
      ·subst hF
       have HV : Hid (rkS 3 0 i9 i10 ce sm = 13) := Lib.hid (by simp [rkS])
       clear HCE HSM HIL HIR
       go_wp2
       refine bodyPost_ret (v := .tuple #[.int .i64 (13), .int .i64 (0)]) (by simp [results, Tryz.results14, go_sem]) rfl ⟨by rw [HV.out], HBW2.out⟩
      ·have f8 : (i8 == 0) = false := by simpa using hF
       cases ce with
       | true =>
        have HV : Hid (rkS 3 i8 i9 i10 true sm = 14) := Lib.hid (by simp [rkS, hF])
        (go_wp2_with fail; refine (HCE.out _ _ _ _ _ (HIL.out.below blw) (HIR.out.below blw)).mono ?_; rintro r w1 ⟨rfl, hb⟩; obtain ⟨E, d, rfl⟩ := bExt hb; clear hb)
        have HBW3 := Lib.hid (bExtW HBW2.out HBW2.out.size (E := E) (d := d))
        go_wp2
        refine bodyPost_ret (v := .tuple #[.int .i64 (14), .int .i64 (0)]) (by simp [results, Tryz.results14, go_sem]) rfl ⟨by rw [HV.out], HBW3.out⟩
       | false =>
        have HV : Hid (rkS 3 i8 i9 i10 false sm = 15) := Lib.hid (by simp [rkS, hF])
        (go_wp2_with fail; refine (HCE.out _ _ _ _ _ (HIL.out.below blw) (HIR.out.below blw)).mono ?_; rintro r w1 ⟨rfl, hb⟩; obtain ⟨E, d, rfl⟩ := bExt hb; clear hb)
        have HBW3 := Lib.hid (bExtW HBW2.out HBW2.out.size (E := E) (d := d))
        go_wp2
        refine bodyPost_ret (v := .tuple #[.int .i64 (15), .int .i64 (0)]) (by simp [results, Tryz.results14, go_sem]) rfl ⟨by rw [HV.out], HBW3.out⟩
     ·have f73 : (i7 == 3) = false := by simpa using hT3
      by_cases hT4 : i7 = 4
      ·subst hT4
       clear hT1 hT2 hT3 f71 f72 f73
       by_cases hF : i8 = 0
       ·subst hF
        have HV : Hid (rkS 4 0 i9 i10 ce sm = 10) := Lib.hid (by simp [rkS])
        clear HCE HSM HIL HIR
        go_wp2
        refine bodyPost_ret (v := .tuple #[.int .i64 (10), .int .i64 (0)]) (by simp [results, Tryz.results14, go_sem]) rfl ⟨by rw [HV.out], HBW2.out⟩
       ·have f8 : (i8 == 0) = false := by simpa using hF
        cases sm with
        | true =>
         have HV : Hid (rkS 4 i8 i9 i10 ce true = 11) := Lib.hid (by simp [rkS, hF])
         (go_wp2_with fail; refine (HSM.out _ _ _ _ _ (HIL.out.below blw) (HIR.out.below blw)).mono ?_; rintro r w1 ⟨rfl, hb⟩; obtain ⟨E, d, rfl⟩ := bExt hb; clear hb)
         have HBW3 := Lib.hid (bExtW HBW2.out HBW2.out.size (E := E) (d := d))
         go_wp2
         refine bodyPost_ret (v := .tuple #[.int .i64 (11), .int .i64 (0)]) (by simp [results, Tryz.results14, go_sem]) rfl ⟨by rw [HV.out], HBW3.out⟩
        | false =>
         have HV : Hid (rkS 4 i8 i9 i10 ce false = 12) := Lib.hid (by simp [rkS, hF])
         (go_wp2_with fail; refine (HSM.out _ _ _ _ _ (HIL.out.below blw) (HIR.out.below blw)).mono ?_; rintro r w1 ⟨rfl, hb⟩; obtain ⟨E, d, rfl⟩ := bExt hb; clear hb)
         have HBW3 := Lib.hid (bExtW HBW2.out HBW2.out.size (E := E) (d := d))
         go_wp2
         refine bodyPost_ret (v := .tuple #[.int .i64 (12), .int .i64 (0)]) (by simp [results, Tryz.results14, go_sem]) rfl ⟨by rw [HV.out], HBW3.out⟩
      ·have f74 : (i7 == 4) = false := by simpa using hT4
       by_cases hF : i8 = 0
       ·subst hF
        have HV : Hid (rkS i7 0 i9 i10 ce sm = 16) := Lib.hid (by simp [rkS, hT1, hT2, hT3, hT4])
        clear HCE HSM HIL HIR
        go_wp2
        refine bodyPost_ret (v := .tuple #[.int .i64 (16), .int .i64 (0)]) (by simp [results, Tryz.results14, go_sem]) rfl ⟨by rw [HV.out], HBW2.out⟩
       ·have f8 : (i8 == 0) = false := by simpa using hF
        have HV : Hid (rkS i7 i8 i9 i10 ce sm = 17) := Lib.hid (by simp [rkS, hT1, hT2, hT3, hT4, hF])
        clear HCE HSM HIL HIR
        go_wp2
        refine bodyPost_ret (v := .tuple #[.int .i64 (17), .int .i64 (0)]) (by simp [results, Tryz.results14, go_sem]) rfl ⟨by rw [HV.out], HBW2.out⟩
end
namespace Z
theorem mem_turnsF (L : List Mv) : ∀ (T : List Nat) (t : Nat), t ∈ L.foldl turnS T ↔ t ∈ T ∨ ∃ m ∈ L, m.f = false ∧ m.t = t := by
 induction L with
 | nil => intro T t; simp
 | cons a L ih =>
  intro T t
  rw [List.foldl_cons, ih]
  have e : t ∈ turnS T a ↔ t ∈ T ∨ (a.f = false ∧ a.t = t) := by
   unfold turnS
   split
   ·rename_i h
    constructor
    ·exact .inl
    ·rintro (h2 | ⟨h2, h3⟩)
     ·exact h2
     ·rcases h with h | h
      ·rw [h] at h2; cases h2
      ·rw [← h3]; exact h
   ·rename_i h
    rw [List.mem_append, List.mem_singleton]
    have hf : a.f = false := by
     cases h9 : a.f
     ·rfl
     ·exact absurd (.inl h9) h
    constructor
    ·rintro (h2 | h2)
     ·exact .inl h2
     ·exact .inr ⟨hf, h2.symm⟩
    ·rintro (h2 | h2)
     ·exact .inl h2
     ·exact .inr h2.2.symm
  rw [e]
  constructor
  ·rintro ((h | h) | ⟨m, hm, h⟩)
   ·exact .inl h
   ·exact .inr ⟨a, List.mem_cons_self .., h⟩
   ·exact .inr ⟨m, List.mem_cons_of_mem _ hm, h⟩
  ·rintro (h | ⟨m, hm, h⟩)
   ·exact .inl (.inl h)
   ·rcases List.mem_cons.1 hm with rfl | hm
    ·exact .inl (.inr h)
    ·exact .inr ⟨m, hm, h⟩
theorem nodup_turnsF (L : List Mv) : ∀ (T : List Nat), T.Nodup → (L.foldl turnS T).Nodup := by
 induction L with
 | nil => intro T h; exact h
 | cons a L ih => intro T h; exact ih _ (turnS_nodup h a)
theorem any_keys {E : List (Nat × Bool × Bool)} {t : Nat} : (E.any fun e => e.1 == t) = true ↔ t ∈ E.map (·.1) := by
 rw [List.any_eq_true, List.mem_map]
 constructor
 ·rintro ⟨e, he, h⟩
  exact ⟨e, he, eq_of_beq h⟩
 ·rintro ⟨e, he, h⟩
  exact ⟨e, he, by rw [h]; exact beq_self_eq_true _⟩
theorem mem_waysF (g a b c : Int) (L : List Mv) : ∀ (E : List (Nat × Bool × Bool)) (t : Nat), t ∈ (L.foldl (wayS g a b c) E).map (·.1) ↔ t ∈ E.map (·.1) ∨ ∃ m ∈ L, m.f = true ∧ m.t = t := by
 induction L with
 | nil => intro T t; simp
 | cons x L ih =>
  intro T t
  rw [List.foldl_cons, ih]
  have e : t ∈ (wayS g a b c T x).map (·.1) ↔ t ∈ T.map (·.1) ∨ (x.f = true ∧ x.t = t) := by
   unfold wayS
   split
   ·rename_i h
    constructor
    ·exact .inl
    ·rintro (h2 | ⟨h2, h3⟩)
     ·exact h2
     ·rcases h with h | h
      ·rw [h] at h2; cases h2
      ·rw [← h3]; exact any_keys.1 h
   ·rename_i h
    rw [List.map_append, List.mem_append, List.map_singleton, List.mem_singleton]
    have hf : x.f = true := by
     cases h9 : x.f
     ·exact absurd (.inl h9) h
     ·rfl
    constructor
    ·rintro (h2 | h2)
     ·exact .inl h2
     ·exact .inr ⟨hf, h2.symm⟩
    ·rintro (h2 | h2)
     ·exact .inl h2
     ·exact .inr h2.2.symm
  rw [e]
  constructor
  ·rintro ((h | h) | ⟨m, hm, h⟩)
   ·exact .inl h
   ·exact .inr ⟨x, List.mem_cons_self .., h⟩
   ·exact .inr ⟨m, List.mem_cons_of_mem _ hm, h⟩
  ·rintro (h | ⟨m, hm, h⟩)
   ·exact .inl (.inl h)
   ·rcases List.mem_cons.1 hm with rfl | hm
    ·exact .inl (.inr h)
    ·exact .inr ⟨m, hm, h⟩
theorem mem_turns {L : List Mv} {t : Nat} : t ∈ turnsF L ↔ ∃ m ∈ L, m.f = false ∧ m.t = t := by
 unfold turnsF
 rw [mem_turnsF]
 simp
theorem mem_ways {g a b c : Int} {L : List Mv} {t : Nat} : t ∈ (waysF g a b c L).map (·.1) ↔ ∃ m ∈ L, m.f = true ∧ m.t = t := by
 unfold waysF
 rw [mem_waysF]
 simp
theorem waysF_nil {g a b c : Int} {L : List Mv} : waysF g a b c L = [] ↔ ∀ m ∈ L, m.f = false := by
 constructor
 ·intro h m hm
  cases h9 : m.f
  ·rfl
  ·have : m.t ∈ (waysF g a b c L).map (·.1) := mem_ways.2 ⟨m, hm, h9, rfl⟩
   rw [h] at this
   simp at this
 ·intro h
  cases h9 : waysF g a b c L with
  | nil => rfl
  | cons e E =>
   have : e.1 ∈ (waysF g a b c L).map (·.1) := by rw [h9]; simp
   obtain ⟨m, hm, h1, _⟩ := mem_ways.1 this
   rw [h m hm] at h1
   cases h1
theorem nod_length {T : List Nat} {g : Nat} (hn : T.Nodup) (hb : ∀ t ∈ T, t < g) : T.length = (List.range g).countP fun v => decide (v ∈ T) := by
 rw [List.countP_eq_length_filter]
 refine List.Perm.length_eq ?_
 rw [List.perm_ext_iff_of_nodup hn (List.Pairwise.filter _ List.nodup_range)]
 intro t
 rw [List.mem_filter, List.mem_range, decide_eq_true_eq]
 exact ⟨fun h => ⟨hb t h, h⟩, fun h => h.2⟩
section
variable {g : Nat} {n : Nat} {col : Pt → Int} {L : List Mv}
def hasT (L : List Mv) (f : Bool) (t : Nat) : Bool := L.any (keyB t f)
theorem hasT_iff {L : List Mv} {f : Bool} {t : Nat} : hasT L f t = true ↔ ∃ m ∈ L, m.f = f ∧ m.t = t := by
 unfold hasT
 rw [List.any_eq_true]
 exact ⟨fun ⟨m, h, k⟩ => ⟨m, h, (keyB_iff.1 k).2, (keyB_iff.1 k).1⟩, fun ⟨m, h, k1, k2⟩ => ⟨m, h, keyB_iff.2 ⟨k2, k1⟩⟩⟩
theorem turns_len (h : Grp (g : Int) n col L) : (turnsF L).length = (List.range g).countP (hasT L false) := by
 rw [nod_length (g := g) (T := turnsF L) (nodup_turnsF L [] List.nodup_nil) (fun t ht => by
  obtain ⟨m, hm, _, rfl⟩ := mem_turns.1 ht
  have := h.ok hm; unfold okT at this; omega)]
 refine List.countP_congr fun v _ => ?_
 rw [decide_eq_true_eq, mem_turns, hasT_iff]
theorem sort_count (h : Grp (g : Int) n col L) (hg : G (g : Int)) (hn : 0 < n) (hp : Per n col) (f : Bool) : L.countP (fun m => m.f == f) = (List.range g).countP (hasT L f) * (torusL n).countP (stepB L) := by
 rw [← sumL_countP, List.countP_eq_length_filter, length_by g (fun m => m.t) g (L.filter fun m => m.f == f) (fun x hx => by
  have := h.ok (List.mem_filter.1 hx).1; unfold okT at this; omega)]
 refine sumL_congr fun v _ => ?_
 rw [List.countP_filter]
 have e : L.countP (fun a => a.t == v && a.f == f) = L.countP (keyB v f) := List.countP_congr fun x _ => by
  rw [keyB_iff, Bool.and_eq_true, beq_iff_eq, beq_iff_eq]
 rw [e]
 cases hv : hasT L f v with
 | false =>
  rw [if_neg (by simp), List.countP_eq_zero]
  intro x hx e
  have : hasT L f v = true := hasT_iff.2 ⟨x, hx, (keyB_iff.1 e).2, (keyB_iff.1 e).1⟩
  rw [hv] at this
  cases this
 | true =>
  rw [if_pos rfl]
  obtain ⟨m, hm, rfl, rfl⟩ := hasT_iff.1 hv
  exact block_count h hg hn hp hm
theorem hasT_mul (h : Grp (g : Int) n col L) (hg : G (g : Int)) (hn : 0 < n) (hp : Per n col) {p q : Bool} {i j : Nat} (hi : hasT L p i = true) (hj : hasT L q j = true) : hasT L (p ^^ q) ((if p then i + (g - j) else i + j) % g) = true := by
 obtain ⟨x, hx, rfl, rfl⟩ := hasT_iff.1 hi
 obtain ⟨y, hy, rfl, rfl⟩ := hasT_iff.1 hj
 refine hasT_iff.2 ⟨_, h.mul hg (by omega) hp hx hy, rfl, ?_⟩
 show bothT g x y = _
 unfold bothT
 split <;> simp
end
def clB (g : Nat) (bs cs : List Bool) : Bool :=
 bs.getD 0 false && (List.range g).all fun i => (List.range g).all fun j =>
  (!(bs.getD i false && bs.getD j false) || bs.getD ((i + j) % g) false) && (!(bs.getD i false && cs.getD j false) || cs.getD ((i + j) % g) false) &&
  (!(cs.getD i false && cs.getD j false) || bs.getD ((i + (g - j)) % g) false) && (!(cs.getD i false && bs.getD j false) || cs.getD ((i + (g - j)) % g) false)
def gdB (g : Nat) (bs cs : List Bool) : Bool :=
 let t := bs.countP id
 let f := cs.countP id
 (if g == 4 then t == 1 || t == 2 || t == 4 else t == 1 || t == 2 || t == 3 || t == 6) && (f == 0 || f == t)
theorem cl4 : ∀ b1 b2 b3 c0 c1 c2 c3 : Bool, clB 4 [true, b1, b2, b3] [c0, c1, c2, c3] = true → gdB 4 [true, b1, b2, b3] [c0, c1, c2, c3] = true := by decide +kernel
theorem cl6 : ∀ b1 b2 b3 b4 b5 c0 c1 c2 c3 c4 c5 : Bool, clB 6 [true, b1, b2, b3, b4, b5] [c0, c1, c2, c3, c4, c5] = true → gdB 6 [true, b1, b2, b3, b4, b5] [c0, c1, c2, c3, c4, c5] = true := by decide +kernel
section
variable {g : Nat} {n : Nat} {col : Pt → Int} {L : List Mv}
theorem sorts (h : Grp (g : Int) n col L) (hg : G (g : Int)) (hn : 0 < n) (hp : Per n col) : gdB g ((List.range g).map (hasT L false)) ((List.range g).map (hasT L true)) = true := by
 have h0 : hasT L false 0 = true := hasT_iff.2 ⟨idm, h.one hg (by omega), rfl, rfl⟩
 have hget : ∀ (p : Bool) i, i < g → ((List.range g).map (hasT L p)).getD i false = hasT L p i := fun p i hi => by
  rw [List.getD_eq_getElem?_getD, List.getElem?_map, List.getElem?_range hi]
  rfl
 have hg0 : 0 < g := by rcases hg with e | e <;> omega
 have hcl : clB g ((List.range g).map (hasT L false)) ((List.range g).map (hasT L true)) = true := by
  unfold clB
  rw [Bool.and_eq_true, hget _ _ hg0]
  refine ⟨h0, ?_⟩
  rw [List.all_eq_true]
  intro i hi
  rw [List.all_eq_true]
  intro j hj
  rw [List.mem_range] at hi hj
  rw [hget _ _ hi, hget _ _ hi, hget _ _ hj, hget _ _ hj, hget _ _ (Nat.mod_lt _ hg0), hget _ _ (Nat.mod_lt _ hg0), hget _ _ (Nat.mod_lt _ hg0), hget _ _ (Nat.mod_lt _ hg0)]
  have m1 := fun a b => hasT_mul (p := false) (q := false) (i := i) (j := j) h hg hn hp a b
  have m2 := fun a b => hasT_mul (p := false) (q := true) (i := i) (j := j) h hg hn hp a b
  have m3 := fun a b => hasT_mul (p := true) (q := true) (i := i) (j := j) h hg hn hp a b
  have m4 := fun a b => hasT_mul (p := true) (q := false) (i := i) (j := j) h hg hn hp a b
  simp only [Bool.xor_self, Bool.false_xor, Bool.true_xor, Bool.not_false, Bool.not_true, if_true, if_false, Bool.false_eq_true] at m1 m2 m3 m4
  generalize hasT L false ((i + j) % g) = x1 at *
  generalize hasT L true ((i + j) % g) = x2 at *
  generalize hasT L false ((i + (g - j)) % g) = x3 at *
  generalize hasT L true ((i + (g - j)) % g) = x4 at *
  generalize hasT L false i = y1 at *
  generalize hasT L true i = y2 at *
  generalize hasT L false j = y3 at *
  generalize hasT L true j = y4 at *
  cases x1 <;> cases x2 <;> cases x3 <;> cases x4 <;> cases y1 <;> cases y2 <;> cases y3 <;> cases y4 <;> simp_all
 rcases hg with e | e
 ·obtain rfl : g = 4 := by omega
  have e1 : (List.range 4).map (hasT L false) = [true, hasT L false 1, hasT L false 2, hasT L false 3] := by rw [← h0]; rfl
  have e2 : (List.range 4).map (hasT L true) = [hasT L true 0, hasT L true 1, hasT L true 2, hasT L true 3] := rfl
  rw [e1, e2] at hcl ⊢
  exact cl4 _ _ _ _ _ _ _ hcl
 ·obtain rfl : g = 6 := by omega
  have e1 : (List.range 6).map (hasT L false) = [true, hasT L false 1, hasT L false 2, hasT L false 3, hasT L false 4, hasT L false 5] := by rw [← h0]; rfl
  have e2 : (List.range 6).map (hasT L true) = [hasT L true 0, hasT L true 1, hasT L true 2, hasT L true 3, hasT L true 4, hasT L true 5] := rfl
  rw [e1, e2] at hcl ⊢
  exact cl6 _ _ _ _ _ _ _ _ _ _ _ hcl
end
def tnK (k : Int) : Int := ([1, 2, 1, 1, 1, 2, 2, 2, 2, 4, 4, 4, 3, 3, 3, 6, 6] : List Int).getD (k.toNat - 1) 0
def flK (k : Int) : Int := if k = 1 ∨ k = 2 ∨ k = 10 ∨ k = 13 ∨ k = 16 then 0 else tnK k
theorem kind_turns {tn : Nat} (h : tn = 1 ∨ tn = 2 ∨ tn = 3 ∨ tn = 4 ∨ tn = 6) (al9 : Bool) (E : List (Nat × Bool × Bool)) : 1 ≤ kindP tn al9 E ∧ kindP tn al9 E ≤ 17 ∧ tnK (kindP tn al9 E) = tn ∧ flK (kindP tn al9 E) = if E = [] then 0 else tn := by
 unfold kindP
 rcases h with rfl | rfl | rfl | rfl | rfl <;> simp only [if_true, if_false, Nat.reduceEqDiff] <;> (by_cases hE : E = []) <;> simp only [hE, if_true, if_false] <;> (repeat' split) <;> (refine ⟨by decide, by decide, by rfl, by rfl⟩)
theorem counts_ok {g W H n : Nat} {cs : List Int} (hg : G (g : Int)) (hn : 0 < n) (hW : W ∣ n) (hH : H ∣ n) {a b : Nat} {c : Int} (hf : Fine (Stp (colP W H cs)) a b c) (al9 : Bool) {K : Int}
    (hK : kindP (turnsF (movesL W H cs g n)).length al9 (waysF g a b c (movesL W H cs g n)) = K) :
    1 ≤ K ∧ K ≤ 17 ∧ (g = 4 → tnK K ≠ 3 ∧ tnK K ≠ 6) ∧ (g = 6 → tnK K ≠ 4) ∧
    ∃ S : Nat, Int.tdiv ((n : Int) * n) ((a : Int) * b) = S ∧ ((movesL W H cs g n).countP (fun m => m.f == false) : Int) = tnK K * S ∧ ((movesL W H cs g n).countP (fun m => m.f == true) : Int) = flK K * S := by
  have grp := movesL_grp (cs := cs) (g := (g : Int)) hn hW hH
  have per := colP_per cs hW hH
  have hst := steps_count grp hg hn per hf
  have hT := turns_len grp
  have h1 := sort_count grp hg hn per false
  have h2 := sort_count grp hg hn per true
  have hs := sorts grp hg hn per
  have hE : waysF g a b c (movesL W H cs g n) = [] ↔ (List.range g).countP (hasT (movesL W H cs g n) true) = 0 := by
    rw [waysF_nil, List.countP_eq_zero]
    constructor
    · intro h v _ e
      obtain ⟨m, hm, h3, _⟩ := hasT_iff.1 e
      rw [h m hm] at h3
      cases h3
    · intro h m hm
      cases h9 : m.f
      · rfl
      · have := grp.ok hm
        unfold okT at this
        exact absurd (hasT_iff.2 ⟨m, hm, h9, rfl⟩) (h m.t (List.mem_range.2 (by omega)))
  generalize waysF g a b c (movesL W H cs g n) = E at *
  generalize (torusL n).countP (stepB (movesL W H cs g n)) = S at *
  have hab : 0 < a * b := by have := hf.a0; have := hf.b0; exact Nat.mul_pos (by omega) (by omega)
  have hdv : Int.tdiv ((n : Int) * n) ((a : Int) * b) = S := by
    rw [← Int.natCast_mul, ← Int.natCast_mul, ← hst]
    show ((S * (a * b) / (a * b) : Nat) : Int) = _
    rw [Nat.mul_div_cancel _ hab]
  unfold gdB at hs
  simp only [List.countP_map, Function.id_comp] at hs
  rw [← hT] at hs h1
  generalize (List.range g).countP (hasT (movesL W H cs g n) true) = f at *
  generalize (turnsF (movesL W H cs g n)).length = tn at *
  rw [Bool.and_eq_true] at hs
  obtain ⟨hs1, hs2⟩ := hs
  have hf2 : f = 0 ∨ f = tn := by simpa using hs2
  have htn : (g = 4 → tn = 1 ∨ tn = 2 ∨ tn = 4) ∧ (g = 6 → tn = 1 ∨ tn = 2 ∨ tn = 3 ∨ tn = 6) := by
    constructor
    · rintro rfl
      have : (tn = 1 ∨ tn = 2) ∨ tn = 4 := by simpa using hs1
      omega
    · rintro rfl
      have : ((tn = 1 ∨ tn = 2) ∨ tn = 3) ∨ tn = 6 := by simpa using hs1
      omega
  have hg2 : g = 4 ∨ g = 6 := by rcases hg with e | e <;> omega
  obtain ⟨k1, k2, k3, k4⟩ := kind_turns (tn := tn) (by rcases hg2 with e | e; (· have := htn.1 e; omega); (· have := htn.2 e; omega)) al9 E
  rw [hK] at k1 k2 k3 k4
  refine ⟨k1, k2, fun e => ?_, fun e => ?_, S, hdv, ?_, ?_⟩
  · rw [k3]; have := htn.1 e; omega
  · rw [k3]; have := htn.2 e; omega
  · rw [k3, h1]; push_cast; rfl
  · rw [k4, h2]
    rcases hf2 with e | e
    · rw [if_pos (hE.2 e), e]; simp
    · by_cases h0 : E = []
      · have := hE.1 h0
        rw [if_pos h0, this]; simp
      · rw [if_neg h0, e]; push_cast; rfl
end Z
end Go.Proofs.YtajdoobkfbdgoaaGreatDoor
