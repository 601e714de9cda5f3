/- Lemmas on which the law of this seat rests; each states its own conditions. -/
import Derived.Test.YtajdoobkfbdgoaaGreatDoorB12
import Derived.Test.YtajdoobkfbdgoaaGreatDoorB11
set_option linter.unusedVariables false
set_option linter.unusedSimpArgs false
namespace Go.Proofs.YtajdoobkfbdgoaaGreatDoor
section
open Go.RowKit
open Z (torN place pnt Mv To lin okT nrm both idm md stepB)
structure MvsOk (g : Int) (L : List Mv) : Prop where
 t : ∀ m ∈ L, m.t < g.toNat
 o : ∀ m ∈ L, (0 ≤ m.o.1 ∧ m.o.1 ≤ 24) ∧ (0 ≤ m.o.2 ∧ m.o.2 ≤ 24)
theorem getD_mem {L : List Mv} {j : Nat} (h : j < L.length) : L.getD j idm ∈ L := by
 rw [List.getD_eq_getElem?_getD, List.getElem?_eq_getElem h]
 exact List.getElem_mem h
set_option maxRecDepth 100000 in
set_option maxHeartbeats 8000000 in
theorem Mirrors_ok (g cW cH : Int) (ca : Option Addr) (cn cc : Nat) (L : List Mv) (k n : Nat) (a : Option Addr) (c : Nat) (w : World) (hg : g = 4 ∨ g = 6) (hL : IsMoves w a k L) (hO : MvsOk g L) (hk : k ≤ 10000) (hn : n ≤ 24) :
  Calls Tryz.prog 46 #[.agg #[.int .i64 (g), .int .i64 (cW), .int .i64 (cH), .slice ca cn cc], .int .i64 (n), .slice a k c] w fun r w' => (∃ A C, r = .returned (.slice A (mrL g n L k).length C) ∧ OwnM w' w.heap.size A (mrL g n L k).length C (mrL g n L k)) ∧ Below w.heap.size w w' := by
 have HL := Lib.hid hL
 have HO := Lib.hid hO
 have hlen0 := hL.1
 have HNN : Hid (∀ i j : Int, -5 ≤ i ∧ i ≤ 5 → -5 ≤ j ∧ j ≤ 5 → (-120 ≤ (n : Int) * i ∧ (n : Int) * i ≤ 120) ∧ (-120 ≤ (n : Int) * j ∧ (n : Int) * j ≤ 120)) := Lib.hid (by
  have hb : ∀ i : Int, -5 ≤ i ∧ i ≤ 5 → -120 ≤ (n : Int) * i ∧ (n : Int) * i ≤ 120 := fun i hi => by
   have h1 := Int.mul_le_mul_of_nonneg_left hi.1 (show (0 : Int) ≤ n by omega)
   have h2 := Int.mul_le_mul_of_nonneg_left hi.2 (show (0 : Int) ≤ n by omega)
   omega
  exact fun i j hi hj => ⟨hb i hi, hb j hj⟩)
 obtain ⟨R, hR⟩ : ∃ R, mrL g n L k = R := ⟨_, rfl⟩
 rw [hR]
 have HR := Lib.hid hR
 clear hL hO hR
 go_enter Tryz.func46, Tryz.ntmps46
 go_wp2_with fail
 have hG0 := GL.nil (w.alloc (.cells #[.int .i64 g, .int .i64 cW, .int .i64 cH, .slice ca cn cc] 38)) 91 4
 obtain ⟨W1, hW1⟩ : ∃ W1, W1 = w.alloc (.cells #[.int .i64 g, .int .i64 cW, .int .i64 cH, .slice ca cn cc] 38) := ⟨_, rfl⟩
 have HB1 : Hid (Below w.heap.size w W1) := Lib.hid (by rw [hW1]; exact blw)
 have hsz : W1.heap.size = w.heap.size + 1 := by rw [hW1, World.size_alloc]
 have hs0 : w.heap.size < W1.heap.size := by omega
 have cb0 : W1.cell? ⟨w.heap.size, 0, none⟩ = some (.int .i64 (g)) := by rw [hW1]; simp [go_sem]
 have HW1 := Lib.hid hW1
 have HG0 := Lib.hid hG0
 clear hW1 hG0 hsz
 go_loopw [7, 15] (fun ov iv wr => ∃ (i : Nat) (ML : List Mv), i ≤ k ∧ iv = .int .i64 i ∧ Hid (GL 91 4 (mvsK ML) ML.length W1 ov wr) ∧ Hid (ML = mrL g n L i) ∧ ML.length ≤ i * 121) (fun _ iv _ => k - (intOf iv).toNat)
 case atStart => exact ⟨0, [], by omega, rfl, Lib.hid (by rw [HW1.out]; exact HG0.out), Lib.hid rfl, by simp⟩
 case round =>
  obtain ⟨i, ML, hi, rfl, HG, HML, hlen⟩ := hrel
  have k0 := bCs (HG.out).bel cb0
  have lk : LtW w.heap.size wr := Nat.lt_of_lt_of_le hs0 (HG.out).bel.size
  have hsw : W1.heap.size ≤ (wr).heap.size := (HG.out).bel.size
  by_cases hik : i < k
  ·have di : decide ((i : Int) < (k : Int)) = true := by simpa using hik
   have vi : IntKind.i64.wrap ((i : Int) + 1) = (i : Int) + 1 := IntWalk.i64_in _ (by omega)
   obtain ⟨b, o, rfl, hb, hc⟩ := ((HL.out.below HB1.out).below HG.out.bel).2 (by omega)
   obtain ⟨c0, c1, c2, c3⟩ := hc i hik
   have lb : LtW b wr := hb
   have hmem := getD_mem (L := L) (j := i) (by omega)
   have ht := HO.out.t _ hmem
   have ho := HO.out.o _ hmem
   have hst := mrL_succ g n L i (by omega)
   obtain ⟨m, hm⟩ : ∃ m, L.getD i idm = m := ⟨_, rfl⟩
   rw [hm] at c0 c1 c2 c3 ht ho hst
   have HST := Lib.hid hst
   clear hb hc hm hmem hst
   obtain ⟨t, f, x, y⟩ := m
   simp only at c0 c1 c2 c3 ht ho
   cases f with
   | false =>
    have HST2 : Hid (mrL g n L (i + 1) = mrL g n L i) := Lib.hid (by rw [HST.out]; simp)
    clear HST
    go_wp2_with fail
    go_roundw
    case rel => exact ⟨i + 1, ML, by omega, by go_num, Lib.hid (HG.out.below blw), Lib.hid (by rw [HST2.out]; exact HML.out), by omega⟩
    case measure => simp [intOf]; omega
   | true =>
    have HST2 : Hid (mrL g n L (i + 1) = mrL g n L i ++ mrC g n ⟨t, true, (x, y)⟩ 11) := Lib.hid (by rw [HST.out]; simp)
    have HBX := Lib.hid (BoxM.made (m := ⟨t, true, (x, y)⟩) HG.out.own)
    have HGN := Lib.hid (HG.out.alloc (.cells #[.int .i64 t, .bool true, .int .i64 x, .int .i64 y] 91))
    clear HST
    go_wp2_with fail
    clear k0 lk hsw
    clear c0 c1 c2 c3 lb
    have lfb : wr.heap.size < (wr.alloc (.cells #[.int .i64 t, .bool true, .int .i64 x, .int .i64 y] 91)).heap.size := by simp
    have hswx : W1.heap.size ≤ wr.heap.size := HG.out.bel.size
    clear HG
    obtain ⟨wo, hwo⟩ : ∃ wo : World, wo = wr.alloc (.cells #[.int .i64 t, .bool true, .int .i64 x, .int .i64 y] 91) := ⟨_, rfl⟩
    rw [← hwo] at HGN HBX lfb
    have HWO := Lib.hid hwo
    clear hwo
    obtain ⟨fb, hfb⟩ : ∃ fb, fb = wr.heap.size := ⟨_, rfl⟩
    rw [← hfb] at HBX lfb hswx ⊢
    clear hfb
    obtain ⟨wy, rfl⟩ : ∃ wy : World, wy = wr := ⟨_, rfl⟩
    go_loopw [7, 10] (fun ov yv wr => ∃ (j : Nat) (v : Int) (NL : List Mv), j ≤ 11 ∧ (-5 ≤ v ∧ v ≤ 6) ∧ Hid (v = (j : Int) - 5) ∧ yv = .int .i64 v ∧ Hid (GL 91 4 (mvsK NL) NL.length W1 ov wr) ∧ Hid (BoxM fb ⟨t, true, (x, y)⟩ ov wr) ∧ Hid (NL = ML ++ mrC g n ⟨t, true, (x, y)⟩ j) ∧ NL.length ≤ ML.length + j * 11) (fun _ yv _ => (6 - intOf yv).toNat)
    case atStart => exact ⟨0, -5, ML, by omega, by omega, Lib.hid rfl, rfl, by rw [← HWO.out]; exact HGN, by rw [← HWO.out]; exact HBX, Lib.hid (by simp [mrC]), by omega⟩
    case round =>
     clear HGN HBX HWO
     obtain ⟨j, v, NL, hj, hv, HV, rfl, HG, HX, HNL, hnl⟩ := hrel
     by_cases hj5 : v ≤ 5
     ·have dv : decide (v ≤ 5) = true := by simpa using hj5
      have vv : IntKind.i64.wrap (v + 1) = v + 1 := IntWalk.i64_in _ (by omega)
      go_wp2_with fail
      obtain ⟨wz, rfl⟩ : ∃ wz : World, wz = wr := ⟨_, rfl⟩
      go_loopw [7, 11] (fun ov xv wr => ∃ (i' : Nat) (u : Int) (PL : List Mv), i' ≤ 11 ∧ (-5 ≤ u ∧ u ≤ 6) ∧ Hid (u = (i' : Int) - 5) ∧ xv = .int .i64 u ∧ Hid (GL 91 4 (mvsK PL) PL.length W1 ov wr) ∧ Hid (BoxM fb ⟨t, true, (x, y)⟩ ov wr) ∧ Hid (PL = NL ++ mrR g n ⟨t, true, (x, y)⟩ j i') ∧ PL.length ≤ NL.length + i') (fun _ xv _ => (6 - intOf xv).toNat)
      case atStart => exact ⟨0, -5, NL, by omega, by omega, Lib.hid rfl, rfl, HG, HX, Lib.hid (by simp [mrR]), by omega⟩
      case round =>
       clear HG HX
       obtain ⟨i', u, PL, hi', hu, HU, rfl, HG, HX, HPL, hpl⟩ := hrel
       have k0 := bCs (HG.out).bel cb0
       have lk : LtW w.heap.size wr := Nat.lt_of_lt_of_le hs0 (HG.out).bel.size
       have hsw : W1.heap.size ≤ (wr).heap.size := (HG.out).bel.size
       by_cases hu5 : u ≤ 5
       ·have du : decide (u ≤ 5) = true := by simpa using hu5
        have vu : IntKind.i64.wrap (u + 1) = u + 1 := IntWalk.i64_in _ (by omega)
        have hnb := HNN.out u v (by omega) (by omega)
        have HSH := Lib.hid (fun w => shifted_any (n : Int) u v t true x y w (by omega) (by omega) (by omega) (by omega) (by omega))
        have hsm : (⟨t, true, (x + (n : Int) * u, y + (n : Int) * v)⟩ : Mv) = shM n ⟨t, true, (x, y)⟩ u v := rfl
        have hrs := mrR_succ g n ⟨t, true, (x, y)⟩ j i'
        rw [← HU.out, ← HV.out, ← hsm] at hrs
        obtain ⟨p, hp⟩ : ∃ p, x + (n : Int) * u = p := ⟨_, rfl⟩
        obtain ⟨q, hq⟩ : ∃ q, y + (n : Int) * v = q := ⟨_, rfl⟩
        rw [hp, hq] at HSH hrs
        have bp : -200 ≤ p ∧ p ≤ 200 := by omega
        have bq : -200 ≤ q ∧ q ≤ 200 := by omega
        have HTW := Lib.hid (fun w => Twice_any g t true p q w hg ht (Int.le_trans (Z.nrm_bd hg (a := (p, q)) (B := 200) (by simp only; omega) (by simp only; omega)) (by decide)))
        rw [both_flip hg ht] at HTW
        obtain ⟨e1, e2, he⟩ : ∃ e1 e2, Z.al g t (p, q) = (e1, e2) := ⟨_, _, rfl⟩
        have hmb : mirB g ⟨t, true, (p, q)⟩ = decide ((e1, e2) = ((0, 0) : Z.Pt)) := by unfold mirB; simp only; rw [he]
        have hV1 : mvV ⟨t, true, (p, q)⟩ = .agg #[.int .i64 (t), .bool (true), .int .i64 (p), .int .i64 (q)] := rfl
        have hV2 : mvV ⟨0, false, (e1, e2)⟩ = .agg #[.int .i64 (0), .bool (false), .int .i64 (e1), .int .i64 (e2)] := rfl
        rw [hV1] at HSH
        rw [he, hV2] at HTW
        rw [hmb] at hrs
        have HRS := Lib.hid hrs
        clear hrs hsm hp hq he hmb hV1 hV2 hnb
        have x0 := HX.out.c0
        have x1 := HX.out.c1
        have x2 := HX.out.c2
        have x3 := HX.out.c3
        have lx : LtW fb wr := HX.out.lt
        simp only at x0 x1 x2 x3
        go_wp2_with fail
        refine (HSH.out _).mono ?_
        rintro r w3 ⟨rfl, hb3⟩
        have HG3 := Lib.hid (HG.out.below hb3)
        have HX3 := Lib.hid (HX.out.below hb3)
        have k3 := bCs hb3 k0
        have lk3 : LtW w.heap.size w3 := Nat.lt_of_lt_of_le lk hb3.size
        clear k0 lk hsw
        clear HG HX hb3 x0 x1 x2 x3 lx
        by_cases hz : e1 = 0 ∧ e2 = 0
        ·obtain ⟨rfl, rfl⟩ := hz
         have HRS2 : Hid (mrR g n ⟨t, true, (x, y)⟩ j (i' + 1) = mrR g n ⟨t, true, (x, y)⟩ j i' ++ [⟨t, true, (p, q)⟩]) := Lib.hid (by rw [HRS.out]; simp)
         clear HRS
         (go_wp2_with fail; refine (HTW.out _).mono ?_; rintro r w1 ⟨rfl, hb⟩; obtain ⟨E, d, rfl⟩ := bExt hb; clear hb)
         clear k3 lk3
         have hbw : Below w3.heap.size w3 (extW (w3.alloc (.cells #[.int .i64 t, .bool true, .int .i64 p, .int .i64 q] 91)) E d) := blw
         have HG4 := Lib.hid (HG3.out.below hbw)
         have HX4 := Lib.hid (HX3.out.below hbw)
         clear hbw HG3 HX3
         go_wp2_with (at_builtin; refine wpAppMV okMv rfl (.tmp 41) (.tmp 43) rfl W1.heap.size _ _ _ #[.int .i64 (t : Int), .bool true, .int .i64 p, .int .i64 q] rfl HG4.out.own (show Value.slice (some ⟨w3.heap.size + 1 + E.size, 0, none⟩) 1 1 = _ by rw [size_extW, World.size_alloc]) rfl ?_ (by omega) (by omega) HG4.out.bel.size ?_)
         ·simp [Value.oneCell']
         intro v' w4 hown4 hg4 hv4 hb4
         obtain ⟨A', cp', rfl⟩ := own_form hown4
         have HG5 : Hid (GL 91 4 (mvsK (PL ++ [⟨t, true, (p, q)⟩])) (PL ++ [(⟨t, true, (p, q)⟩ : Mv)]).length W1 (.slice A' (PL.length + 1) cp') w4) := Lib.hid ⟨by rw [mvsK_app, List.length_append]; exact hown4, HG4.out.bel.trans hb4⟩
         have HX5 := Lib.hid ((HX4.out.below ((Below.refl _ _).alloc (Nat.le_refl _) _)).app hg4 hv4 bnd)
         clear hown4 hg4 hv4 hb4 HG4 HX4
         go_wp2
         go_roundw
         case rel => exact ⟨i' + 1, u + 1, PL ++ [⟨t, true, (p, q)⟩], by have := HU.out; omega, by omega, Lib.hid (by have := HU.out; omega), by go_num, HG5, HX5, Lib.hid (by rw [HRS2.out, ← List.append_assoc, ← HPL.out]), by simp; omega⟩
         case measure => simp [intOf]; omega
        ·have HRS2 : Hid (mrR g n ⟨t, true, (x, y)⟩ j (i' + 1) = mrR g n ⟨t, true, (x, y)⟩ j i') := Lib.hid (by rw [HRS.out]; simp [hz])
         have hcz : (e1 == 0) = false ∨ ((e1 == 0) = true ∧ (e2 == 0) = false) := by
          by_cases q1 : e1 = 0
          ·exact .inr ⟨by simpa using q1, by simpa using fun q2 => hz ⟨q1, q2⟩⟩
          ·exact .inl (by simpa using q1)
         clear HRS hz
         rcases hcz with q1 | ⟨q1, q2⟩
         all_goals
          (go_wp2_with fail; refine (HTW.out _).mono ?_; rintro r w1 ⟨rfl, hb⟩; obtain ⟨E, d, rfl⟩ := bExt hb; clear hb)
          clear k3 lk3
          have hbw : Below w3.heap.size w3 (extW (w3.alloc (.cells #[.int .i64 t, .bool true, .int .i64 p, .int .i64 q] 91)) E d) := blw
          have HG4 := Lib.hid (HG3.out.below hbw)
          have HX4 := Lib.hid (HX3.out.below hbw)
          clear hbw HG3 HX3
          go_wp2
          go_roundw
          case rel => exact ⟨i' + 1, u + 1, PL, by have := HU.out; omega, by omega, Lib.hid (by have := HU.out; omega), by go_num, HG4, HX4, Lib.hid (by rw [HRS2.out]; exact HPL.out), by omega⟩
          case measure => simp [intOf]; omega
       ·obtain rfl : u = 6 := by omega
        have du : decide ((6 : Int) ≤ 5) = false := by simp
        have hi11 : i' = 11 := by have := HU.out; omega
        have HNC : Hid (PL = ML ++ mrC g n ⟨t, true, (x, y)⟩ (j + 1)) := Lib.hid (by rw [HPL.out, hi11, HNL.out, mrC_succ, List.append_assoc])
        clear HPL HU
        clear k0 lk hsw
        go_wp2
        go_roundw
        case rel => exact ⟨j + 1, v + 1, PL, by have := HV.out; omega, by omega, Lib.hid (by have := HV.out; omega), by go_num, HG, HX, HNC, by omega⟩
        case measure => simp [intOf]; omega
     ·obtain rfl : v = 6 := by omega
      have dv : decide ((6 : Int) ≤ 5) = false := by simp
      have hj11 : j = 11 := by have := HV.out; omega
      have HNC : Hid (NL = mrL g n L (i + 1)) := Lib.hid (by rw [HNL.out, hj11, HML.out, HST2.out])
      clear HNL HV
      go_wp2
      go_roundw
      case rel => exact ⟨i + 1, NL, by omega, by go_num, HG, HNC, by omega⟩
      case measure => simp [intOf]; omega
  ·obtain rfl : i = k := by omega
   have di : decide ((i : Int) < (i : Int)) = false := by simp
   obtain ⟨A, C, rfl⟩ := own_form HG.out.own
   have HOW : Hid (OwnM wr w.heap.size A ML.length C ML) := Lib.hid ⟨rfl, own_baseV HG.out.own (Nat.le_of_lt hs0)⟩
   have HBL := Lib.hid (HB1.out.trans (HG.out.bel.mono (Nat.le_of_lt hs0)))
   obtain rfl : ML = R := HML.out.trans HR.out
   clear HG HML HL HO HNN HR
   go_wp2
   go_ret
   exact ⟨⟨A, C, rfl, HOW.out⟩, HBL.out⟩
end
section
open Go.RowKit
open Z (torN place pnt Mv To lin okT nrm both idm md stepB)
structure MvsB (g : Int) (L : List Mv) : Prop where
 t : ∀ m ∈ L, m.t < g.toNat
 o : ∀ m ∈ L, (-200 ≤ m.o.1 ∧ m.o.1 ≤ 200) ∧ (-200 ≤ m.o.2 ∧ m.o.2 ≤ 200)
def onB (g : Int) (M : List Mv) (r : Mv) : Bool := M.any fun m => decide (both g (both g m r) (both g m r) = idm)
theorem onB_true {g : Int} {M : List Mv} {r m : Mv} (h : m ∈ M) (e : both g (both g m r) (both g m r) = idm) : onB g M r = true := List.any_eq_true.2 ⟨m, h, by simpa using e⟩
theorem onB_false {g : Int} {M : List Mv} {r : Mv} (h : ∀ j, j < M.length → both g (both g (M.getD j idm) r) (both g (M.getD j idm) r) ≠ idm) : onB g M r = false := by
 rw [← Bool.not_eq_true]
 intro e
 obtain ⟨m, hm, e2⟩ := List.any_eq_true.1 e
 obtain ⟨j, hj, rfl⟩ := List.mem_iff_getElem.1 hm
 refine h j hj ?_
 rw [List.getD_eq_getElem?_getD, List.getElem?_eq_getElem hj]
 simpa using e2
set_option maxRecDepth 100000 in
set_option maxHeartbeats 8000000 in
theorem on_ok (g : Int) (M : List Mv) (k t : Nat) (f : Bool) (x y : Int) (a : Option Addr) (c : Nat) (w : World) (hg : g = 4 ∨ g = 6) (ht : t < g.toNat) (hx : -200 ≤ x ∧ x ≤ 200) (hy : -200 ≤ y ∧ y ≤ 200) (hL : IsMoves w a k M) (hO : MvsB g M) (hk : k ≤ 10000000) :
  Calls Tryz.prog 90 #[.int .i64 (g), .agg #[.int .i64 (t), .bool (f), .int .i64 (x), .int .i64 (y)], .slice a k c] w fun e w' => e = .returned (.bool (onB g M ⟨t, f, (x, y)⟩)) ∧ Below w.heap.size w w' := by
 have HL := Lib.hid hL
 have HO := Lib.hid hO
 have hlen := hL.1
 have HT : Hid (∀ m, m ∈ M → both g (both g m ⟨t, f, (x, y)⟩) (both g m ⟨t, f, (x, y)⟩) = idm → onB g M ⟨t, f, (x, y)⟩ = true) := Lib.hid fun m h e => onB_true h e
 have HF : Hid ((∀ j, j < k → both g (both g (M.getD j idm) ⟨t, f, (x, y)⟩) (both g (M.getD j idm) ⟨t, f, (x, y)⟩) ≠ idm) → onB g M ⟨t, f, (x, y)⟩ = false) := Lib.hid fun h => onB_false (by rw [hlen]; exact h)
 generalize onB g M ⟨t, f, (x, y)⟩ = hb at *
 clear hL hO
 go_enter Tryz.func90, Tryz.ntmps90
 go_wp2_with fail
 go_loopw [11] (fun iv wr => ∃ (j : Nat) (E : Array Obj) (d : Nat), j ≤ k ∧ iv = .int .i64 j ∧ Hid (∀ i, i < j → both g (both g (M.getD i idm) ⟨t, f, (x, y)⟩) (both g (M.getD i idm) ⟨t, f, (x, y)⟩) ≠ idm) ∧ wr = extW (w.alloc (.cells #[.int .i64 t, .bool f, .int .i64 x, .int .i64 y] 91)) E d) (fun iv _ => k - (intOf iv).toNat)
 case atStart =>
  obtain ⟨E0, d0, h0⟩ := bExt (Below.refl (w.alloc (.cells #[.int .i64 t, .bool f, .int .i64 x, .int .i64 y] 91)).heap.size (w.alloc (.cells #[.int .i64 t, .bool f, .int .i64 x, .int .i64 y] 91)))
  exact ⟨0, E0, d0, by omega, rfl, Lib.hid fun i h => absurd h (by omega), h0⟩
 case round =>
  obtain ⟨j, E1, d1, hj, rfl, HN, rfl⟩ := hrel
  by_cases hjk : j < k
  ·have dj : decide ((j : Int) < (k : Int)) = true := by simpa using hjk
   have vj : IntKind.i64.wrap ((j : Int) + 1) = (j : Int) + 1 := IntWalk.i64_in _ (by omega)
   obtain ⟨b, o, rfl, hbb, hc⟩ := HL.out.2 (by omega)
   obtain ⟨c0, c1, c2, c3⟩ := hc j hjk
   have lb : LtW b w := hbb
   have hmem := getD_mem (L := M) (j := j) (by omega)
   have ht' := HO.out.t _ hmem
   have ho' := HO.out.o _ hmem
   have HTM := Lib.hid (HT.out _ hmem)
   have HN2 : Hid (both g (both g (M.getD j idm) ⟨t, f, (x, y)⟩) (both g (M.getD j idm) ⟨t, f, (x, y)⟩) ≠ idm → ∀ i, i < j + 1 → both g (both g (M.getD i idm) ⟨t, f, (x, y)⟩) (both g (M.getD i idm) ⟨t, f, (x, y)⟩) ≠ idm) := Lib.hid fun hne i hi => by
    by_cases e : i = j
    ·subst e; exact hne
    ·exact HN.out i (by omega)
   obtain ⟨m, hm⟩ : ∃ m, M.getD j idm = m := ⟨_, rfl⟩
   rw [hm] at c0 c1 c2 c3 ht' ho' HTM HN2
   clear hbb hc hm hmem
   obtain ⟨t', f', x', y'⟩ := m
   simp only at c0 c1 c2 c3 ht' ho'
   have n1 := Z.nrm_bd hg (a := (x', y')) (B := 200) ho'.1 ho'.2
   have n2 := Z.nrm_bd hg (a := (x, y)) (B := 200) hx hy
   have HTH := Lib.hid (fun w => rThen_any g x' y' x y t' t f' f w hg ht' ht (Int.le_trans n1 (by decide)) (Int.le_trans n2 (by decide)))
   have hbo : okT g (both g ⟨t', f', (x', y')⟩ ⟨t, f, (x, y)⟩) := Z.both_ok hg _ _
   have n3 : nrm g (both g ⟨t', f', (x', y')⟩ ⟨t, f, (x, y)⟩).o ≤ 10000000 := by
    have h1 := Z.nrm_To hg ⟨t', f', (x', y')⟩ (x, y)
    simp only at h1
    show nrm g (To g ⟨t', f', (x', y')⟩ (x, y)) ≤ 10000000
    omega
   obtain ⟨T, F, X, Y, hB⟩ : ∃ (T : Nat) (F : Bool) (X Y : Int), both g ⟨t', f', (x', y')⟩ ⟨t, f, (x, y)⟩ = ⟨T, F, (X, Y)⟩ := ⟨_, _, _, _, rfl⟩
   rw [hB] at HTH HTM HN2 hbo n3
   have HTW := Lib.hid (fun w => Twice_any g T F X Y w hg hbo (Int.le_trans n3 (by decide)))
   obtain ⟨T2, F2, X2, Y2, hB2⟩ : ∃ (T2 : Nat) (F2 : Bool) (X2 Y2 : Int), both g ⟨T, F, (X, Y)⟩ ⟨T, F, (X, Y)⟩ = ⟨T2, F2, (X2, Y2)⟩ := ⟨_, _, _, _, rfl⟩
   rw [hB2] at HTW HTM HN2
   have hV : mvV ⟨T, F, (X, Y)⟩ = .agg #[.int .i64 (T), .bool (F), .int .i64 (X), .int .i64 (Y)] := rfl
   have hV2 : mvV ⟨T2, F2, (X2, Y2)⟩ = .agg #[.int .i64 (T2), .bool (F2), .int .i64 (X2), .int .i64 (Y2)] := rfl
   rw [hV] at HTH
   rw [hV2] at HTW
   clear hV hV2 hB hB2 hbo n3 n1 n2 ho'
   by_cases hall : F2 = false ∧ T2 = 0 ∧ X2 = 0 ∧ Y2 = 0
   ·obtain ⟨rfl, rfl, rfl, rfl⟩ := hall
    have HV := Lib.hid (HTM.out rfl)
    clear HT HF HTM HN2 HN
    (go_wp2_with fail; refine (HTH.out _).mono ?_; rintro r w1 ⟨rfl, hb⟩; obtain ⟨E, d, rfl⟩ := bExt hb; clear hb)
    (go_wp2_with fail; refine (HTW.out _).mono ?_; rintro r w1 ⟨rfl, hb⟩; obtain ⟨E, d, rfl⟩ := bExt hb; clear hb)
    go_wp2
    go_ret
    exact ⟨by rw [HV.out]; rfl, blw⟩
   ·have HN3 := Lib.hid (HN2.out (by
     intro e
     injection e with e1 e2 e3
     injection e3 with e3 e4
     exact hall ⟨e2, e1, e3, e4⟩))
    have hcase : (((T2 : Int) == 0) = false) ∨ (T2 = 0 ∧ F2 = true) ∨ (T2 = 0 ∧ F2 = false ∧ (X2 == 0) = false) ∨ (T2 = 0 ∧ F2 = false ∧ X2 = 0 ∧ (Y2 == 0) = false) := by
     by_cases e1 : T2 = 0
     ·cases F2 with
      | true => exact .inr (.inl ⟨e1, rfl⟩)
      | false =>
       by_cases e3 : X2 = 0
       ·by_cases e4 : Y2 = 0
        ·exact absurd ⟨rfl, e1, e3, e4⟩ hall
        ·exact .inr (.inr (.inr ⟨e1, rfl, e3, by simpa using e4⟩))
       ·exact .inr (.inr (.inl ⟨e1, rfl, by simpa using e3⟩))
     ·exact .inl (by simp; omega)
    clear hall HT HF HTM HN2 HN
    rcases hcase with e1 | ⟨rfl, rfl⟩ | ⟨rfl, rfl, e3⟩ | ⟨rfl, rfl, rfl, e4⟩
    all_goals
     (go_wp2_with fail; refine (HTH.out _).mono ?_; rintro r w1 ⟨rfl, hb⟩; obtain ⟨E, d, rfl⟩ := bExt hb; clear hb)
     (go_wp2_with fail; refine (HTW.out _).mono ?_; rintro r w1 ⟨rfl, hb⟩; obtain ⟨E, d, rfl⟩ := bExt hb; clear hb)
     go_wp2
     go_roundw
     case rel => exact ⟨j + 1, _, _, by omega, by go_num, HN3, by simp only [alloc_extW, extW_extW]; rfl⟩
     case measure => simp [intOf]; omega
  ·obtain rfl : j = k := by omega
   have dj : decide ((j : Int) < (j : Int)) = false := by simp
   have HV := Lib.hid (HF.out HN.out)
   clear HT HF HN
   go_wp2
   go_ret
   exact ⟨by rw [HV.out]; rfl, blw⟩
end
section
open Go.RowKit
open Z (torN place pnt Mv To lin okT nrm both idm md stepB)
def tkB (g : Int) (M : List Mv) (turn : Nat) (r : Mv) : Bool := !r.f && (decide (r.t = turn) && onB g M r)
def someB (g : Int) (L M : List Mv) (turn : Nat) : Bool := L.any (tkB g M turn)
theorem someB_true {g : Int} {L M : List Mv} {turn : Nat} {r : Mv} (h : r ∈ L) (e : tkB g M turn r = true) : someB g L M turn = true := List.any_eq_true.2 ⟨r, h, e⟩
theorem someB_false {g : Int} {L M : List Mv} {turn : Nat} (h : ∀ j, j < L.length → tkB g M turn (L.getD j idm) = false) : someB g L M turn = false := by
 rw [← Bool.not_eq_true]
 intro e
 obtain ⟨m, hm, e2⟩ := List.any_eq_true.1 e
 obtain ⟨j, hj, rfl⟩ := List.mem_iff_getElem.1 hm
 have := h j hj
 rw [List.getD_eq_getElem?_getD, List.getElem?_eq_getElem hj] at this
 exact Bool.false_ne_true (this.symm.trans e2)
theorem lfTk60 {P : Prop} (h : P := by
 go_wp2
 go_roundw
 case rel => exact ⟨j + 1, _, _, by omega, by go_num, HN3, by simp only [alloc_extW, extW_extW]; rfl⟩
 case measure => simp [intOf]; omega) : P := h
set_option maxRecDepth 100000 in
set_option maxHeartbeats 8000000 in
theorem Some_ok (g cW cH : Int) (ca : Option Addr) (cn cc : Nat) (L M : List Mv) (k n turn : Nat) (a am : Option Addr) (c cm : Nat) (w : World) (hg : g = 4 ∨ g = 6) (hL : IsMoves w a k L) (hO : MvsOk g L) (hM : IsMoves w am n M) (hOM : MvsB g M) (hk : k ≤ 10000) (hn : n ≤ 10000000) :
  Calls Tryz.prog 48 #[.agg #[.int .i64 (g), .int .i64 (cW), .int .i64 (cH), .slice ca cn cc], .slice a k c, .slice am n cm, .int .i64 (turn)] w fun e w' => e = .returned (.bool (someB g L M turn)) ∧ Below w.heap.size w w' := by
 have HL := Lib.hid hL
 have HO := Lib.hid hO
 have HM := Lib.hid hM
 have hlen := hL.1
 have HT : Hid (∀ m, m ∈ L → tkB g M turn m = true → someB g L M turn = true) := Lib.hid fun m h e => someB_true h e
 have HF : Hid ((∀ j, j < k → tkB g M turn (L.getD j idm) = false) → someB g L M turn = false) := Lib.hid fun h => someB_false (by rw [hlen]; exact h)
 have HON := Lib.hid (fun (t : Nat) (f : Bool) (x y : Int) w (ht : t < g.toNat) (hx : -200 ≤ x ∧ x ≤ 200) (hy : -200 ≤ y ∧ y ≤ 200) (hI : IsMoves w am n M) => on_ok g M n t f x y am cm w hg ht hx hy hI hOM hn)
 generalize someB g L M turn = hb at *
 clear hL hO hM
 go_enter Tryz.func48, Tryz.ntmps48
 go_wp2_with fail
 go_loopw [13] (fun iv wr => ∃ (j : Nat) (E : Array Obj) (d : Nat), j ≤ k ∧ iv = .int .i64 j ∧ Hid (∀ i, i < j → tkB g M turn (L.getD i idm) = false) ∧ wr = extW (w.alloc (.cells #[.int .i64 g, .int .i64 cW, .int .i64 cH, .slice ca cn cc] 38)) E d) (fun iv _ => k - (intOf iv).toNat)
 case atStart =>
  obtain ⟨E0, d0, h0⟩ := bExt (Below.refl (w.alloc (.cells #[.int .i64 g, .int .i64 cW, .int .i64 cH, .slice ca cn cc] 38)).heap.size (w.alloc (.cells #[.int .i64 g, .int .i64 cW, .int .i64 cH, .slice ca cn cc] 38)))
  exact ⟨0, E0, d0, by omega, rfl, Lib.hid fun i h => absurd h (by omega), h0⟩
 case round =>
  obtain ⟨j, E1, d1, hj, rfl, HN, rfl⟩ := hrel
  by_cases hjk : j < k
  ·have dj : decide ((j : Int) < (k : Int)) = true := by simpa using hjk
   have vj : IntKind.i64.wrap ((j : Int) + 1) = (j : Int) + 1 := IntWalk.i64_in _ (by omega)
   obtain ⟨b, o, rfl, hbb, hc⟩ := HL.out.2 (by omega)
   obtain ⟨c0, c1, c2, c3⟩ := hc j hjk
   have lb : LtW b w := hbb
   have hmem := getD_mem (L := L) (j := j) (by omega)
   have ht' := HO.out.t _ hmem
   have ho' := HO.out.o _ hmem
   have HTM := Lib.hid (HT.out _ hmem)
   have HN2 : Hid (tkB g M turn (L.getD j idm) = false → ∀ i, i < j + 1 → tkB g M turn (L.getD i idm) = false) := Lib.hid fun hne i hi => by
    by_cases e : i = j
    ·subst e; exact hne
    ·exact HN.out i (by omega)
   obtain ⟨m, hm⟩ : ∃ m, L.getD j idm = m := ⟨_, rfl⟩
   rw [hm] at c0 c1 c2 c3 ht' ho' HTM HN2
   clear hbb hc hm hmem
   obtain ⟨t', f', x', y'⟩ := m
   simp only at c0 c1 c2 c3 ht' ho'
   have HON1 := Lib.hid (fun w hI => HON.out t' f' x' y' w ht' (by omega) (by omega) hI)
   by_cases hft : f' = false ∧ t' = turn
   ·obtain ⟨rfl, rfl⟩ := hft
    have e0 : ((t' : Int) == (t' : Int)) = true := by simp
    have hsm : tkB g M t' ⟨t', false, (x', y')⟩ = onB g M ⟨t', false, (x', y')⟩ := by unfold tkB; simp
    rw [hsm] at HTM HN2
    clear hsm
    cases ho : onB g M ⟨t', false, (x', y')⟩ with
    | true =>
     rw [ho] at HTM HON1
     have HV := Lib.hid (HTM.out rfl)
     clear HT HF HTM HN2 HN HON ho ho'
     (go_wp2_with fail; refine (HON1.out _ (HM.out.below blw)).mono ?_; rintro r w1 ⟨rfl, hb⟩; obtain ⟨E, d, rfl⟩ := bExt hb; clear hb)
     go_wp2
     go_ret
     exact ⟨by rw [HV.out]; rfl, blw⟩
    | false =>
     rw [ho] at HN2 HON1
     have HN3 := Lib.hid (HN2.out rfl)
     clear HT HF HTM HN2 HN HON ho ho'
     (go_wp2_with fail; refine (HON1.out _ (HM.out.below blw)).mono ?_; rintro r w1 ⟨rfl, hb⟩; obtain ⟨E, d, rfl⟩ := bExt hb; clear hb)
     exact lfTk60
   ·have hcase : f' = true ∨ (f' = false ∧ ((t' : Int) == (turn : Int)) = false) := by
     cases f' with
     | true => exact .inl rfl
     | false => exact .inr ⟨rfl, by simp; intro e; exact hft ⟨rfl, by omega⟩⟩
    have HN3 := Lib.hid (HN2.out (by
     unfold tkB
     cases f' with
     | true => rfl
     | false => simp only [Bool.not_false, Bool.true_and]; rw [decide_eq_false (fun e => hft ⟨rfl, e⟩), Bool.false_and]))
    clear HT HF HTM HN2 HN HON HON1 ho' hft
    rcases hcase with rfl | ⟨rfl, e1⟩
    all_goals
     exact lfTk60
  ·obtain rfl : j = k := by omega
   have dj : decide ((j : Int) < (j : Int)) = false := by simp
   have HV := Lib.hid (HF.out HN.out)
   clear HT HF HN
   go_wp2
   go_ret
   exact ⟨by rw [HV.out]; rfl, blw⟩
end
section
open Go.RowKit
open Z (torN place pnt Mv To lin okT nrm both idm md stepB)
def c9B (g n : Int) (M : List Mv) (r : Mv) : Bool := (List.range 9).all fun k => onB g M (shM n r ((k % 3 : Nat) : Int) ((k / 3 : Nat) : Int))
def ckB (g n : Int) (M : List Mv) (turn : Nat) (r : Mv) : Bool := r.f || (!decide (r.t = turn) || c9B g n M r)
def cenB (g n : Int) (L M : List Mv) (turn : Nat) : Bool := L.all (ckB g n M turn)
theorem cenB_false {g n : Int} {L M : List Mv} {turn : Nat} {r : Mv} (h : r ∈ L) (e : ckB g n M turn r = false) : cenB g n L M turn = false := by
 rw [← Bool.not_eq_true]
 intro e2
 exact Bool.false_ne_true (e.symm.trans (List.all_eq_true.1 e2 r h))
theorem cenB_true {g n : Int} {L M : List Mv} {turn : Nat} (h : ∀ j, j < L.length → ckB g n M turn (L.getD j idm) = true) : cenB g n L M turn = true := by
 refine List.all_eq_true.2 fun m hm => ?_
 obtain ⟨j, hj, rfl⟩ := List.mem_iff_getElem.1 hm
 have := h j hj
 rwa [List.getD_eq_getElem?_getD, List.getElem?_eq_getElem hj] at this
theorem c9B_true {g n : Int} {M : List Mv} {r : Mv} (h : ∀ k, k < 9 → onB g M (shM n r ((k % 3 : Nat) : Int) ((k / 3 : Nat) : Int)) = true) : c9B g n M r = true :=
 List.all_eq_true.2 fun k hk => h k (List.mem_range.1 hk)
theorem c9B_false {g n : Int} {M : List Mv} {r : Mv} {k : Nat} (hk : k < 9) (h : onB g M (shM n r ((k % 3 : Nat) : Int) ((k / 3 : Nat) : Int)) = false) : c9B g n M r = false := by
 rw [← Bool.not_eq_true]
 intro e2
 exact Bool.false_ne_true (h.symm.trans (List.all_eq_true.1 e2 k (List.mem_range.2 hk)))
theorem lfTk70 {P : Prop} (h : P := by
 go_wp2
 go_roundw
 case rel => exact ⟨j + 1, _, _, by omega, by go_num, HN3, by simp only [alloc_extW, extW_extW]; rfl⟩
 case measure => simp [intOf]; omega) : P := h
set_option maxRecDepth 100000 in
set_option maxHeartbeats 8000000 in
theorem Centred_ok (g cW cH : Int) (ca : Option Addr) (cn cc : Nat) (L M : List Mv) (k n N turn : Nat) (a am : Option Addr) (c cm : Nat) (w : World) (hg : g = 4 ∨ g = 6) (hN : N ≤ 24) (hL : IsMoves w a k L) (hO : MvsOk g L) (hM : IsMoves w am n M) (hOM : MvsB g M) (hk : k ≤ 10000) (hn : n ≤ 10000000) :
  Calls Tryz.prog 47 #[.agg #[.int .i64 (g), .int .i64 (cW), .int .i64 (cH), .slice ca cn cc], .int .i64 (N), .slice a k c, .slice am n cm, .int .i64 (turn)] w fun e w' => e = .returned (.bool (cenB g N L M turn)) ∧ Below w.heap.size w w' := by
 have HL := Lib.hid hL
 have HO := Lib.hid hO
 have HM := Lib.hid hM
 have hlen := hL.1
 have HT : Hid (∀ m, m ∈ L → ckB g N M turn m = false → cenB g N L M turn = false) := Lib.hid fun m h e => cenB_false h e
 have HF : Hid ((∀ j, j < k → ckB g N M turn (L.getD j idm) = true) → cenB g N L M turn = true) := Lib.hid fun h => cenB_true (by rw [hlen]; exact h)
 have HON := Lib.hid (fun (t : Nat) (f : Bool) (x y : Int) w (ht : t < g.toNat) (hx : -200 ≤ x ∧ x ≤ 200) (hy : -200 ≤ y ∧ y ≤ 200) (hI : IsMoves w am n M) => on_ok g M n t f x y am cm w hg ht hx hy hI hOM hn)
 have HNN : Hid (∀ i j : Int, 0 ≤ i ∧ i ≤ 2 → 0 ≤ j ∧ j ≤ 2 → (0 ≤ (N : Int) * i ∧ (N : Int) * i ≤ 48) ∧ (0 ≤ (N : Int) * j ∧ (N : Int) * j ≤ 48)) := Lib.hid (by
  have hb : ∀ i : Int, 0 ≤ i ∧ i ≤ 2 → 0 ≤ (N : Int) * i ∧ (N : Int) * i ≤ 48 := fun i hi => by
   have h1 := Int.mul_le_mul_of_nonneg_left hi.1 (show (0 : Int) ≤ N by omega)
   have h2 := Int.mul_le_mul_of_nonneg_left hi.2 (show (0 : Int) ≤ N by omega)
   omega
  exact fun i j hi hj => ⟨hb i hi, hb j hj⟩)
 generalize cenB g N L M turn = hb at *
 clear hL hO hM
 go_enter Tryz.func47, Tryz.ntmps47
 go_wp2_with fail
 go_loopw [17] (fun iv wr => ∃ (j : Nat) (E : Array Obj) (d : Nat), j ≤ k ∧ iv = .int .i64 j ∧ Hid (∀ i, i < j → ckB g N M turn (L.getD i idm) = true) ∧ wr = extW (w.alloc (.cells #[.int .i64 g, .int .i64 cW, .int .i64 cH, .slice ca cn cc] 38)) E d) (fun iv _ => k - (intOf iv).toNat)
 case atStart =>
  obtain ⟨E0, d0, h0⟩ := bExt (Below.refl (w.alloc (.cells #[.int .i64 g, .int .i64 cW, .int .i64 cH, .slice ca cn cc] 38)).heap.size (w.alloc (.cells #[.int .i64 g, .int .i64 cW, .int .i64 cH, .slice ca cn cc] 38)))
  exact ⟨0, E0, d0, by omega, rfl, Lib.hid fun i h => absurd h (by omega), h0⟩
 case round =>
  obtain ⟨j, E1, d1, hj, rfl, HN, rfl⟩ := hrel
  by_cases hjk : j < k
  ·have dj : decide ((j : Int) < (k : Int)) = true := by simpa using hjk
   have vj : IntKind.i64.wrap ((j : Int) + 1) = (j : Int) + 1 := IntWalk.i64_in _ (by omega)
   obtain ⟨b, o, rfl, hbb, hc⟩ := HL.out.2 (by omega)
   obtain ⟨c0, c1, c2, c3⟩ := hc j hjk
   have lb : LtW b w := hbb
   have hmem := getD_mem (L := L) (j := j) (by omega)
   have ht' := HO.out.t _ hmem
   have ho' := HO.out.o _ hmem
   have HTM := Lib.hid (HT.out _ hmem)
   have HN2 : Hid (ckB g N M turn (L.getD j idm) = true → ∀ i, i < j + 1 → ckB g N M turn (L.getD i idm) = true) := Lib.hid fun hne i hi => by
    by_cases e : i = j
    ·subst e; exact hne
    ·exact HN.out i (by omega)
   obtain ⟨m, hm⟩ : ∃ m, L.getD j idm = m := ⟨_, rfl⟩
   rw [hm] at c0 c1 c2 c3 ht' ho' HTM HN2
   clear hbb hc hm hmem
   obtain ⟨t', f', x', y'⟩ := m
   simp only at c0 c1 c2 c3 ht' ho'
   by_cases hft : f' = false ∧ t' = turn
   ·obtain ⟨rfl, rfl⟩ := hft
    have e0 : ((t' : Int) != (t' : Int)) = false := by simp
    have hsm : ckB g N M t' ⟨t', false, (x', y')⟩ = c9B g N M ⟨t', false, (x', y')⟩ := by unfold ckB; simp
    rw [hsm] at HTM HN2
    have HC9F := Lib.hid (fun (k : Nat) (hk : k < 9) h => HTM.out (c9B_false (g := g) (n := N) (M := M) (r := ⟨t', false, (x', y')⟩) (k := k) hk h))
    have HC9T := Lib.hid (fun h => HN2.out (c9B_true (g := g) (n := N) (M := M) (r := ⟨t', false, (x', y')⟩) h))
    clear hsm HT HF HTM HN2 HN
    go_wp2_with fail
    go_loopw [13] (fun yv wr => ∃ (v : Nat) (E : Array Obj) (d : Nat), v ≤ 3 ∧ yv = .int .i64 v ∧ Hid (∀ i, i < 3 * v → onB g M (shM N ⟨t', false, (x', y')⟩ ((i % 3 : Nat) : Int) ((i / 3 : Nat) : Int)) = true) ∧ wr = extW ((extW (w.alloc (.cells #[.int .i64 g, .int .i64 cW, .int .i64 cH, .slice ca cn cc] 38)) E1 d1).alloc (.cells #[.int .i64 t', .bool false, .int .i64 x', .int .i64 y'] 91)) E d) (fun yv _ => 3 - (intOf yv).toNat)
    case atStart =>
     obtain ⟨E0, d0, h0⟩ := bExt (Below.refl ((extW (w.alloc (.cells #[.int .i64 g, .int .i64 cW, .int .i64 cH, .slice ca cn cc] 38)) E1 d1).alloc (.cells #[.int .i64 t', .bool false, .int .i64 x', .int .i64 y'] 91)).heap.size ((extW (w.alloc (.cells #[.int .i64 g, .int .i64 cW, .int .i64 cH, .slice ca cn cc] 38)) E1 d1).alloc (.cells #[.int .i64 t', .bool false, .int .i64 x', .int .i64 y'] 91)))
     exact ⟨0, E0, d0, by omega, rfl, Lib.hid fun i h => absurd h (by omega), h0⟩
    case round =>
     obtain ⟨v, E2, d2, hv, rfl, HV, rfl⟩ := hrel
     by_cases hv3 : v < 3
     ·have dv : decide ((v : Int) < 3) = true := by simp; omega
      have vv : IntKind.i64.wrap ((v : Int) + 1) = (v : Int) + 1 := IntWalk.i64_in _ (by omega)
      go_wp2_with fail
      go_loopw [14] (fun xv wr => ∃ (u : Nat) (E : Array Obj) (d : Nat), u ≤ 3 ∧ xv = .int .i64 u ∧ Hid (∀ i, i < 3 * v + u → onB g M (shM N ⟨t', false, (x', y')⟩ ((i % 3 : Nat) : Int) ((i / 3 : Nat) : Int)) = true) ∧ wr = extW ((extW (w.alloc (.cells #[.int .i64 g, .int .i64 cW, .int .i64 cH, .slice ca cn cc] 38)) E1 d1).alloc (.cells #[.int .i64 t', .bool false, .int .i64 x', .int .i64 y'] 91)) E d) (fun xv _ => 3 - (intOf xv).toNat)
      case atStart => exact ⟨0, E2, d2, by omega, rfl, HV, rfl⟩
      case round =>
       obtain ⟨u, E3, d3, hu, rfl, HU, rfl⟩ := hrel
       by_cases hu3 : u < 3
       ·have du : decide ((u : Int) < 3) = true := by simp; omega
        have vu : IntKind.i64.wrap ((u : Int) + 1) = (u : Int) + 1 := IntWalk.i64_in _ (by omega)
        have hnb := HNN.out u v (by omega) (by omega)
        have HSH := Lib.hid (fun w => shifted_any (N : Int) u v t' false x' y' w (by omega) (by omega) (by omega) (by omega) (by omega))
        have HON1 := Lib.hid (fun w hI => HON.out t' false (x' + (N : Int) * u) (y' + (N : Int) * v) w ht' (by omega) (by omega) hI)
        have hsm : (⟨t', false, (x' + (N : Int) * u, y' + (N : Int) * v)⟩ : Mv) = shM N ⟨t', false, (x', y')⟩ (((3 * v + u) % 3 : Nat) : Int) (((3 * v + u) / 3 : Nat) : Int) := by
         rw [show (3 * v + u) % 3 = u by omega, show (3 * v + u) / 3 = v by omega]
         rfl
        have HU2 : Hid (onB g M ⟨t', false, (x' + (N : Int) * u, y' + (N : Int) * v)⟩ = true → ∀ i, i < 3 * v + (u + 1) → onB g M (shM N ⟨t', false, (x', y')⟩ ((i % 3 : Nat) : Int) ((i / 3 : Nat) : Int)) = true) := Lib.hid fun h i hi => by
         by_cases e : i = 3 * v + u
         ·subst e; rw [← hsm]; exact h
         ·exact HU.out i (by omega)
        have HCF : Hid (onB g M ⟨t', false, (x' + (N : Int) * u, y' + (N : Int) * v)⟩ = false → hb = false) := Lib.hid fun h => HC9F.out (3 * v + u) (by omega) (by rw [← hsm]; exact h)
        have hV1 : mvV ⟨t', false, (x' + (N : Int) * u, y' + (N : Int) * v)⟩ = .agg #[.int .i64 (t'), .bool (false), .int .i64 (x' + (N : Int) * u), .int .i64 (y' + (N : Int) * v)] := rfl
        rw [hV1] at HSH
        clear hsm hV1 hnb
        generalize x' + (N : Int) * u = p at *
        generalize y' + (N : Int) * v = q at *
        cases ho : onB g M ⟨t', false, (p, q)⟩ with
        | true =>
         rw [ho] at HU2 HON1
         have HU3 := Lib.hid (HU2.out rfl)
         clear HU HU2 HCF HON ho HC9F HC9T HV
         go_wp2_with fail
         (refine wp_region_ext (by kernel_rfl) (by kernel_rfl) ?_; (repeat (first | ((with_reducible refine ext_step (fun K hK => ?_)); go_simp; first | (refine hK _ ?_; clear hK K) | (apply Exists.intro; refine ⟨fun _ _ => ?_, hK _ ?_⟩; (first | ((go_at_call 45; exact extOf (HSH.out _))) | ((go_at_call 90; exact extOf (HON1.out _ (HM.out.below blw))))); clear hK K)))); refine wpQuiet_nil ?_; intro E d)
         go_wp2
         go_roundw
         case rel => exact ⟨u + 1, _, _, by omega, by go_num, HU3, by simp only [extW_extW]; rfl⟩
         case measure => simp [intOf]; omega
        | false =>
         rw [ho] at HCF HON1
         have HVV := Lib.hid (HCF.out rfl)
         clear HU HU2 HCF HON ho HC9F HC9T HV
         go_wp2_with fail
         (refine wp_region_ext (by kernel_rfl) (by kernel_rfl) ?_; (repeat (first | ((with_reducible refine ext_step (fun K hK => ?_)); go_simp; first | (refine hK _ ?_; clear hK K) | (apply Exists.intro; refine ⟨fun _ _ => ?_, hK _ ?_⟩; (first | ((go_at_call 45; exact extOf (HSH.out _))) | ((go_at_call 90; exact extOf (HON1.out _ (HM.out.below blw))))); clear hK K)))); refine wpQuiet_nil ?_; intro E d)
         go_wp2
         go_ret
         exact ⟨by rw [HVV.out]; rfl, blw⟩
       ·obtain rfl : u = 3 := by omega
        have du : decide (((3 : Nat) : Int) < 3) = false := by simp
        have HV2 : Hid (∀ i, i < 3 * (v + 1) → onB g M (shM N ⟨t', false, (x', y')⟩ ((i % 3 : Nat) : Int) ((i / 3 : Nat) : Int)) = true) := Lib.hid fun i hi => HU.out i (by omega)
        clear HU HC9F HC9T HV
        go_wp2
        go_roundw
        case rel => exact ⟨v + 1, _, _, by omega, by go_num, HV2, rfl⟩
        case measure => simp [intOf]; omega
     ·obtain rfl : v = 3 := by omega
      have dv : decide (((3 : Nat) : Int) < 3) = false := by simp
      have HN3 := Lib.hid (HC9T.out fun k hk => HV.out k (by omega))
      clear HC9F HC9T HV
      exact lfTk70
   ·have hcase : f' = true ∨ (f' = false ∧ ((t' : Int) != (turn : Int)) = true) := by
     cases f' with
     | true => exact .inl rfl
     | false => exact .inr ⟨rfl, by simp; intro e; exact hft ⟨rfl, by omega⟩⟩
    have HN3 := Lib.hid (HN2.out (by
     unfold ckB
     cases f' with
     | true => rfl
     | false => simp only [Bool.false_or]; rw [decide_eq_false (fun e => hft ⟨rfl, e⟩)]; rfl))
    clear HT HF HTM HN2 HN HON ho' hft
    rcases hcase with rfl | ⟨rfl, e1⟩
    all_goals
     exact lfTk70
  ·obtain rfl : j = k := by omega
   have dj : decide ((j : Int) < (j : Int)) = false := by simp
   have HV := Lib.hid (HF.out HN.out)
   clear HT HF HN
   go_wp2
   go_ret
   exact ⟨by rw [HV.out]; rfl, blw⟩
end
section
open Go.RowKit
open Z (torN place pnt Mv To lin okT nrm both idm md stepB)
def q3 (n : Int) (m : Mv) (k : Nat) : Mv := shM n m (((k % 3 : Nat) : Int) - 1) (((k / 3 : Nat) : Int) - 1)
def lnK (g : Int) (L : List Mv) (n : Int) (m : Mv) (k : Nat) : Bool := lnB g L n m.t (q3 n m k).o
def anyN (Q : Nat → Bool) (k : Nat) : Bool := (List.range k).any Q
def PT (t : Nat) (m : Mv) : Bool := decide (m.t = t) && !m.f
def PF (t : Nat) (m : Mv) : Bool := decide (m.t = t) && m.f
def PS (g : Int) (L : List Mv) (n : Int) (t : Nat) (m : Mv) : Bool := decide (m.t = t) && (m.f && anyN (lnK g L n m) 9)
def PO (g : Int) (L : List Mv) (n : Int) (t : Nat) (m : Mv) : Bool := decide (m.t = t) && (m.f && anyN (fun k => !lnK g L n m k) 9)
def anyL (P : Mv → Bool) (L : List Mv) (j : Nat) : Bool := (L.take j).any P
def cnt (Q : Nat → Bool) (t : Nat) : Nat := (List.range t).countP Q
theorem anyN_succ (Q : Nat → Bool) (k : Nat) : anyN Q (k + 1) = (anyN Q k || Q k) := by
 unfold anyN; rw [List.range_succ, List.any_append]; simp
theorem anyL_succ (P : Mv → Bool) {L : List Mv} {j : Nat} (hj : j < L.length) : anyL P L (j + 1) = (anyL P L j || P (L.getD j idm)) := by
 have h : L.take (j + 1) = L.take j ++ [L[j]] := by rw [List.take_add_one, List.getElem?_eq_getElem hj]; rfl
 have h2 : L.getD j idm = L[j] := by rw [List.getD_eq_getElem?_getD, List.getElem?_eq_getElem hj]; rfl
 unfold anyL; rw [h, h2, List.any_append]; simp
theorem cnt_succ (Q : Nat → Bool) (t : Nat) : ((cnt Q (t + 1) : Nat) : Int) = (cnt Q t : Nat) + (if Q t = true then 1 else 0) := by
 unfold cnt; rw [List.range_succ, List.countP_append]
 cases h : Q t <;> simp [h]
def rkS (tn fl mi gl : Int) (cen some : Bool) : Int :=
 if tn = 1 then (if fl = 0 then 1 else if gl = 0 then 3 else if mi = 0 then 4 else 5)
 else if tn = 2 then (if fl = 0 then 2 else if gl = 0 then 6 else if mi = 0 then 8 else if mi = 2 then 9 else 7)
 else if tn = 3 then (if fl = 0 then 13 else if cen = true then 14 else 15)
 else if tn = 4 then (if fl = 0 then 10 else if some = true then 11 else 12)
 else if fl = 0 then 16 else 17
def rkP (G N : Nat) (L : List Mv) : Int :=
 rkS (cnt (fun t => L.any (PT t)) G : Nat) (cnt (fun t => L.any (PF t)) G : Nat) (cnt (fun t => L.any (PS G L N t)) G : Nat) (cnt (fun t => L.any (PO G L N t)) G : Nat) (cenB G N L (mrL G N L L.length) 2) (someB G L (mrL G N L L.length) 1)
theorem mvsOk_moves {G W H N : Nat} {cs : List Int} (hg : Z.G (G : Int)) (h0 : 0 < N) (h24 : N ≤ 24) (hd : W ∣ N ∧ H ∣ N) : MvsOk G (Z.movesL W H cs G N) := by
 have hm := Z.movesL_grp (cs := cs) (g := (G : Int)) h0 hd.1 hd.2
 refine ⟨fun m h => ?_, fun m h => ?_⟩
 ·have := ((hm.mem m).1 h).1
  exact this
 ·have := ((hm.mem m).1 h).2.2
  omega
theorem mvsB_mir {g : Int} {L : List Mv} {n : Nat} (hn : n ≤ 24) (h : MvsOk g L) : MvsB g (mrL g n L L.length) := by
 have hb : ∀ i : Int, -5 ≤ i ∧ i ≤ 5 → -120 ≤ (n : Int) * i ∧ (n : Int) * i ≤ 120 := fun i hi => by
  have h1 := Int.mul_le_mul_of_nonneg_left hi.1 (show (0 : Int) ≤ n by omega)
  have h2 := Int.mul_le_mul_of_nonneg_left hi.2 (show (0 : Int) ≤ n by omega)
  omega
 refine ⟨fun m hm => ?_, fun m hm => ?_⟩
 ·obtain ⟨x, hx, _, i, j, _, _, rfl, _⟩ := mem_mrL.1 hm
  exact h.t x hx
 ·obtain ⟨x, hx, _, i, j, hi, hj, rfl, _⟩ := mem_mrL.1 hm
  have h1 := h.o x hx
  have h2 := hb i hi
  have h3 := hb j hj
  show (-200 ≤ x.o.1 + (n : Int) * i ∧ x.o.1 + (n : Int) * i ≤ 200) ∧ (-200 ≤ x.o.2 + (n : Int) * j ∧ x.o.2 + (n : Int) * j ≤ 200)
  omega
theorem mrL_len (g : Int) (n : Int) (L : List Mv) (k : Nat) : (mrL g n L k).length ≤ k * 121 := by
 have h1 : ∀ m j i, (mrR g n m j i).length ≤ i := fun m j i => by
  unfold mrR
  refine Nat.le_trans (List.length_filter_le _ _) ?_
  simp
 have h2 : ∀ m j, (mrC g n m j).length ≤ j * 11 := fun m j => by
  induction j with
  | zero => simp [mrC]
  | succ j ih => rw [mrC_succ, List.length_append]; have := h1 m j 11; omega
 have h3 : ∀ l : List Mv, (l.flatMap fun m => if m.f then mrC g n m 11 else []).length ≤ l.length * 121 := fun l => by
  induction l with
  | nil => simp
  | cons m l ih =>
   rw [List.flatMap_cons, List.length_append, List.length_cons]
   have h4 : (if m.f then mrC g n m 11 else []).length ≤ 121 := by
    split
    ·exact h2 m 11
    ·simp
   omega
 refine Nat.le_trans (h3 _) ?_
 rw [List.length_take]
 exact Nat.mul_le_mul_right _ (Nat.min_le_left _ _)
set_option maxRecDepth 100000 in
set_option maxHeartbeats 8000000 in
theorem rKind_bad (G W H : Int) (a : Option Addr) (n c : Nat) (cs : List Int) (w : World) (hI : IsInts w a n cs) (e : Int) (hT : TorBad e (.agg #[.int .i64 (G), .int .i64 (W), .int .i64 (H), .slice a n c]) a n cs) :
  Calls Tryz.prog 14 #[.agg #[.int .i64 (G), .int .i64 (W), .int .i64 (H), .slice a n c]] w fun r w' => r = .returned (.tuple #[.int .i64 (0), .int .i64 (e)]) ∧ Below w.heap.size w w' := by
 have hb : (e != 0) = true := by simpa using hT.1
 have HL := Lib.hid hT.2.2
 have HI := Lib.hid hI
 clear hI hT
 go_enter Tryz.func14, Tryz.ntmps14
 (go_wp2_with fail; refine (HL.out _ (HI.out.below blw)).mono ?_; rintro r w1 ⟨rfl, hb⟩; obtain ⟨E, d, rfl⟩ := bExt hb; clear hb)
 go_wp2
 refine bodyPost_ret (v := .tuple #[.int .i64 (0), .int .i64 (e)]) (by simp [results, Tryz.results14, go_sem]) rfl ⟨rfl, blw⟩
end
end Go.Proofs.YtajdoobkfbdgoaaGreatDoor
