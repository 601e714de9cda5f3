/- Lemmas and contracts of functions (what each call returns, and that it changes nothing that was there) that the proof of a law of this seat uses; each lemma states its own conditions. -/
import Derived.Test.YtdaacjaibfcacaaB43
namespace Go.Proofs.Ytdaacjaibfcacaa
open Go.RowKit
set_option linter.unusedVariables false
set_option linter.unusedSimpArgs false
open Z (torN place pnt Mv To lin okT nrm keepB colP idm md redM movdL)
theorem mv_wf8 {m : Mv} {g : Int} (hg : g = 4 ∨ g = 6) (ht : okT g m) : m.t ≤ 6 := by unfold okT at ht; omega
theorem ms1 (W1 : World) (g N : Int) (M : Nat) : MS (W1.heap.size + 1) W1.heap.size W1 g N M (List.replicate M 0) ((W1.alloc (.cells (madeCells #[.int .i64 0] M) 3)).alloc (.cells #[.int .i64 g, .int .i64 N, .int .i64 N, .slice (some ⟨W1.heap.size, 0, none⟩) M M] 36)) := by
  have h1 := World.rowIs_made W1 (.int .i64 0) M 3
  have h2 := chtF_alloc (W1.alloc (.cells (madeCells #[.int .i64 0] M) 3)) g N N (some ⟨W1.heap.size, 0, none⟩) M M
  rw [World.size_alloc] at h2
  exact ⟨h2, (h1.alloc _).congr fun i hi => by simp [hi], by simp, Nat.le_refl _, ((Below.refl _ _).alloc (Nat.le_refl _) _).alloc (by rw [World.size_alloc]; omega) _⟩
theorem ms2 (W1 : World) (g N : Int) (M : Nat) : MS W1.heap.size (W1.heap.size + 1) W1 g N M (List.replicate M 0) ((W1.alloc (.cells #[.int .i64 g, .int .i64 N, .int .i64 N, .slice (some ⟨W1.heap.size + 1, 0, none⟩) M M] 36)).alloc (.cells (madeCells #[.int .i64 0] M) 3)) := by
  have h1 := World.rowIs_made (W1.alloc (.cells #[.int .i64 g, .int .i64 N, .int .i64 N, .slice (some ⟨W1.heap.size + 1, 0, none⟩) M M] 36)) (.int .i64 0) M 3
  have h2 := chtF_alloc W1 g N N (some ⟨W1.heap.size + 1, 0, none⟩) M M
  rw [World.size_alloc] at h1
  exact ⟨h2.alloc _, h1.congr fun i hi => by simp [hi], by simp, by omega, ((Below.refl _ _).alloc (Nat.le_refl _) _).alloc (by rw [World.size_alloc]; omega) _⟩
set_option maxRecDepth 100000 in
set_option maxHeartbeats 8000000 in
theorem rMoved_ok (G W H n N t M : Nat) (f : Bool) (ox oy : Int) (a : Option Addr) (c : Nat) (cs : List Int) (w : World) (hI : IsInts w a n cs) (h : ChOk G W H n cs) (hN : torN W H = N) (h24 : N ≤ 24) (h0 : 0 < N) (hM : N * N = M) (hx : (-9223372036854775808 ≤ ox ∧ ox ≤ 9223372036854775807)) (hy : (-9223372036854775808 ≤ oy ∧ oy ≤ 9223372036854775807)) (he : wE G t ox oy = 0) :
    Calls Try.prog 46 #[.agg #[.int .i64 (G), .int .i64 (W), .int .i64 (H), .slice a n c], .agg #[.int .i64 (t), .bool (f), .int .i64 (ox), .int .i64 (oy)]] w (MdPost G N N M (movdL W H cs G N ⟨t, f, (ox, oy)⟩ M) 0 w) := by
  have hg : (G : Int) = 4 ∨ (G : Int) = 6 := by have := h.g; omega
  obtain ⟨_, hs, n', hn', htl⟩ := wE_zero he
  have htG : t < G := by omega
  have ht6 : t ≤ 6 := by have := h.g; omega
  have hM6 : M ≤ 576 := by rw [← hM]; exact Nat.mul_le_mul h24 h24
  have hNi : (N : Int) * (N : Int) = (M : Int) := by rw [← hM]; push_cast; rfl
  have vM : IntKind.i64.wrap (M : Int) = (M : Int) := IntWalk.i64_in _ (by omega)
  have hmk := makeRow okI8 rfl M (by omega) (by omega)
  have HT := Lib.hid (torOk (a := a) (c := c) h hN h24).2
  have HWR := Lib.hid (fun w => rWrong_any G t ox oy f w (by omega) (by omega) hx hy)
  rw [he] at HWR
  have HTO := Lib.hid (fun (x y : Int) w (h1 : 0 ≤ x ∧ x ≤ 24) (h2 : 0 ≤ y ∧ y ≤ 24) => rTo_any G x y ox oy t f w hg ht6 (Int.le_trans (Z.nrm_bd hg (a := (x,y)) (B := 24) (by simp only; omega) (by simp only; omega)) (by decide)) (by omega) (by omega))
  have HTB : Hid (∀ x y : Int, 0 ≤ x ∧ x ≤ 24 → 0 ≤ y ∧ y ≤ 24 → (-1050000 ≤ (To G ⟨t, f, (ox, oy)⟩ (x, y)).1 ∧ (To G ⟨t, f, (ox, oy)⟩ (x, y)).1 ≤ 1050000) ∧ (-1050000 ≤ (To G ⟨t, f, (ox, oy)⟩ (x, y)).2 ∧ (To G ⟨t, f, (ox, oy)⟩ (x, y)).2 ≤ 1050000)) := Lib.hid fun x y h1 h2 => by
    have hb := lin_small hg t f h1 h2
    unfold To Z.add; simp only; omega
  have HC := Lib.hid (fun (x y : Int) w hI hx hy => Cell_ok G W H n a c cs x y w hI h.w1 h.w2 h.h1 h.h2 h.hn hx hy)
  have HON := Lib.hid (fun x y w hx hy => On_ok N x y w h0 (by omega) hx hy)
  have HPB : Hid (∀ z, place N z < M) := Lib.hid fun z => by rw [← hM]; exact Z.place_lt h0 z
  have HZ0 : Hid (movdL W H cs G N ⟨t, f, (ox, oy)⟩ 0 = List.replicate M 0) := Lib.hid (by rw [movdL_zero, hM])
  have HI := Lib.hid hI
  have HM := Lib.hid hM
  unfold MdPost
  clear hI hN h he hn' htl htG ht6 hg hM hs hx hy
  go_enter Try.func46, Try.ntmps46
  (go_wp2_with fail; refine (HT.out _ (HI.out.below (by repeat (first | exact Below.refl _ _ | refine Below.drew ?_ | refine below_drewN ?_ _ | refine Below.alloc ?_ (by first | exact Nat.le_refl _ | (simp; done) | (simp; omega) | omega) _ | refine Below.setCell ?_ (by first | exact Nat.le_refl _ | (simp; done) | (simp; omega) | omega) _ | refine bExtW ?_ (by first | exact Nat.le_refl _ | (simp; done) | (simp; omega) | omega) | refine Below.trans ?_ (Below.mono (by assumption) (by first | exact Nat.le_refl _ | (simp; done) | (simp; omega) | omega)))))).mono ?_; rintro r w1 ⟨rfl, hb⟩; obtain ⟨E, d, rfl⟩ := bExt hb; clear hb)
  go_wp2_with fail
  refine (HWR.out _).mono ?_
  rintro r w1 ⟨rfl, hb⟩
  obtain ⟨E1, d1, rfl⟩ := bExt hb
  clear hb
  rw [extW_extW]
  obtain ⟨W1, hW1⟩ : ∃ W1, W1 = extW (((w.alloc (.cells #[.int .i64 (G : Int), .int .i64 (W : Int), .int .i64 (H : Int), .slice a n c] 36)).alloc (.cells #[.int .i64 (t : Int), .bool f, .int .i64 ox, .int .i64 oy] 53)).alloc (.cells #[.int .i64 0, .int .i64 0, .int .i64 0, .slice none 0 0] 36)) (E ++ E1) d1 := ⟨_, rfl⟩
  rw [← hW1]
  have hbw : Below w.heap.size w W1 := by rw [hW1]; exact (by repeat (first | exact Below.refl _ _ | refine Below.drew ?_ | refine below_drewN ?_ _ | refine Below.alloc ?_ (by first | exact Nat.le_refl _ | (simp; done) | (simp; omega) | omega) _ | refine Below.setCell ?_ (by first | exact Nat.le_refl _ | (simp; done) | (simp; omega) | omega) _ | refine bExtW ?_ (by first | exact Nat.le_refl _ | (simp; done) | (simp; omega) | omega) | refine Below.trans ?_ (Below.mono (by assumption) (by first | exact Nat.le_refl _ | (simp; done) | (simp; omega) | omega))))
  have hsz1 : w.heap.size ≤ W1.heap.size := hbw.size
  have cb0 : W1.cell? ⟨w.heap.size, 0, none⟩ = some (.int .i64 (G)) := by rw [hW1]; simp [go_sem]
  have cb1 : W1.cell? ⟨w.heap.size, 1, none⟩ = some (.int .i64 (W)) := by rw [hW1]; simp [go_sem]
  have cb2 : W1.cell? ⟨w.heap.size, 2, none⟩ = some (.int .i64 (H)) := by rw [hW1]; simp [go_sem]
  have cb3 : W1.cell? ⟨w.heap.size, 3, none⟩ = some (.slice a n c) := by rw [hW1]; simp [go_sem]
  have cm0 : W1.cell? ⟨w.heap.size + 1, 0, none⟩ = some (.int .i64 (t)) := by rw [hW1]; simp [go_sem]
  have cm1 : W1.cell? ⟨w.heap.size + 1, 1, none⟩ = some (.bool f) := by rw [hW1]; simp [go_sem]
  have cm2 : W1.cell? ⟨w.heap.size + 1, 2, none⟩ = some (.int .i64 (ox)) := by rw [hW1]; simp [go_sem]
  have cm3 : W1.cell? ⟨w.heap.size + 1, 3, none⟩ = some (.int .i64 (oy)) := by rw [hW1]; simp [go_sem]
  have HRR : Hid (W1.rowIs (w.heap.size + 1 + 1) 36 4 (chtF 0 0 0 (.slice none 0 0))) := Lib.hid (by
    have h1 := chtF_alloc ((w.alloc (.cells #[.int .i64 (G : Int), .int .i64 (W : Int), .int .i64 (H : Int), .slice a n c] 36)).alloc (.cells #[.int .i64 (t : Int), .bool f, .int .i64 ox, .int .i64 oy] 53)) 0 0 0 none 0 0
    rw [World.size_alloc, World.size_alloc] at h1
    rw [hW1]
    exact rowBelow h1 (bExtW (Below.refl _ _) (Nat.le_refl _)) h1.lt)
  have lkW : LtW w.heap.size W1 := World.block_lt_of_cell? _ _ cb0
  clear hW1 HT HWR
  go_wp2_with fail
  go_region
  all_goals go_wp2_with fail
  · have hMS := (ms1 W1 G N M).grow (Below.refl _ _).drew
    obtain ⟨ob, hob⟩ : ∃ ob, ob = W1.heap.size + 1 := ⟨_, rfl⟩
    obtain ⟨gb, hgb⟩ : ∃ gb, gb = W1.heap.size := ⟨_, rfl⟩
    rw [← hob, ← hgb] at hMS ⊢
    have HMS0 := Lib.hid hMS
    clear hMS hob hgb
    go_loopw [10] (fun yv wr => ∃ (y : Nat), y ≤ N ∧ yv = .int .i64 y ∧ Hid (MS ob gb W1 G N M (movdL W H cs G N ⟨t, f, (ox, oy)⟩ (y * N)) wr)) (fun yv _ => N - (intOf yv).toNat)
    case atStart => exact ⟨0, by omega, rfl, by rw [Nat.zero_mul, HZ0.out]; exact HMS0⟩
    case round =>
      clear HMS0
      obtain ⟨y, hy, rfl, HMS⟩ := hrel
      by_cases hyn : y < N
      · have vy : IntKind.i64.wrap ((y : Int) + 1) = (y : Int) + 1 := IntWalk.i64_in _ (by omega)
        have dy : decide ((y : Int) < (N : Int)) = true := by simpa using hyn
        go_wp2_with fail
        obtain ⟨wo, rfl⟩ : ∃ wo : World, wo = wr := ⟨_, rfl⟩
        go_loopw [11] (fun xv wr => ∃ (x : Nat), x ≤ N ∧ xv = .int .i64 x ∧ Hid (MS ob gb W1 G N M (movdL W H cs G N ⟨t, f, (ox, oy)⟩ (y * N + x)) wr)) (fun xv _ => N - (intOf xv).toNat)
        case atStart => exact ⟨0, by omega, rfl, HMS⟩
        case round =>
          clear HMS
          obtain ⟨x, hx, rfl, HMS⟩ := hrel
          by_cases hxn : x < N
          · have vx : IntKind.i64.wrap ((x : Int) + 1) = (x : Int) + 1 := IntWalk.i64_in _ (by omega)
            have dx : decide ((x : Int) < (N : Int)) = true := by simpa using hxn
            have HMD := Lib.hid (movdL_succ (W := W) (H := H) (cs := cs) (g := (G : Int)) (n := N) ⟨t, f, (ox, oy)⟩ (y * N + x))
            rw [pnt_at hxn] at HMD
            have HTO1 := Lib.hid (fun w => HTO.out (x : Int) (y : Int) w (by omega) (by omega))
            have hbd := HTB.out (x : Int) (y : Int) (by omega) (by omega)
            have HC1 := Lib.hid (fun w hI => HC.out (x : Int) (y : Int) w hI (by omega) (by omega))
            have e1 : cellAt W H cs (x : Int) (y : Int) = colP W H cs ((x : Int), (y : Int)) := rfl
            rw [e1] at HC1
            have hqM := HPB.out (To G ⟨t, f, (ox, oy)⟩ ((x : Int), (y : Int)))
            clear e1
            generalize To G ⟨t, f, (ox, oy)⟩ ((x : Int), (y : Int)) = pp at *
            generalize colP W H cs ((x : Int), (y : Int)) = q1 at *
            obtain ⟨px, py⟩ := pp
            simp only at hbd
            obtain ⟨qx, qy, e1, hqx, e2, hqy, e3⟩ := torus_pt h0 (px, py)
            have HON1 := Lib.hid (fun w => HON.out px py w (by omega) (by omega))
            simp only at e1 e2
            rw [e1, e2] at HON1
            rw [e3] at HMD hqM
            obtain ⟨R1, hR1⟩ : ∃ Q, qy * N = Q := ⟨_, rfl⟩
            obtain ⟨R, hR⟩ : ∃ Q, R1 + qx = Q := ⟨_, rfl⟩
            have p3 : (qy : Int) * (N : Int) = (R1 : Int) := by rw [← hR1]; push_cast; rfl
            have p4 : (R1 : Int) + (qx : Int) = (R : Int) := by rw [← hR]; push_cast; rfl
            rw [hR1, hR] at HMD hqM
            have r3 : IntKind.i64.wrap (R1 : Int) = (R1 : Int) := IntWalk.i64_in _ (by omega)
            have r4 : IntKind.i64.wrap (R : Int) = (R : Int) := IntWalk.i64_in _ (by omega)
            clear hR1 hR e1 e2 e3 hbd HTO HTB HC HPB HON
            generalize movdL W H cs G N ⟨t, f, (ox, oy)⟩ (y * N + x) = L at *
            have k0 := bCs (HMS.out).bel cb0
            have k1 := bCs (HMS.out).bel cb1
            have k2 := bCs (HMS.out).bel cb2
            have k3 := bCs (HMS.out).bel cb3
            have m0 := bCs (HMS.out).bel cm0
            have m1 := bCs (HMS.out).bel cm1
            have m2 := bCs (HMS.out).bel cm2
            have m3 := bCs (HMS.out).bel cm3
            have lk : LtW w.heap.size wr := World.block_lt_of_cell? _ _ k0
            have lm : LtW (w.heap.size + 1) wr := World.block_lt_of_cell? _ _ m0
            have o3 : (wr).cell? ⟨ob, 3, none⟩ = some (.slice (some ⟨gb, 0, none⟩) M M) := (HMS.out).o.cell (i := 3) (by omega)
            have lo : LtW ob wr := (HMS.out).o.lt
            have lg : LtW gb wr := (HMS.out).c.lt
            go_wp2_with fail
            refine (HTO1.out _).mono ?_
            rintro r w4 ⟨rfl, hb4⟩
            have HMS4 := Lib.hid (HMS.out.grow hb4)
            clear k0 k1 k2 k3 m0 m1 m2 m3 lk lm o3 lo lg
            clear HMS hb4 HTO1
            have k0 := bCs (HMS4.out).bel cb0
            have k1 := bCs (HMS4.out).bel cb1
            have k2 := bCs (HMS4.out).bel cb2
            have k3 := bCs (HMS4.out).bel cb3
            have m0 := bCs (HMS4.out).bel cm0
            have m1 := bCs (HMS4.out).bel cm1
            have m2 := bCs (HMS4.out).bel cm2
            have m3 := bCs (HMS4.out).bel cm3
            have lk : LtW w.heap.size w4 := World.block_lt_of_cell? _ _ k0
            have lm : LtW (w.heap.size + 1) w4 := World.block_lt_of_cell? _ _ m0
            have o3 : (w4).cell? ⟨ob, 3, none⟩ = some (.slice (some ⟨gb, 0, none⟩) M M) := (HMS4.out).o.cell (i := 3) (by omega)
            have lo : LtW ob w4 := (HMS4.out).o.lt
            have lg : LtW gb w4 := (HMS4.out).c.lt
            go_wp2_with fail
            refine (HON1.out _).mono ?_
            rintro r w5 ⟨rfl, hb5⟩
            have hbz : Below w5.heap.size w5 (w5.alloc (.cells #[.int .i64 (qx : Int), .int .i64 (qy : Int)] 38)) := (Below.refl _ _).alloc (Nat.le_refl _) _
            have HMS6 := Lib.hid ((HMS4.out.grow hb5).grow hbz)
            have z0 : (w5.alloc (.cells #[.int .i64 (qx : Int), .int .i64 (qy : Int)] 38)).cell? ⟨w5.heap.size, 0, none⟩ = some (.int .i64 (qx : Int)) := by simp [go_sem]
            have z1 : (w5.alloc (.cells #[.int .i64 (qx : Int), .int .i64 (qy : Int)] 38)).cell? ⟨w5.heap.size, 1, none⟩ = some (.int .i64 (qy : Int)) := by simp [go_sem]
            have HMS5 := Lib.hid (HMS4.out.grow hb5)
            clear k0 k1 k2 k3 m0 m1 m2 m3 lk lm o3 lo lg
            clear HMS4 hb5 HON1 z0 z1 hbz HMS6
            have k0 := bCs (HMS5.out).bel cb0
            have k1 := bCs (HMS5.out).bel cb1
            have k2 := bCs (HMS5.out).bel cb2
            have k3 := bCs (HMS5.out).bel cb3
            have m0 := bCs (HMS5.out).bel cm0
            have m1 := bCs (HMS5.out).bel cm1
            have m2 := bCs (HMS5.out).bel cm2
            have m3 := bCs (HMS5.out).bel cm3
            have lk : LtW w.heap.size w5 := World.block_lt_of_cell? _ _ k0
            have lm : LtW (w.heap.size + 1) w5 := World.block_lt_of_cell? _ _ m0
            have o3 : (w5).cell? ⟨ob, 3, none⟩ = some (.slice (some ⟨gb, 0, none⟩) M M) := (HMS5.out).o.cell (i := 3) (by omega)
            have lo : LtW ob w5 := (HMS5.out).o.lt
            have lg : LtW gb w5 := (HMS5.out).c.lt
            have cq : w5.cell? ⟨gb, R, none⟩ = some (.int .i64 (L.getD R 0)) := HMS5.out.c.cell (i := R) hqM
            have fq := HMS5.out.c.frozen R
            have HIW := Lib.hid (HI.out.below (hbw.trans (HMS5.out.bel.mono hsz1)))
            go_wp2_with fail
            (refine wp_region_ext_tail 14 (by kernel_rfl) (by kernel_rfl) ?_; simp only [List.take_succ_cons, List.take_zero, List.drop_succ_cons, List.drop_zero]; (repeat (first | ((with_reducible refine ext_step (fun K hK => ?_)); go_simp; first | (refine hK _ ?_; clear hK K) | (apply Exists.intro; refine ⟨fun _ _ => ?_, hK _ ?_⟩; (go_at_call 73; exact extOf (HC1.out _ (HIW.out.below (by repeat (first | exact Below.refl _ _ | refine Below.drew ?_ | refine below_drewN ?_ _ | refine Below.alloc ?_ (by first | exact Nat.le_refl _ | (simp; done) | (simp; omega) | omega) _ | refine Below.setCell ?_ (by first | exact Nat.le_refl _ | (simp; done) | (simp; omega) | omega) _ | refine bExtW ?_ (by first | exact Nat.le_refl _ | (simp; done) | (simp; omega) | omega) | refine Below.trans ?_ (Below.mono (by assumption) (by first | exact Nat.le_refl _ | (simp; done) | (simp; omega) | omega))))))); clear hK K)))); refine wpQuiet_nil ?_; intro E d)
            have HMS7 := Lib.hid (((HMS5.out.put hqM q1).grow ((Below.refl _ _).alloc (Nat.le_refl _) (.cells #[.int .i64 (qx : Int), .int .i64 (qy : Int)] 38))).grow (bExtW (Below.refl _ _) (Nat.le_refl _) (E := E) (d := d)))
            go_wp2
            go_roundw
            case rel => exact ⟨x + 1, by omega, by go_num, by rw [← Nat.add_assoc, HMD.out]; exact HMS7⟩
            case measure => simp [intOf]; omega
          · obtain rfl : x = N := by omega
            have dx : decide ((x : Int) < (x : Int)) = false := by simp
            rw [← Nat.succ_mul] at HMS
            go_wp2
            go_roundw
            case rel => exact ⟨y + 1, by omega, by go_num, HMS⟩
            case measure => simp [intOf]; omega
      · obtain rfl : y = N := by omega
        have dy : decide ((y : Int) < (y : Int)) = false := by simp
        rw [HM.out] at HMS
        have HR2 := rowBelow HRR.out HMS.out.bel HRR.out.lt
        have r0 : wr.cell? ⟨w.heap.size + 1 + 1, 0, none⟩ = some (.int .i64 (0)) := HR2.cell (i := 0) (by omega)
        have r1 : wr.cell? ⟨w.heap.size + 1 + 1, 1, none⟩ = some (.int .i64 (0)) := HR2.cell (i := 1) (by omega)
        have r2 : wr.cell? ⟨w.heap.size + 1 + 1, 2, none⟩ = some (.int .i64 (0)) := HR2.cell (i := 2) (by omega)
        have r3 : wr.cell? ⟨w.heap.size + 1 + 1, 3, none⟩ = some (.slice none 0 0) := HR2.cell (i := 3) (by omega)
        have s0 := HR2.frozen 0
        have s1 := HR2.frozen 1
        have s2 := HR2.frozen 2
        have s3 := HR2.frozen 3
        have lr : LtW (w.heap.size + 1 + 1) wr := HR2.lt
        have o0 : wr.cell? ⟨ob, 0, none⟩ = some (.int .i64 (G : Int)) := HMS.out.o.cell (i := 0) (by omega)
        have o1 : wr.cell? ⟨ob, 1, none⟩ = some (.int .i64 (y : Int)) := HMS.out.o.cell (i := 1) (by omega)
        have o2 : wr.cell? ⟨ob, 2, none⟩ = some (.int .i64 (y : Int)) := HMS.out.o.cell (i := 2) (by omega)
        have o3 : wr.cell? ⟨ob, 3, none⟩ = some (.slice (some ⟨gb, 0, none⟩) M M) := HMS.out.o.cell (i := 3) (by omega)
        have lo : LtW ob wr := HMS.out.o.lt
        have hgr : gb ≠ w.heap.size + 1 + 1 := fun e => by have := HMS.out.lo; have := HRR.out.lt; omega
        have HFIN : Hid (∀ v0 v1 v2 v3, IsInts ((((wr.setCell ⟨w.heap.size + 1 + 1, 0, none⟩ v0).setCell ⟨w.heap.size + 1 + 1, 1, none⟩ v1).setCell ⟨w.heap.size + 1 + 1, 2, none⟩ v2).setCell ⟨w.heap.size + 1 + 1, 3, none⟩ v3) (some ⟨gb, 0, none⟩) M (movdL W H cs G y ⟨t, f, (ox, oy)⟩ M) ∧ Below w.heap.size w ((((wr.setCell ⟨w.heap.size + 1 + 1, 0, none⟩ v0).setCell ⟨w.heap.size + 1 + 1, 1, none⟩ v1).setCell ⟨w.heap.size + 1 + 1, 2, none⟩ v2).setCell ⟨w.heap.size + 1 + 1, 3, none⟩ v3)) := Lib.hid fun v0 v1 v2 v3 => by
          have hc := (((HMS.out.c.setOther (a := ⟨w.heap.size + 1 + 1, 0, none⟩) hgr v0).setOther (a := ⟨w.heap.size + 1 + 1, 1, none⟩) hgr v1).setOther (a := ⟨w.heap.size + 1 + 1, 2, none⟩) hgr v2).setOther (a := ⟨w.heap.size + 1 + 1, 3, none⟩) hgr v3
          refine ⟨⟨HMS.out.ll, fun _ => ⟨gb, 0, rfl, hc.lt, fun j hj => by rw [Nat.zero_add]; exact hc.cell hj⟩⟩, ?_⟩
          have h6 := hbw.trans (HMS.out.bel.mono hsz1)
          exact (((h6.setCell (p := ⟨w.heap.size + 1 + 1, 0, none⟩) (by simp only; omega) v0).setCell (p := ⟨w.heap.size + 1 + 1, 1, none⟩) (by simp only; omega) v1).setCell (p := ⟨w.heap.size + 1 + 1, 2, none⟩) (by simp only; omega) v2).setCell (p := ⟨w.heap.size + 1 + 1, 3, none⟩) (by simp only; omega) v3
        clear HMS HR2 HTO HTB HC HPB HON HZ0
        go_wp2
        refine bodyPost_ret (v := .tuple #[.agg #[.int .i64 (G), .int .i64 (y), .int .i64 (y), .slice (some ⟨gb, 0, none⟩) M M], .int .i64 (0)]) (by simp [results, Try.results46, go_sem, r0, r1, r2, r3, lr]) rfl ⟨⟨_, _, rfl, (HFIN.out _ _ _ _).1⟩, (HFIN.out _ _ _ _).2⟩
  · have hMS := (ms2 W1 G N M).grow (Below.refl _ _).drew
    obtain ⟨ob, hob⟩ : ∃ ob, ob = W1.heap.size := ⟨_, rfl⟩
    obtain ⟨gb, hgb⟩ : ∃ gb, gb = W1.heap.size + 1 := ⟨_, rfl⟩
    rw [← hgb, ← hob] at hMS ⊢
    have HMS0 := Lib.hid hMS
    clear hMS hob hgb
    go_loopw [10] (fun yv wr => ∃ (y : Nat), y ≤ N ∧ yv = .int .i64 y ∧ Hid (MS ob gb W1 G N M (movdL W H cs G N ⟨t, f, (ox, oy)⟩ (y * N)) wr)) (fun yv _ => N - (intOf yv).toNat)
    case atStart => exact ⟨0, by omega, rfl, by rw [Nat.zero_mul, HZ0.out]; exact HMS0⟩
    case round =>
      clear HMS0
      obtain ⟨y, hy, rfl, HMS⟩ := hrel
      by_cases hyn : y < N
      · have vy : IntKind.i64.wrap ((y : Int) + 1) = (y : Int) + 1 := IntWalk.i64_in _ (by omega)
        have dy : decide ((y : Int) < (N : Int)) = true := by simpa using hyn
        go_wp2_with fail
        obtain ⟨wo, rfl⟩ : ∃ wo : World, wo = wr := ⟨_, rfl⟩
        go_loopw [11] (fun xv wr => ∃ (x : Nat), x ≤ N ∧ xv = .int .i64 x ∧ Hid (MS ob gb W1 G N M (movdL W H cs G N ⟨t, f, (ox, oy)⟩ (y * N + x)) wr)) (fun xv _ => N - (intOf xv).toNat)
        case atStart => exact ⟨0, by omega, rfl, HMS⟩
        case round =>
          clear HMS
          obtain ⟨x, hx, rfl, HMS⟩ := hrel
          by_cases hxn : x < N
          · have vx : IntKind.i64.wrap ((x : Int) + 1) = (x : Int) + 1 := IntWalk.i64_in _ (by omega)
            have dx : decide ((x : Int) < (N : Int)) = true := by simpa using hxn
            have HMD := Lib.hid (movdL_succ (W := W) (H := H) (cs := cs) (g := (G : Int)) (n := N) ⟨t, f, (ox, oy)⟩ (y * N + x))
            rw [pnt_at hxn] at HMD
            have HTO1 := Lib.hid (fun w => HTO.out (x : Int) (y : Int) w (by omega) (by omega))
            have hbd := HTB.out (x : Int) (y : Int) (by omega) (by omega)
            have HC1 := Lib.hid (fun w hI => HC.out (x : Int) (y : Int) w hI (by omega) (by omega))
            have e1 : cellAt W H cs (x : Int) (y : Int) = colP W H cs ((x : Int), (y : Int)) := rfl
            rw [e1] at HC1
            have hqM := HPB.out (To G ⟨t, f, (ox, oy)⟩ ((x : Int), (y : Int)))
            clear e1
            generalize To G ⟨t, f, (ox, oy)⟩ ((x : Int), (y : Int)) = pp at *
            generalize colP W H cs ((x : Int), (y : Int)) = q1 at *
            obtain ⟨px, py⟩ := pp
            simp only at hbd
            obtain ⟨qx, qy, e1, hqx, e2, hqy, e3⟩ := torus_pt h0 (px, py)
            have HON1 := Lib.hid (fun w => HON.out px py w (by omega) (by omega))
            simp only at e1 e2
            rw [e1, e2] at HON1
            rw [e3] at HMD hqM
            obtain ⟨R1, hR1⟩ : ∃ Q, qy * N = Q := ⟨_, rfl⟩
            obtain ⟨R, hR⟩ : ∃ Q, R1 + qx = Q := ⟨_, rfl⟩
            have p3 : (qy : Int) * (N : Int) = (R1 : Int) := by rw [← hR1]; push_cast; rfl
            have p4 : (R1 : Int) + (qx : Int) = (R : Int) := by rw [← hR]; push_cast; rfl
            rw [hR1, hR] at HMD hqM
            have r3 : IntKind.i64.wrap (R1 : Int) = (R1 : Int) := IntWalk.i64_in _ (by omega)
            have r4 : IntKind.i64.wrap (R : Int) = (R : Int) := IntWalk.i64_in _ (by omega)
            clear hR1 hR e1 e2 e3 hbd HTO HTB HC HPB HON
            generalize movdL W H cs G N ⟨t, f, (ox, oy)⟩ (y * N + x) = L at *
            have k0 := bCs (HMS.out).bel cb0
            have k1 := bCs (HMS.out).bel cb1
            have k2 := bCs (HMS.out).bel cb2
            have k3 := bCs (HMS.out).bel cb3
            have m0 := bCs (HMS.out).bel cm0
            have m1 := bCs (HMS.out).bel cm1
            have m2 := bCs (HMS.out).bel cm2
            have m3 := bCs (HMS.out).bel cm3
            have lk : LtW w.heap.size wr := World.block_lt_of_cell? _ _ k0
            have lm : LtW (w.heap.size + 1) wr := World.block_lt_of_cell? _ _ m0
            have o3 : (wr).cell? ⟨ob, 3, none⟩ = some (.slice (some ⟨gb, 0, none⟩) M M) := (HMS.out).o.cell (i := 3) (by omega)
            have lo : LtW ob wr := (HMS.out).o.lt
            have lg : LtW gb wr := (HMS.out).c.lt
            go_wp2_with fail
            refine (HTO1.out _).mono ?_
            rintro r w4 ⟨rfl, hb4⟩
            have HMS4 := Lib.hid (HMS.out.grow hb4)
            clear k0 k1 k2 k3 m0 m1 m2 m3 lk lm o3 lo lg
            clear HMS hb4 HTO1
            have k0 := bCs (HMS4.out).bel cb0
            have k1 := bCs (HMS4.out).bel cb1
            have k2 := bCs (HMS4.out).bel cb2
            have k3 := bCs (HMS4.out).bel cb3
            have m0 := bCs (HMS4.out).bel cm0
            have m1 := bCs (HMS4.out).bel cm1
            have m2 := bCs (HMS4.out).bel cm2
            have m3 := bCs (HMS4.out).bel cm3
            have lk : LtW w.heap.size w4 := World.block_lt_of_cell? _ _ k0
            have lm : LtW (w.heap.size + 1) w4 := World.block_lt_of_cell? _ _ m0
            have o3 : (w4).cell? ⟨ob, 3, none⟩ = some (.slice (some ⟨gb, 0, none⟩) M M) := (HMS4.out).o.cell (i := 3) (by omega)
            have lo : LtW ob w4 := (HMS4.out).o.lt
            have lg : LtW gb w4 := (HMS4.out).c.lt
            go_wp2_with fail
            refine (HON1.out _).mono ?_
            rintro r w5 ⟨rfl, hb5⟩
            have hbz : Below w5.heap.size w5 (w5.alloc (.cells #[.int .i64 (qx : Int), .int .i64 (qy : Int)] 38)) := (Below.refl _ _).alloc (Nat.le_refl _) _
            have HMS6 := Lib.hid ((HMS4.out.grow hb5).grow hbz)
            have z0 : (w5.alloc (.cells #[.int .i64 (qx : Int), .int .i64 (qy : Int)] 38)).cell? ⟨w5.heap.size, 0, none⟩ = some (.int .i64 (qx : Int)) := by simp [go_sem]
            have z1 : (w5.alloc (.cells #[.int .i64 (qx : Int), .int .i64 (qy : Int)] 38)).cell? ⟨w5.heap.size, 1, none⟩ = some (.int .i64 (qy : Int)) := by simp [go_sem]
            have HMS5 := Lib.hid (HMS4.out.grow hb5)
            clear k0 k1 k2 k3 m0 m1 m2 m3 lk lm o3 lo lg
            clear HMS4 hb5 HON1 z0 z1 hbz HMS6
            have k0 := bCs (HMS5.out).bel cb0
            have k1 := bCs (HMS5.out).bel cb1
            have k2 := bCs (HMS5.out).bel cb2
            have k3 := bCs (HMS5.out).bel cb3
            have m0 := bCs (HMS5.out).bel cm0
            have m1 := bCs (HMS5.out).bel cm1
            have m2 := bCs (HMS5.out).bel cm2
            have m3 := bCs (HMS5.out).bel cm3
            have lk : LtW w.heap.size w5 := World.block_lt_of_cell? _ _ k0
            have lm : LtW (w.heap.size + 1) w5 := World.block_lt_of_cell? _ _ m0
            have o3 : (w5).cell? ⟨ob, 3, none⟩ = some (.slice (some ⟨gb, 0, none⟩) M M) := (HMS5.out).o.cell (i := 3) (by omega)
            have lo : LtW ob w5 := (HMS5.out).o.lt
            have lg : LtW gb w5 := (HMS5.out).c.lt
            have cq : w5.cell? ⟨gb, R, none⟩ = some (.int .i64 (L.getD R 0)) := HMS5.out.c.cell (i := R) hqM
            have fq := HMS5.out.c.frozen R
            have HIW := Lib.hid (HI.out.below (hbw.trans (HMS5.out.bel.mono hsz1)))
            go_wp2_with fail
            (refine wp_region_ext_tail 14 (by kernel_rfl) (by kernel_rfl) ?_; simp only [List.take_succ_cons, List.take_zero, List.drop_succ_cons, List.drop_zero]; (repeat (first | ((with_reducible refine ext_step (fun K hK => ?_)); go_simp; first | (refine hK _ ?_; clear hK K) | (apply Exists.intro; refine ⟨fun _ _ => ?_, hK _ ?_⟩; (go_at_call 73; exact extOf (HC1.out _ (HIW.out.below (by repeat (first | exact Below.refl _ _ | refine Below.drew ?_ | refine below_drewN ?_ _ | refine Below.alloc ?_ (by first | exact Nat.le_refl _ | (simp; done) | (simp; omega) | omega) _ | refine Below.setCell ?_ (by first | exact Nat.le_refl _ | (simp; done) | (simp; omega) | omega) _ | refine bExtW ?_ (by first | exact Nat.le_refl _ | (simp; done) | (simp; omega) | omega) | refine Below.trans ?_ (Below.mono (by assumption) (by first | exact Nat.le_refl _ | (simp; done) | (simp; omega) | omega))))))); clear hK K)))); refine wpQuiet_nil ?_; intro E d)
            have HMS7 := Lib.hid (((HMS5.out.put hqM q1).grow ((Below.refl _ _).alloc (Nat.le_refl _) (.cells #[.int .i64 (qx : Int), .int .i64 (qy : Int)] 38))).grow (bExtW (Below.refl _ _) (Nat.le_refl _) (E := E) (d := d)))
            go_wp2
            go_roundw
            case rel => exact ⟨x + 1, by omega, by go_num, by rw [← Nat.add_assoc, HMD.out]; exact HMS7⟩
            case measure => simp [intOf]; omega
          · obtain rfl : x = N := by omega
            have dx : decide ((x : Int) < (x : Int)) = false := by simp
            rw [← Nat.succ_mul] at HMS
            go_wp2
            go_roundw
            case rel => exact ⟨y + 1, by omega, by go_num, HMS⟩
            case measure => simp [intOf]; omega
      · obtain rfl : y = N := by omega
        have dy : decide ((y : Int) < (y : Int)) = false := by simp
        rw [HM.out] at HMS
        have HR2 := rowBelow HRR.out HMS.out.bel HRR.out.lt
        have r0 : wr.cell? ⟨w.heap.size + 1 + 1, 0, none⟩ = some (.int .i64 (0)) := HR2.cell (i := 0) (by omega)
        have r1 : wr.cell? ⟨w.heap.size + 1 + 1, 1, none⟩ = some (.int .i64 (0)) := HR2.cell (i := 1) (by omega)
        have r2 : wr.cell? ⟨w.heap.size + 1 + 1, 2, none⟩ = some (.int .i64 (0)) := HR2.cell (i := 2) (by omega)
        have r3 : wr.cell? ⟨w.heap.size + 1 + 1, 3, none⟩ = some (.slice none 0 0) := HR2.cell (i := 3) (by omega)
        have s0 := HR2.frozen 0
        have s1 := HR2.frozen 1
        have s2 := HR2.frozen 2
        have s3 := HR2.frozen 3
        have lr : LtW (w.heap.size + 1 + 1) wr := HR2.lt
        have o0 : wr.cell? ⟨ob, 0, none⟩ = some (.int .i64 (G : Int)) := HMS.out.o.cell (i := 0) (by omega)
        have o1 : wr.cell? ⟨ob, 1, none⟩ = some (.int .i64 (y : Int)) := HMS.out.o.cell (i := 1) (by omega)
        have o2 : wr.cell? ⟨ob, 2, none⟩ = some (.int .i64 (y : Int)) := HMS.out.o.cell (i := 2) (by omega)
        have o3 : wr.cell? ⟨ob, 3, none⟩ = some (.slice (some ⟨gb, 0, none⟩) M M) := HMS.out.o.cell (i := 3) (by omega)
        have lo : LtW ob wr := HMS.out.o.lt
        have hgr : gb ≠ w.heap.size + 1 + 1 := fun e => by have := HMS.out.lo; have := HRR.out.lt; omega
        have HFIN : Hid (∀ v0 v1 v2 v3, IsInts ((((wr.setCell ⟨w.heap.size + 1 + 1, 0, none⟩ v0).setCell ⟨w.heap.size + 1 + 1, 1, none⟩ v1).setCell ⟨w.heap.size + 1 + 1, 2, none⟩ v2).setCell ⟨w.heap.size + 1 + 1, 3, none⟩ v3) (some ⟨gb, 0, none⟩) M (movdL W H cs G y ⟨t, f, (ox, oy)⟩ M) ∧ Below w.heap.size w ((((wr.setCell ⟨w.heap.size + 1 + 1, 0, none⟩ v0).setCell ⟨w.heap.size + 1 + 1, 1, none⟩ v1).setCell ⟨w.heap.size + 1 + 1, 2, none⟩ v2).setCell ⟨w.heap.size + 1 + 1, 3, none⟩ v3)) := Lib.hid fun v0 v1 v2 v3 => by
          have hc := (((HMS.out.c.setOther (a := ⟨w.heap.size + 1 + 1, 0, none⟩) hgr v0).setOther (a := ⟨w.heap.size + 1 + 1, 1, none⟩) hgr v1).setOther (a := ⟨w.heap.size + 1 + 1, 2, none⟩) hgr v2).setOther (a := ⟨w.heap.size + 1 + 1, 3, none⟩) hgr v3
          refine ⟨⟨HMS.out.ll, fun _ => ⟨gb, 0, rfl, hc.lt, fun j hj => by rw [Nat.zero_add]; exact hc.cell hj⟩⟩, ?_⟩
          have h6 := hbw.trans (HMS.out.bel.mono hsz1)
          exact (((h6.setCell (p := ⟨w.heap.size + 1 + 1, 0, none⟩) (by simp only; omega) v0).setCell (p := ⟨w.heap.size + 1 + 1, 1, none⟩) (by simp only; omega) v1).setCell (p := ⟨w.heap.size + 1 + 1, 2, none⟩) (by simp only; omega) v2).setCell (p := ⟨w.heap.size + 1 + 1, 3, none⟩) (by simp only; omega) v3
        clear HMS HR2 HTO HTB HC HPB HON HZ0
        go_wp2
        refine bodyPost_ret (v := .tuple #[.agg #[.int .i64 (G), .int .i64 (y), .int .i64 (y), .slice (some ⟨gb, 0, none⟩) M M], .int .i64 (0)]) (by simp [results, Try.results46, go_sem, r0, r1, r2, r3, lr]) rfl ⟨⟨_, _, rfl, (HFIN.out _ _ _ _).1⟩, (HFIN.out _ _ _ _).2⟩
end Go.Proofs.Ytdaacjaibfcacaa
