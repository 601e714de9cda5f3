/- Lemmas and contracts of functions (what each call returns, and that it changes nothing that was there) that the proof of a law of this seat uses; each lemma states its own conditions. -/
import Derived.Test.YtdaacjaibfcacaaB48
namespace Go.Proofs.Ytdaacjaibfcacaa
open Go.RowKit
set_option linter.unusedVariables false
set_option linter.unusedSimpArgs false
open Z (torN place pnt Mv To lin okT nrm keepB colP idm md redM movdL both inv movd)
set_option maxRecDepth 100000 in
set_option maxHeartbeats 8000000 in
theorem gmoved_ok (G W H n N t M : Nat) (f : Bool) (ox oy : Int) (a : Option Addr) (c : Nat) (cs : List Int) (w : World) (hI : IsInts w a n cs) (h : ChOk G W H n cs) (hN : torN W H = N) (h24 : N ≤ 24) (h0 : 0 < N) (hM : N * N = M) (hx : (-9223372036854775808 ≤ ox ∧ ox ≤ 9223372036854775807)) (hy : (-9223372036854775808 ≤ oy ∧ oy ≤ 9223372036854775807)) (hok : OkM (G : Int) ⟨t, f, (ox, oy)⟩) (hoi : OkM (G : Int) (inv G ⟨t, f, (ox, oy)⟩)) (hin0 : inV G t f ox oy = .tuple #[mvV (inv G ⟨t, f, (ox, oy)⟩), .int .i64 (0)]) :
    Calls Try.prog 11 #[.agg #[.int .i64 (G), .int .i64 (W), .int .i64 (H), .slice a n c], .agg #[.int .i64 (t), .bool (f), .int .i64 (ox), .int .i64 (oy)]] w fun r w' => r = .returned (.bool true) ∧ Below w.heap.size w w' := by
  have hg : (G : Int) = 4 ∨ (G : Int) = 6 := hok.gr
  have he := hok.w
  simp only at he
  have htG : t < (G : Int).toNat := hok.t
  have hM6 : M ≤ 576 := by rw [← hM]; exact Nat.mul_le_mul h24 h24
  have hchD := h.moved h24 h0 hM ⟨t, f, (ox, oy)⟩
  have hback := moved_back h hN h24 h0 hM (m := ⟨t, f, (ox, oy)⟩) htG
  have hlen := moved_len h hN h24 h0 hM (m := ⟨t, f, (ox, oy)⟩) htG
  have HKP : Hid (∀ k, k ∈ Z.movesL W H cs G N → keepB N N (movdL W H cs G N ⟨t, f, (ox, oy)⟩ M) G N (both G (both G ⟨t, f, (ox, oy)⟩ k) (inv G ⟨t, f, (ox, oy)⟩)) = true) := Lib.hid fun k hk => moved_keep h hN h24 h0 hM htG hk
  have HM := Lib.hid (fun w hI => Moved_ok G W H n N t M f ox oy a c cs w hI h hN h24 h0 hM hx hy he)
  have HIN := Lib.hid (fun w => Inverse_any G t ox oy f w (by omega) (by omega) hx hy)
  have HAT := Lib.hid (fun (x y : Int) w hI hx hy => At_ok G W H n a c cs x y w hI h.g h.w1 h.w2 h.h1 h.h2 h.hn h.cr hx hy)
  have HMV := Lib.hid (fun w hI => Moves_ok G W H n N a c cs w hI h hN h24 h0)
  have HLL := (moves_facts h hN h24 h0).2.2
  have hl0 : 0 < (Z.movesL W H cs G N).length := by
    have h1 := HLL.1
    cases hc : Z.movesL W H cs G N with
    | nil => rw [hc] at h1; simp at h1
    | cons x l => simp
  have hl1 := HLL.2
  have HOKL : Hid (∀ k, k ∈ Z.movesL W H cs G N → okT (G : Int) k ∧ 0 ≤ k.o.1 ∧ k.o.1 < N ∧ 0 ≤ k.o.2 ∧ k.o.2 < N) := Lib.hid fun k hk => ⟨(moves_facts h hN h24 h0).1.ok hk, (moves_facts h hN h24 h0).1.bd hk⟩
  have HCO := Lib.hid (fun th hx' hy' fh w => Compose_any G t ox oy th hx' hy' f fh w)
  have hsm : smB ox oy = true := hok.s
  obtain ⟨t2, f2, x2, y2, hgi⟩ := mvV_ex (inv G ⟨t, f, (ox, oy)⟩)
  rw [hgi] at hoi hin0 HKP hback
  have he2 := hoi.w
  simp only at he2
  have ht2 : t2 < (G : Int).toNat := hoi.t
  have hs2 := smB_true hoi.s
  simp only at hs2
  generalize movdL W H cs G N ⟨t, f, (ox, oy)⟩ M = D at *
  have HM2 := Lib.hid (fun A C w hI => Moved_ok G N N M N t2 M f2 x2 y2 A C D w hI hchD (Z.torN_self h0) h24 h0 hM (by omega) (by omega) he2)
  have hchB := hchD.moved h24 h0 hM ⟨t2, f2, (x2, y2)⟩
  generalize movdL N N D G N ⟨t2, f2, (x2, y2)⟩ M = B at *
  have HMV2 := Lib.hid (fun A C w hI => Moves_ok G N N M N A C D w hI hchD (Z.torN_self h0) h24 h0)
  have HATB := Lib.hid (fun A C (x y : Int) w hI hx hy => At_ok G N N M A C B x y w hI hchB.g hchB.w1 hchB.w2 hchB.h1 hchB.h2 hchB.hn hchB.cr hx hy)
  have HKK := Lib.hid (fun A C t' f' x' y' w hI hx hy he => Keeps_ok G N N M N t' f' x' y' A C D w hI hchD (Z.torN_self h0) h24 h0 hx hy he)
  have HBACK := Lib.hid hback
  have HC2 := Lib.hid (fun tf fx fy ff w => Compose_any G tf fx fy t2 x2 y2 ff f2 w)
  rw [hin0] at HIN
  generalize Z.movesL W H cs G N = L at *
  generalize Z.movesL N N D G N = L2 at *
  unfold MdPost at HM HM2
  unfold MvPost at HMV HMV2
  have q0 : ((L.length : Int) == 0) = false := by rw [beq_eq_false_iff_ne]; omega
  have HI := Lib.hid hI
  clear hI hN h he hM hchD hchB hback hoi hok hin0 hgi HLL he2 hsm
  go_enter Try.func11, Try.ntmps11
  (go_wp2_with fail; refine (alive3_any _).mono ?_; rintro r w1 ⟨rfl, hb⟩; obtain ⟨E, d, rfl⟩ := bExt hb; clear hb)
  go_wp2_with fail
  refine (HM.out _ (HI.out.below (by repeat (first | exact Below.refl _ _ | refine Below.drew ?_ | refine below_drewN ?_ _ | refine Below.alloc ?_ (by first | exact Nat.le_refl _ | (simp; done) | (simp; omega) | omega) _ | refine Below.setCell ?_ (by first | exact Nat.le_refl _ | (simp; done) | (simp; omega) | omega) _ | refine bExtW ?_ (by first | exact Nat.le_refl _ | (simp; done) | (simp; omega) | omega) | refine Below.trans ?_ (Below.mono (by assumption) (by first | exact Nat.le_refl _ | (simp; done) | (simp; omega) | omega)))))).mono ?_
  rintro r w2 ⟨⟨A, C, rfl, hA⟩, hb2⟩
  have bx0 : w2.cell? ⟨w.heap.size, 0, none⟩ = some (.int .i64 (G)) := bCs hb2 (by simp [go_sem])
  have bx1 : w2.cell? ⟨w.heap.size, 1, none⟩ = some (.int .i64 (W)) := bCs hb2 (by simp [go_sem])
  have bx2 : w2.cell? ⟨w.heap.size, 2, none⟩ = some (.int .i64 (H)) := bCs hb2 (by simp [go_sem])
  have bx3 : w2.cell? ⟨w.heap.size, 3, none⟩ = some (.slice a n c) := bCs hb2 (by simp [go_sem])
  have fx0 : w2.cell? ⟨w.heap.size + 1, 0, none⟩ = some (.int .i64 (t)) := bCs hb2 (by simp [go_sem])
  have fx1 : w2.cell? ⟨w.heap.size + 1, 1, none⟩ = some (.bool f) := bCs hb2 (by simp [go_sem])
  have fx2 : w2.cell? ⟨w.heap.size + 1, 2, none⟩ = some (.int .i64 (ox)) := bCs hb2 (by simp [go_sem])
  have fx3 : w2.cell? ⟨w.heap.size + 1, 3, none⟩ = some (.int .i64 (oy)) := bCs hb2 (by simp [go_sem])
  have lbx : LtW w.heap.size w2 := World.block_lt_of_cell? _ _ bx0
  have lfx : LtW (w.heap.size + 1) w2 := World.block_lt_of_cell? _ _ fx0
  have hbw2 : Below w.heap.size w w2 := (by repeat (first | exact Below.refl _ _ | refine Below.drew ?_ | refine below_drewN ?_ _ | refine Below.alloc ?_ (by first | exact Nat.le_refl _ | (simp; done) | (simp; omega) | omega) _ | refine Below.setCell ?_ (by first | exact Nat.le_refl _ | (simp; done) | (simp; omega) | omega) _ | refine bExtW ?_ (by first | exact Nat.le_refl _ | (simp; done) | (simp; omega) | omega) | refine Below.trans ?_ (Below.mono (by assumption) (by first | exact Nat.le_refl _ | (simp; done) | (simp; omega) | omega))))
  have HA := Lib.hid hA
  clear hA hb2 HM
  go_wp2_with fail
  refine (HIN.out _).mono ?_
  rintro r w4 ⟨rfl, hb4⟩
  have hb24 : Below w2.heap.size w2 w4 := (by repeat (first | exact Below.refl _ _ | refine Below.drew ?_ | refine below_drewN ?_ _ | refine Below.alloc ?_ (by first | exact Nat.le_refl _ | (simp; done) | (simp; omega) | omega) _ | refine Below.setCell ?_ (by first | exact Nat.le_refl _ | (simp; done) | (simp; omega) | omega) _ | refine bExtW ?_ (by first | exact Nat.le_refl _ | (simp; done) | (simp; omega) | omega) | refine Below.trans ?_ (Below.mono (by assumption) (by first | exact Nat.le_refl _ | (simp; done) | (simp; omega) | omega))))
  have dx0 : w4.cell? ⟨w2.heap.size, 0, none⟩ = some (.int .i64 (G)) := bCs hb4 (by simp [go_sem])
  have dx1 : w4.cell? ⟨w2.heap.size, 1, none⟩ = some (.int .i64 (N)) := bCs hb4 (by simp [go_sem])
  have dx2 : w4.cell? ⟨w2.heap.size, 2, none⟩ = some (.int .i64 (N)) := bCs hb4 (by simp [go_sem])
  have dx3 : w4.cell? ⟨w2.heap.size, 3, none⟩ = some (.slice A M C) := bCs hb4 (by simp [go_sem])
  have ldx : LtW w2.heap.size w4 := World.block_lt_of_cell? _ _ dx0
  have hbw4 : Below w.heap.size w w4 := hbw2.trans (hb24.mono hbw2.size)
  clear hb4 HIN
  simp only [mvV]
  go_wp2_with fail
  refine (HM2.out _ _ _ ((HA.out.below hb24).below (by repeat (first | exact Below.refl _ _ | refine Below.drew ?_ | refine below_drewN ?_ _ | refine Below.alloc ?_ (by first | exact Nat.le_refl _ | (simp; done) | (simp; omega) | omega) _ | refine Below.setCell ?_ (by first | exact Nat.le_refl _ | (simp; done) | (simp; omega) | omega) _ | refine bExtW ?_ (by first | exact Nat.le_refl _ | (simp; done) | (simp; omega) | omega) | refine Below.trans ?_ (Below.mono (by assumption) (by first | exact Nat.le_refl _ | (simp; done) | (simp; omega) | omega)))))).mono ?_
  rintro r w5 ⟨⟨A3, C3, rfl, hA3⟩, hb5⟩
  have hb45 : Below w4.heap.size w4 w5 := (by repeat (first | exact Below.refl _ _ | refine Below.drew ?_ | refine below_drewN ?_ _ | refine Below.alloc ?_ (by first | exact Nat.le_refl _ | (simp; done) | (simp; omega) | omega) _ | refine Below.setCell ?_ (by first | exact Nat.le_refl _ | (simp; done) | (simp; omega) | omega) _ | refine bExtW ?_ (by first | exact Nat.le_refl _ | (simp; done) | (simp; omega) | omega) | refine Below.trans ?_ (Below.mono (by assumption) (by first | exact Nat.le_refl _ | (simp; done) | (simp; omega) | omega))))
  have hb25 : Below w2.heap.size w2 w5 := hb24.trans (hb45.mono hb24.size)
  have gx0 : w5.cell? ⟨w4.heap.size, 0, none⟩ = some (.int .i64 (t2)) := bCs hb5 (by simp [go_sem])
  have gx1 : w5.cell? ⟨w4.heap.size, 1, none⟩ = some (.bool f2) := bCs hb5 (by simp [go_sem])
  have gx2 : w5.cell? ⟨w4.heap.size, 2, none⟩ = some (.int .i64 (x2)) := bCs hb5 (by simp [go_sem])
  have gx3 : w5.cell? ⟨w4.heap.size, 3, none⟩ = some (.int .i64 (y2)) := bCs hb5 (by simp [go_sem])
  have HB0 := Lib.hid (bCs hb25 bx0); have HB1 := Lib.hid (bCs hb25 bx1); have HB2 := Lib.hid (bCs hb25 bx2); have HB3 := Lib.hid (bCs hb25 bx3)
  have HF0 := Lib.hid (bCs hb25 fx0); have HF1 := Lib.hid (bCs hb25 fx1); have HF2 := Lib.hid (bCs hb25 fx2); have HF3 := Lib.hid (bCs hb25 fx3)
  have HD0 := Lib.hid (bCs hb45 dx0); have HD1 := Lib.hid (bCs hb45 dx1); have HD2 := Lib.hid (bCs hb45 dx2); have HD3 := Lib.hid (bCs hb45 dx3)
  have HG0 := Lib.hid gx0; have HG1 := Lib.hid gx1; have HG2 := Lib.hid gx2; have HG3 := Lib.hid gx3
  have HA5 := Lib.hid (HA.out.below hb25)
  have hbw5 : Below w.heap.size w w5 := hbw2.trans (hb25.mono hbw2.size)
  have HI5 := Lib.hid (HI.out.below hbw5)
  have HA3 := Lib.hid hA3
  have HBW5 := Lib.hid hbw5
  clear bx0 bx1 bx2 bx3 fx0 fx1 fx2 fx3 lbx lfx dx0 dx1 dx2 dx3 ldx gx0 gx1 gx2 gx3 hb5 hb45 hb25 hb24 hbw2 hbw4 hbw5 hA3 HM2 HA HI
  go_wp2_with fail
  obtain ⟨w6, hw6⟩ : ∃ w6, w6 = w5.alloc (.cells #[.int .i64 (G), .int .i64 (N), .int .i64 (N), .slice A3 M C3] 36) := ⟨_, rfl⟩
  rw [← hw6]
  have hb56 : Below w5.heap.size w5 w6 := by rw [hw6]; exact (by repeat (first | exact Below.refl _ _ | refine Below.drew ?_ | refine below_drewN ?_ _ | refine Below.alloc ?_ (by first | exact Nat.le_refl _ | (simp; done) | (simp; omega) | omega) _ | refine Below.setCell ?_ (by first | exact Nat.le_refl _ | (simp; done) | (simp; omega) | omega) _ | refine bExtW ?_ (by first | exact Nat.le_refl _ | (simp; done) | (simp; omega) | omega) | refine Below.trans ?_ (Below.mono (by assumption) (by first | exact Nat.le_refl _ | (simp; done) | (simp; omega) | omega))))
  have kx0 : w6.cell? ⟨w5.heap.size, 0, none⟩ = some (.int .i64 (G)) := by rw [hw6]; simp [go_sem]
  have kx1 : w6.cell? ⟨w5.heap.size, 1, none⟩ = some (.int .i64 (N)) := by rw [hw6]; simp [go_sem]
  have kx2 : w6.cell? ⟨w5.heap.size, 2, none⟩ = some (.int .i64 (N)) := by rw [hw6]; simp [go_sem]
  have kx3 : w6.cell? ⟨w5.heap.size, 3, none⟩ = some (.slice A3 M C3) := by rw [hw6]; simp [go_sem]
  have lkx : LtW w5.heap.size w6 := World.block_lt_of_cell? _ _ kx0
  have bx0 := bCs hb56 HB0.out
  have bx1 := bCs hb56 HB1.out
  have bx2 := bCs hb56 HB2.out
  have bx3 := bCs hb56 HB3.out
  have lbx : LtW w.heap.size w6 := World.block_lt_of_cell? _ _ bx0
  have HI6 := Lib.hid (HI5.out.below hb56)
  have HA6 := Lib.hid (HA3.out.below hb56)
  have HB56 := Lib.hid hb56
  clear hw6 hb56
  go_loopw [9] (fun yv wr => ∃ (y : Nat) (E : Array Obj) (d : Nat), y ≤ N ∧ yv = .int .i64 y ∧ wr = extW w6 E d) (fun yv _ => N - (intOf yv).toNat)
  case atStart => exact ⟨0, #[], _, by omega, rfl, extW_zero _⟩
  case round =>
    obtain ⟨y, E1, d1, hy1, rfl, rfl⟩ := hrel
    by_cases hym : y < N
    · have vy : IntKind.i64.wrap ((y : Int) + 1) = (y : Int) + 1 := IntWalk.i64_in _ (by omega)
      have dy : decide ((y : Int) < (N : Int)) = true := by simpa using hym
      go_wp2_with fail
      go_loopw [10] (fun xv wr => ∃ (x : Nat) (E : Array Obj) (d : Nat), x ≤ N ∧ xv = .int .i64 x ∧ wr = extW w6 E d) (fun xv _ => N - (intOf xv).toNat)
      case atStart => exact ⟨0, E1, d1, by omega, rfl, rfl⟩
      case round =>
        obtain ⟨x, E2, d2, hx1, rfl, rfl⟩ := hrel
        by_cases hxm : x < N
        · have vx : IntKind.i64.wrap ((x : Int) + 1) = (x : Int) + 1 := IntWalk.i64_in _ (by omega)
          have dx : decide ((x : Int) < (N : Int)) = true := by simpa using hxm
          have HC1 := Lib.hid (fun w hI => HAT.out (x : Int) (y : Int) w hI (by omega) (by omega))
          have HC3 := Lib.hid (fun w hI => HATB.out A3 C3 (x : Int) (y : Int) w hI (by omega) (by omega))
          have e1 : cellAt N N B (x : Int) (y : Int) = cellAt W H cs (x : Int) (y : Int) := congrFun HBACK.out ((x : Int), (y : Int))
          rw [e1] at HC3
          generalize cellAt W H cs (x : Int) (y : Int) = X at *
          have qx : (X != X) = false := by simp
          clear e1
          (go_wp2_with fail; refine (HC3.out _ (HA6.out.below (by repeat (first | exact Below.refl _ _ | refine Below.drew ?_ | refine below_drewN ?_ _ | refine Below.alloc ?_ (by first | exact Nat.le_refl _ | (simp; done) | (simp; omega) | omega) _ | refine Below.setCell ?_ (by first | exact Nat.le_refl _ | (simp; done) | (simp; omega) | omega) _ | refine bExtW ?_ (by first | exact Nat.le_refl _ | (simp; done) | (simp; omega) | omega) | refine Below.trans ?_ (Below.mono (by assumption) (by first | exact Nat.le_refl _ | (simp; done) | (simp; omega) | omega)))))).mono ?_; rintro r w1 ⟨rfl, hb⟩; obtain ⟨E, d, rfl⟩ := bExt hb; clear hb)
          (go_wp2_with fail; refine (HC1.out _ (HI6.out.below (by repeat (first | exact Below.refl _ _ | refine Below.drew ?_ | refine below_drewN ?_ _ | refine Below.alloc ?_ (by first | exact Nat.le_refl _ | (simp; done) | (simp; omega) | omega) _ | refine Below.setCell ?_ (by first | exact Nat.le_refl _ | (simp; done) | (simp; omega) | omega) _ | refine bExtW ?_ (by first | exact Nat.le_refl _ | (simp; done) | (simp; omega) | omega) | refine Below.trans ?_ (Below.mono (by assumption) (by first | exact Nat.le_refl _ | (simp; done) | (simp; omega) | omega)))))).mono ?_; rintro r w1 ⟨rfl, hb⟩; obtain ⟨E, d, rfl⟩ := bExt hb; clear hb)
          go_wp2
          go_roundw
          case rel => exact ⟨x + 1, _, _, by omega, by go_num, by simp only [extW_extW]; rfl⟩
          case measure => simp [intOf]; omega
        · obtain rfl : x = N := by omega
          have dx : decide ((x : Int) < (x : Int)) = false := by simp
          go_wp2
          go_roundw
          case rel => exact ⟨y + 1, _, _, by omega, by go_num, rfl⟩
          case measure => simp [intOf]; omega
    · obtain rfl : y = N := by omega
      have dy : decide ((y : Int) < (y : Int)) = false := by simp
      clear HAT HATB HBACK HA6
      go_wp2_with fail
      refine (HMV.out _ (HI6.out.below (by repeat (first | exact Below.refl _ _ | refine Below.drew ?_ | refine below_drewN ?_ _ | refine Below.alloc ?_ (by first | exact Nat.le_refl _ | (simp; done) | (simp; omega) | omega) _ | refine Below.setCell ?_ (by first | exact Nat.le_refl _ | (simp; done) | (simp; omega) | omega) _ | refine bExtW ?_ (by first | exact Nat.le_refl _ | (simp; done) | (simp; omega) | omega) | refine Below.trans ?_ (Below.mono (by assumption) (by first | exact Nat.le_refl _ | (simp; done) | (simp; omega) | omega)))))).mono ?_
      rintro r w7 ⟨⟨A7, C7, rfl, hM7⟩, hb7⟩
      have hb67 : Below w6.heap.size w6 w7 := (by repeat (first | exact Below.refl _ _ | refine Below.drew ?_ | refine below_drewN ?_ _ | refine Below.alloc ?_ (by first | exact Nat.le_refl _ | (simp; done) | (simp; omega) | omega) _ | refine Below.setCell ?_ (by first | exact Nat.le_refl _ | (simp; done) | (simp; omega) | omega) _ | refine bExtW ?_ (by first | exact Nat.le_refl _ | (simp; done) | (simp; omega) | omega) | refine Below.trans ?_ (Below.mono (by assumption) (by first | exact Nat.le_refl _ | (simp; done) | (simp; omega) | omega))))
      have hb57 : Below w5.heap.size w5 w7 := HB56.out.trans (hb67.mono HB56.out.size)
      have dx0 := bCs hb57 HD0.out
      have dx1 := bCs hb57 HD1.out
      have dx2 := bCs hb57 HD2.out
      have dx3 := bCs hb57 HD3.out
      have ldx : LtW w2.heap.size w7 := World.block_lt_of_cell? _ _ dx0
      have HM7 := Lib.hid hM7.moves
      have HA7 := Lib.hid (HA5.out.below hb57)
      clear hM7 hb7 hb67 bx0 bx1 bx2 bx3 lbx kx0 kx1 kx2 kx3 lkx HI6 HMV
      go_wp2_with fail
      refine (HMV2.out _ _ _ HA7.out).mono ?_
      rintro r w8 ⟨⟨A8, C8, rfl, hM8⟩, hb8⟩
      rw [hlen]
      have hb58 : Below w5.heap.size w5 w8 := hb57.trans (hb8.mono hb57.size)
      have HB58 := Lib.hid hb58
      have HM8 := Lib.hid (HM7.out.below hb8)
      have HL0 := Lib.hid hl0
      have q4 : ((L.length : Int) != (L.length : Int)) = false := by simp
      clear hb57 hM8 hb8 hb58 dx0 dx1 dx2 dx3 ldx HM7 HA7 HMV2 hl0
      go_wp2_with fail
      go_loopw [119] (fun iv wr => ∃ (j : Nat), j ≤ L.length ∧ iv = .int .i64 j ∧ Hid (Below w8.heap.size w8 wr)) (fun iv _ => L.length - (intOf iv).toNat)
      case atStart => exact ⟨0, by omega, rfl, Lib.hid (Below.refl _ _)⟩
      case round =>
        obtain ⟨j, hj, rfl, HW⟩ := hrel
        by_cases hjl : j < L.length
        · have vj : IntKind.i64.wrap ((j : Int) + 1) = (j : Int) + 1 := IntWalk.i64_in _ (by omega)
          have dj : decide ((j : Int) < (L.length : Int)) = true := by simpa using hjl
          obtain ⟨mb, mo, rfl, hmb, hmc⟩ := HM8.out.2 HL0.out
          obtain ⟨c0, c1, c2, c3⟩ := hmc j hjl
          replace c0 := bCs HW.out c0
          replace c1 := bCs HW.out c1
          replace c2 := bCs HW.out c2
          replace c3 := bCs HW.out c3
          have lmb : LtW mb wr := World.block_lt_of_cell? _ _ c0
          have hmem : L.getD j idm ∈ L := by rw [List.getD_eq_getElem?_getD, List.getElem?_eq_getElem hjl]; exact List.getElem_mem hjl
          have hmk := HOKL.out _ hmem
          have HK1 := Lib.hid (HKP.out _ hmem)
          obtain ⟨mt, mf, mx, my, hm⟩ := mvV_ex (L.getD j idm)
          rw [hm] at c0 c1 c2 c3 hmk HK1
          simp only at c0 c1 c2 c3 hmk
          have hmt : mt < (G : Int).toNat := hmk.1
          have HC1 := Lib.hid (fun w => HCO.out mt mx my mf w (by omega) (by omega) hx hy (by omega) (by omega) (by omega))
          have hbr := HB58.out.trans (HW.out.mono HB58.out.size)
          have bx0 := bCs (hbr) HB0.out
          have fx0 := bCs (hbr) HF0.out
          have fx1 := bCs (hbr) HF1.out
          have fx2 := bCs (hbr) HF2.out
          have fx3 := bCs (hbr) HF3.out
          have dx0 := bCs (hbr) HD0.out
          have dx1 := bCs (hbr) HD1.out
          have dx2 := bCs (hbr) HD2.out
          have dx3 := bCs (hbr) HD3.out
          have gx0 := bCs (hbr) HG0.out
          have gx1 := bCs (hbr) HG1.out
          have gx2 := bCs (hbr) HG2.out
          have gx3 := bCs (hbr) HG3.out
          have lbx : LtW w.heap.size wr := World.block_lt_of_cell? _ _ bx0
          have lfx : LtW (w.heap.size + 1) wr := World.block_lt_of_cell? _ _ fx0
          have ldx : LtW w2.heap.size wr := World.block_lt_of_cell? _ _ dx0
          have lgx : LtW w4.heap.size wr := World.block_lt_of_cell? _ _ gx0
          clear hmem hm hmb hmc hbr
          rcases coV_cases G t f ox oy mt mf mx my with ⟨e, hne, hv⟩ | ⟨n1, m1, hn1, hm1, ok1, ok2, ok12, hv⟩
          · rw [hv] at HC1
            have hb : (e != 0) = true := by simpa using hne
            clear hv hne
            go_wp2_with fail
            refine (HC1.out _).mono ?_
            rintro r wa ⟨rfl, hba⟩
            have hra : Below wr.heap.size wr wa := (by repeat (first | exact Below.refl _ _ | refine Below.drew ?_ | refine below_drewN ?_ _ | refine Below.alloc ?_ (by first | exact Nat.le_refl _ | (simp; done) | (simp; omega) | omega) _ | refine Below.setCell ?_ (by first | exact Nat.le_refl _ | (simp; done) | (simp; omega) | omega) _ | refine bExtW ?_ (by first | exact Nat.le_refl _ | (simp; done) | (simp; omega) | omega) | refine Below.trans ?_ (Below.mono (by assumption) (by first | exact Nat.le_refl _ | (simp; done) | (simp; omega) | omega))))
            have HRA := Lib.hid (HW.out.trans (hra.mono HW.out.size))
            clear hba hra
            clear bx0 fx0 fx1 fx2 fx3 dx0 dx1 dx2 dx3 gx0 gx1 gx2 gx3 lbx lfx ldx lgx
            clear c0 c1 c2 c3 lmb
            go_wp2
            go_roundw
            case rel => exact ⟨j + 1, by omega, by go_num, Lib.hid (HRA.out.trans (Below.mono (by repeat (first | exact Below.refl _ _ | refine Below.drew ?_ | refine below_drewN ?_ _ | refine Below.alloc ?_ (by first | exact Nat.le_refl _ | (simp; done) | (simp; omega) | omega) _ | refine Below.setCell ?_ (by first | exact Nat.le_refl _ | (simp; done) | (simp; omega) | omega) _ | refine bExtW ?_ (by first | exact Nat.le_refl _ | (simp; done) | (simp; omega) | omega) | refine Below.trans ?_ (Below.mono (by assumption) (by first | exact Nat.le_refl _ | (simp; done) | (simp; omega) | omega)))) HRA.out.size))⟩
            case measure => simp [intOf]; omega
          · obtain rfl : t = n1 := by omega
            obtain rfl : mt = m1 := by omega
            obtain ⟨t1, f1, x1, y1, hk1⟩ := mvV_ex (both G ⟨t, f, (ox, oy)⟩ ⟨mt, mf, (mx, my)⟩)
            rw [hk1] at hv ok12 HK1
            rw [hv] at HC1
            simp only [mvV] at HC1
            have ht1 : t1 < (G : Int).toNat := ok12.t
            have hs1 := smB_true ok12.s
            simp only at hs1
            clear ok1 ok2 ok12 hv hk1
            go_wp2_with fail
            refine (HC1.out _).mono ?_
            rintro r wa ⟨rfl, hba⟩
            have hra : Below wr.heap.size wr wa := (by repeat (first | exact Below.refl _ _ | refine Below.drew ?_ | refine below_drewN ?_ _ | refine Below.alloc ?_ (by first | exact Nat.le_refl _ | (simp; done) | (simp; omega) | omega) _ | refine Below.setCell ?_ (by first | exact Nat.le_refl _ | (simp; done) | (simp; omega) | omega) _ | refine bExtW ?_ (by first | exact Nat.le_refl _ | (simp; done) | (simp; omega) | omega) | refine Below.trans ?_ (Below.mono (by assumption) (by first | exact Nat.le_refl _ | (simp; done) | (simp; omega) | omega))))
            have HRA := Lib.hid (HW.out.trans (hra.mono HW.out.size))
            have HRB := Lib.hid (HB58.out.trans (HRA.out.mono HB58.out.size))
            have HC3 := Lib.hid (fun w => HC2.out t1 x1 y1 f1 w (by omega) (by omega) (by omega) (by omega) (by omega) (by omega) (by omega))
            clear hba hra
            clear bx0 fx0 fx1 fx2 fx3 dx0 dx1 dx2 dx3 gx0 gx1 gx2 gx3 lbx lfx ldx lgx
            clear c0 c1 c2 c3 lmb HC1 HW
            have bx0 := bCs (HRB.out) HB0.out
            have fx0 := bCs (HRB.out) HF0.out
            have fx1 := bCs (HRB.out) HF1.out
            have fx2 := bCs (HRB.out) HF2.out
            have fx3 := bCs (HRB.out) HF3.out
            have dx0 := bCs (HRB.out) HD0.out
            have dx1 := bCs (HRB.out) HD1.out
            have dx2 := bCs (HRB.out) HD2.out
            have dx3 := bCs (HRB.out) HD3.out
            have gx0 := bCs (HRB.out) HG0.out
            have gx1 := bCs (HRB.out) HG1.out
            have gx2 := bCs (HRB.out) HG2.out
            have gx3 := bCs (HRB.out) HG3.out
            have lbx : LtW w.heap.size wa := World.block_lt_of_cell? _ _ bx0
            have lfx : LtW (w.heap.size + 1) wa := World.block_lt_of_cell? _ _ fx0
            have ldx : LtW w2.heap.size wa := World.block_lt_of_cell? _ _ dx0
            have lgx : LtW w4.heap.size wa := World.block_lt_of_cell? _ _ gx0
            rcases coV_cases G t1 f1 x1 y1 t2 f2 x2 y2 with ⟨e, hne, hv⟩ | ⟨n1, m1, hn1, hm1, ok1, ok2, ok12, hv⟩
            · rw [hv] at HC3
              have hb : (e != 0) = true := by simpa using hne
              clear hv hne
              go_wp2_with fail
              refine (HC3.out _).mono ?_
              rintro r wb ⟨rfl, hbb⟩
              have hk := rowBelow (mvG_alloc wa t1 f1 x1 y1) hbb (mvG_alloc wa t1 f1 x1 y1).lt
              have kx0 : wb.cell? ⟨wa.heap.size, 0, none⟩ = some (.int .i64 t1) := hk.cell (i := 0) (by omega)
              have kx1 : wb.cell? ⟨wa.heap.size, 1, none⟩ = some (.bool f1) := hk.cell (i := 1) (by omega)
              have kx2 : wb.cell? ⟨wa.heap.size, 2, none⟩ = some (.int .i64 x1) := hk.cell (i := 2) (by omega)
              have kx3 : wb.cell? ⟨wa.heap.size, 3, none⟩ = some (.int .i64 y1) := hk.cell (i := 3) (by omega)
              have s0 := hk.frozen 0
              have s1 := hk.frozen 1
              have s2 := hk.frozen 2
              have s3 := hk.frozen 3
              have lk : LtW wa.heap.size wb := hk.lt
              have hab : Below wa.heap.size wa wb := (by repeat (first | exact Below.refl _ _ | refine Below.drew ?_ | refine below_drewN ?_ _ | refine Below.alloc ?_ (by first | exact Nat.le_refl _ | (simp; done) | (simp; omega) | omega) _ | refine Below.setCell ?_ (by first | exact Nat.le_refl _ | (simp; done) | (simp; omega) | omega) _ | refine bExtW ?_ (by first | exact Nat.le_refl _ | (simp; done) | (simp; omega) | omega) | refine Below.trans ?_ (Below.mono (by assumption) (by first | exact Nat.le_refl _ | (simp; done) | (simp; omega) | omega))))
              clear hk hbb
              clear bx0 fx0 fx1 fx2 fx3 dx0 dx1 dx2 dx3 gx0 gx1 gx2 gx3 lbx lfx ldx lgx
              go_wp2
              go_roundw
              case rel => exact ⟨j + 1, by omega, by go_num, Lib.hid (HRA.out.trans (Below.mono (by repeat (first | exact Below.refl _ _ | refine Below.drew ?_ | refine below_drewN ?_ _ | refine Below.alloc ?_ (by first | exact Nat.le_refl _ | (simp; done) | (simp; omega) | omega) _ | refine Below.setCell ?_ (by first | exact Nat.le_refl _ | (simp; done) | (simp; omega) | omega) _ | refine bExtW ?_ (by first | exact Nat.le_refl _ | (simp; done) | (simp; omega) | omega) | refine Below.trans ?_ (Below.mono (by assumption) (by first | exact Nat.le_refl _ | (simp; done) | (simp; omega) | omega)))) HRA.out.size))⟩
              case measure => simp [intOf]; omega
            · obtain rfl : t1 = n1 := by omega
              obtain rfl : t2 = m1 := by omega
              obtain ⟨t3, f3, x3, y3, hk3⟩ := mvV_ex (both G ⟨t1, f1, (x1, y1)⟩ ⟨t2, f2, (x2, y2)⟩)
              rw [hk3] at hv ok12 HK1
              rw [hv] at HC3
              simp only [mvV] at HC3
              have he3 := ok12.w
              have hs3 := smB_true ok12.s
              simp only at he3 hs3
              have HKQ := Lib.hid (fun w hI => HKK.out A C t3 f3 x3 y3 w hI (by omega) (by omega) he3)
              rw [HK1.out] at HKQ
              clear ok1 ok2 ok12 hv hk3 he3
              go_wp2_with fail
              refine (HC3.out _).mono ?_
              rintro r wb ⟨rfl, hbb⟩
              have hk := rowBelow (mvG_alloc wa t1 f1 x1 y1) hbb (mvG_alloc wa t1 f1 x1 y1).lt
              have kx0 : wb.cell? ⟨wa.heap.size, 0, none⟩ = some (.int .i64 t1) := hk.cell (i := 0) (by omega)
              have kx1 : wb.cell? ⟨wa.heap.size, 1, none⟩ = some (.bool f1) := hk.cell (i := 1) (by omega)
              have kx2 : wb.cell? ⟨wa.heap.size, 2, none⟩ = some (.int .i64 x1) := hk.cell (i := 2) (by omega)
              have kx3 : wb.cell? ⟨wa.heap.size, 3, none⟩ = some (.int .i64 y1) := hk.cell (i := 3) (by omega)
              have s0 := hk.frozen 0
              have s1 := hk.frozen 1
              have s2 := hk.frozen 2
              have s3 := hk.frozen 3
              have lk : LtW wa.heap.size wb := hk.lt
              have hab : Below wa.heap.size wa wb := (by repeat (first | exact Below.refl _ _ | refine Below.drew ?_ | refine below_drewN ?_ _ | refine Below.alloc ?_ (by first | exact Nat.le_refl _ | (simp; done) | (simp; omega) | omega) _ | refine Below.setCell ?_ (by first | exact Nat.le_refl _ | (simp; done) | (simp; omega) | omega) _ | refine bExtW ?_ (by first | exact Nat.le_refl _ | (simp; done) | (simp; omega) | omega) | refine Below.trans ?_ (Below.mono (by assumption) (by first | exact Nat.le_refl _ | (simp; done) | (simp; omega) | omega))))
              have hsab : wa.heap.size ≤ wb.heap.size := hab.size
              have ne2 : w2.heap.size ≠ wa.heap.size := fun e => by have h := ldx; unfold LtW at h; omega
              clear hk hbb
              clear bx0 fx0 fx1 fx2 fx3 dx0 dx1 dx2 dx3 gx0 gx1 gx2 gx3 lbx lfx ldx lgx
              have bx0 := bCs (HRB.out.trans (hab.mono HRB.out.size)) HB0.out
              have fx0 := bCs (HRB.out.trans (hab.mono HRB.out.size)) HF0.out
              have fx1 := bCs (HRB.out.trans (hab.mono HRB.out.size)) HF1.out
              have fx2 := bCs (HRB.out.trans (hab.mono HRB.out.size)) HF2.out
              have fx3 := bCs (HRB.out.trans (hab.mono HRB.out.size)) HF3.out
              have dx0 := bCs (HRB.out.trans (hab.mono HRB.out.size)) HD0.out
              have dx1 := bCs (HRB.out.trans (hab.mono HRB.out.size)) HD1.out
              have dx2 := bCs (HRB.out.trans (hab.mono HRB.out.size)) HD2.out
              have dx3 := bCs (HRB.out.trans (hab.mono HRB.out.size)) HD3.out
              have gx0 := bCs (HRB.out.trans (hab.mono HRB.out.size)) HG0.out
              have gx1 := bCs (HRB.out.trans (hab.mono HRB.out.size)) HG1.out
              have gx2 := bCs (HRB.out.trans (hab.mono HRB.out.size)) HG2.out
              have gx3 := bCs (HRB.out.trans (hab.mono HRB.out.size)) HG3.out
              have lbx : LtW w.heap.size wb := World.block_lt_of_cell? _ _ bx0
              have lfx : LtW (w.heap.size + 1) wb := World.block_lt_of_cell? _ _ fx0
              have ldx : LtW w2.heap.size wb := World.block_lt_of_cell? _ _ dx0
              have lgx : LtW w4.heap.size wb := World.block_lt_of_cell? _ _ gx0
              go_wp2_with fail
              refine (HKQ.out _ ((HA5.out.below HRB.out).below (by repeat (first | exact Below.refl _ _ | refine Below.drew ?_ | refine below_drewN ?_ _ | refine Below.alloc ?_ (by first | exact Nat.le_refl _ | (simp; done) | (simp; omega) | omega) _ | refine Below.setCell ?_ (by first | exact Nat.le_refl _ | (simp; done) | (simp; omega) | omega) _ | refine bExtW ?_ (by first | exact Nat.le_refl _ | (simp; done) | (simp; omega) | omega) | refine Below.trans ?_ (Below.mono (by assumption) (by first | exact Nat.le_refl _ | (simp; done) | (simp; omega) | omega)))))).mono ?_
              rintro r wc ⟨rfl, hbc⟩
              obtain ⟨E9, d9, rfl⟩ := bExt hbc
              clear hbc
              go_wp2
              go_roundw
              case rel => exact ⟨j + 1, by omega, by go_num, Lib.hid (HRA.out.trans (Below.mono (by repeat (first | exact Below.refl _ _ | refine Below.drew ?_ | refine below_drewN ?_ _ | refine Below.alloc ?_ (by first | exact Nat.le_refl _ | (simp; done) | (simp; omega) | omega) _ | refine Below.setCell ?_ (by first | exact Nat.le_refl _ | (simp; done) | (simp; omega) | omega) _ | refine bExtW ?_ (by first | exact Nat.le_refl _ | (simp; done) | (simp; omega) | omega) | refine Below.trans ?_ (Below.mono (by assumption) (by first | exact Nat.le_refl _ | (simp; done) | (simp; omega) | omega)))) HRA.out.size))⟩
              case measure => simp [intOf]; omega
        · obtain rfl : j = L.length := by omega
          have dj : decide ((L.length : Int) < (L.length : Int)) = false := by simp
          have HFB := Lib.hid (HBW5.out.trans ((HB58.out.trans (HW.out.mono HB58.out.size)).mono HBW5.out.size))
          go_wp2
          go_ret
          exact ⟨rfl, HFB.out⟩
theorem gmoved_walk (G W H : Int) (a : Option Addr) (n c : Nat) (cs : List Int) (t : Int) (f : Bool) (ox oy : Int) (w : World) (hI : IsInts w a n cs) (h0 : (-9223372036854775808 ≤ G ∧ G ≤ 9223372036854775807)) (h1 : (-9223372036854775808 ≤ W ∧ W ≤ 9223372036854775807)) (h2 : (-9223372036854775808 ≤ H ∧ H ≤ 9223372036854775807)) (h3 : n ≤ 9223372036854775807) (ht : (-9223372036854775808 ≤ t ∧ t ≤ 9223372036854775807)) (hx : (-9223372036854775808 ≤ ox ∧ ox ≤ 9223372036854775807)) (hy : (-9223372036854775808 ≤ oy ∧ oy ≤ 9223372036854775807)) :
    Calls Try.prog 11 #[.agg #[.int .i64 (G), .int .i64 (W), .int .i64 (H), .slice a n c], .agg #[.int .i64 (t), .bool (f), .int .i64 (ox), .int .i64 (oy)]] w fun r w' => r = .returned (.bool true) ∧ Below w.heap.size w w' := by
  rcases chart_cases G W H a n c cs h0 h1 h2 h3 with ⟨e, hT⟩ | ⟨G', W', H', N, rfl, rfl, rfl, h, hN, hp, h24⟩
  · exact gmoved_bad G W H a n c cs t f ox oy w hI e hT.1 (fun w hI => (Moved_bad G W H a n c cs t f ox oy w hI e hT).1)
  · by_cases he : wE G' t ox oy = 0
    · rcases inV_cases G' t f ox oy with ⟨e, hne, hv⟩ | ⟨t', rfl, ok1, ok2, hv⟩
      · obtain ⟨_, _, t', rfl, _⟩ := wE_zero he
        exact gmoved_inv G' W' H' n N t' (N * N) f ox oy a c cs w hI h hN h24 hp rfl hx hy he e hne hv
      · exact gmoved_ok G' W' H' n N t' (N * N) f ox oy a c cs w hI h hN h24 hp rfl hx hy ok1 ok2 hv
    · exact gmoved_bad G' W' H' a n c cs t f ox oy w hI _ he (fun w hI => (Moved_wrong G' W' H' n N a c cs t f ox oy w hI h hN h24 ht hx hy he).1)
end Go.Proofs.Ytdaacjaibfcacaa
