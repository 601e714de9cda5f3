/- Lemmas and contracts of functions (what each call returns, and that it changes nothing that was there) that the proof of a law of this seat uses; each lemma states its own conditions. -/
import Derived.Test.YtdaacjaibfcacaaB33
import Derived.Test.YtdaacjaibfcacaaB34
import Derived.Test.YtdaacjaibfcacaaB35
namespace Go.Proofs.Ytdaacjaibfcacaa
open Go.RowKit
set_option linter.unusedVariables false
set_option linter.unusedSimpArgs false
open Z (torN place pnt Mv To lin okT nrm keepB colP idm md redM both inv stK Sid Upw kdI newK)
set_option maxRecDepth 100000 in
set_option maxHeartbeats 8000000 in
theorem lattice_bad (G W H : Int) (a : Option Addr) (n c : Nat) (cs : List Int) (zx zy : Int) (w : World) (hI : IsInts w a n cs) (e : Int) (hT : TorBad e (.agg #[.int .i64 (G), .int .i64 (W), .int .i64 (H), .slice a n c]) a n cs) :
    Calls Try.prog 7 #[.agg #[.int .i64 (G), .int .i64 (W), .int .i64 (H), .slice a n c], .agg #[.int .i64 (zx), .int .i64 (zy)]] w fun r w' => r = .returned (.bool true) ∧ Below w.heap.size w w' := by
  have hb : (e != 0) = true := by simpa using hT.1
  have HF := Lib.hid (fun w hI => Finest_bad G W H a n c cs w hI e hT)
  have HM := Lib.hid (fun w hI => Moves_bad G W H a n c cs w hI e hT)
  have HT := Lib.hid hT.2.1
  have HI := Lib.hid hI
  unfold MvPost at HM
  clear hI hT
  go_enter Try.func7, Try.ntmps7
  (go_wp2_with fail; refine (alive3_any _).mono ?_; rintro r w1 ⟨rfl, hb⟩; obtain ⟨E, d, rfl⟩ := bExt hb; clear hb)
  go_wp2_with fail
  refine (HF.out _ (HI.out.below (by repeat (first | exact Below.refl _ _ | refine Below.drew ?_ | refine below_drewN ?_ _ | refine Below.alloc ?_ (by first | exact Nat.le_refl _ | (simp; done) | (simp; omega) | omega) _ | refine Below.setCell ?_ (by first | exact Nat.le_refl _ | (simp; done) | (simp; omega) | omega) _ | refine bExtW ?_ (by first | exact Nat.le_refl _ | (simp; done) | (simp; omega) | omega) | refine Below.trans ?_ (Below.mono (by assumption) (by first | exact Nat.le_refl _ | (simp; done) | (simp; omega) | omega)))))).mono ?_
  rintro r w1 ⟨rfl, hb⟩
  obtain ⟨E1, d1, rfl⟩ := bExt hb
  clear hb
  go_wp2_with fail
  refine (HM.out _ (HI.out.below (by repeat (first | exact Below.refl _ _ | refine Below.drew ?_ | refine below_drewN ?_ _ | refine Below.alloc ?_ (by first | exact Nat.le_refl _ | (simp; done) | (simp; omega) | omega) _ | refine Below.setCell ?_ (by first | exact Nat.le_refl _ | (simp; done) | (simp; omega) | omega) _ | refine bExtW ?_ (by first | exact Nat.le_refl _ | (simp; done) | (simp; omega) | omega) | refine Below.trans ?_ (Below.mono (by assumption) (by first | exact Nat.le_refl _ | (simp; done) | (simp; omega) | omega)))))).mono ?_
  rintro r w2 ⟨⟨A, C, rfl, hM⟩, hb2⟩
  obtain ⟨E2, d2, rfl⟩ := bExt hb2
  clear hM hb2
  (go_wp2_with fail; refine (HT.out _ (HI.out.below (by repeat (first | exact Below.refl _ _ | refine Below.drew ?_ | refine below_drewN ?_ _ | refine Below.alloc ?_ (by first | exact Nat.le_refl _ | (simp; done) | (simp; omega) | omega) _ | refine Below.setCell ?_ (by first | exact Nat.le_refl _ | (simp; done) | (simp; omega) | omega) _ | refine bExtW ?_ (by first | exact Nat.le_refl _ | (simp; done) | (simp; omega) | omega) | refine Below.trans ?_ (Below.mono (by assumption) (by first | exact Nat.le_refl _ | (simp; done) | (simp; omega) | omega)))))).mono ?_; rintro r w1 ⟨rfl, hb⟩; obtain ⟨E, d, rfl⟩ := bExt hb; clear hb)
  go_wp2
  go_ret
  exact ⟨rfl, (by repeat (first | exact Below.refl _ _ | refine Below.drew ?_ | refine below_drewN ?_ _ | refine Below.alloc ?_ (by first | exact Nat.le_refl _ | (simp; done) | (simp; omega) | omega) _ | refine Below.setCell ?_ (by first | exact Nat.le_refl _ | (simp; done) | (simp; omega) | omega) _ | refine bExtW ?_ (by first | exact Nat.le_refl _ | (simp; done) | (simp; omega) | omega) | refine Below.trans ?_ (Below.mono (by assumption) (by first | exact Nat.le_refl _ | (simp; done) | (simp; omega) | omega))))⟩
theorem kdI_le (L : List Mv) : ∀ i, kdI L i ≤ i
  | 0 => Nat.le_refl _
  | i + 1 => by have := kdI_le L i; simp only [kdI]; split <;> omega
theorem keep_made {G W H n N : Nat} {cs : List Int} {sa uc ub : Nat} {zx zy : Int} (h : ChOk G W H n cs) (hN : torN W H = N) (h0 : 0 < N) (hS : Sid (stK W H cs G N) N sa) (hU : Upw (stK W H cs G N) N sa uc ub) :
    keepB W H cs G N ⟨0, false, (zx, zy)⟩ = true ↔ (ub : Int) ∣ zy ∧ (sa : Int) ∣ zx - zy / (ub : Int) * (uc : Int) := by
  have hd := Z.torN_dvd W H
  rw [hN] at hd
  rw [Z.keepB_iff h0 hd.1 hd.2, Z.stp_keep]
  exact (Z.fine_of h0 hd.1 hd.2 hS hU).spec (Z.stp_sub _) (zx, zy)
set_option maxRecDepth 100000 in
set_option maxHeartbeats 8000000 in
theorem lattice_ok (G W H n N sa uc ub : Nat) (a : Option Addr) (c : Nat) (cs : List Int) (zx zy : Int) (w : World) (hI : IsInts w a n cs) (h : ChOk G W H n cs) (hN : torN W H = N) (h24 : N ≤ 24) (h0 : 0 < N) (hx : (-9223372036854775808 ≤ zx ∧ zx ≤ 9223372036854775807)) (hy : (-9223372036854775808 ≤ zy ∧ zy ≤ 9223372036854775807)) (hS : Sid (stK W H cs G N) N sa) (hU : Upw (stK W H cs G N) N sa uc ub) :
    Calls Try.prog 7 #[.agg #[.int .i64 (G), .int .i64 (W), .int .i64 (H), .slice a n c], .agg #[.int .i64 (zx), .int .i64 (zy)]] w fun r w' => r = .returned (.bool true) ∧ Below w.heap.size w w' := by
  have hd := Z.torN_dvd W H
  rw [hN] at hd
  have hg : (G : Int) = 4 ∨ (G : Int) = 6 := by have := h.g; omega
  have HF := Lib.hid (fun w hI => Finest_ok G W H n N sa uc ub a c cs w hI h hN h24 h0 hS hU)
  have HM := Lib.hid (fun w hI => Moves_ok G W H n N a c cs w hI h hN h24 h0)
  have HT := Lib.hid (torOk (a := a) (c := c) h hN h24).1
  have hlen := (moves_facts h hN h24 h0).2.2.2
  have hfine := Z.fine_of h0 hd.1 hd.2 hS hU
  have hcnt := Z.kinds_count hg h0 hd.1 hd.2 hfine
  have hbN : ub ∣ N := Int.natCast_dvd_natCast.1 (Z.fine_dvd (Z.colP_per cs hd.1 hd.2) hfine).2
  have HKM := Lib.hid (keep_made (zx := zx) (zy := zy) h hN h0 hS hU)
  have HKW := Lib.hid (fun w hI (he : wE G 0 zx zy ≠ 0) => (Keeps_wrong G W H n N a c cs 0 false zx zy w hI h hN h24 (by omega) hx hy he).1)
  have HKO := Lib.hid (fun w hI (he : wE G 0 zx zy = 0) => Keeps_ok G W H n N 0 false zx zy a c cs w hI h hN h24 h0 hx hy he)
  have HWZ := Lib.hid (fun he : wE G 0 zx zy = 0 => (wE_zero he).2.1)
  have a1 := hS.a1; have an := hS.an; have b1 := hU.b1; have bn := hU.bn; have ca := hU.ca
  have HI := Lib.hid hI
  unfold MvPost at HM
  generalize Z.movesL W H cs G N = L at *
  generalize keepB W H cs G N ⟨0, false, (zx, zy)⟩ = kb at *
  generalize wE G 0 zx zy = we at *
  obtain ⟨kd, hkd⟩ : ∃ kd, kdI L L.length = kd := ⟨_, rfl⟩
  have hkl : kd ≤ L.length := by rw [← hkd]; exact kdI_le L L.length
  have HKD0 := Lib.hid hkd
  rw [hkd] at hcnt
  obtain ⟨m1, hm1⟩ : ∃ m, L.length * sa = m := ⟨_, rfl⟩
  obtain ⟨m2, hm2⟩ : ∃ m, m1 * ub = m := ⟨_, rfl⟩
  obtain ⟨m3, hm3⟩ : ∃ m, kd * N = m := ⟨_, rfl⟩
  rw [hm1, hm2, hm3] at hcnt
  have l1 : m1 ≤ 10000 * 24 := by rw [← hm1]; exact Nat.mul_le_mul hlen (by omega)
  have l2 : m2 ≤ 10000 * 24 * 24 := by rw [← hm2]; exact Nat.mul_le_mul l1 (by omega)
  have l3 : m3 ≤ 10000 * 24 := by rw [← hm3]; exact Nat.mul_le_mul (by omega) h24
  have p1 : (L.length : Int) * (sa : Int) = (m1 : Int) := by rw [← hm1]; push_cast; rfl
  have p2 : (m1 : Int) * (ub : Int) = (m2 : Int) := by rw [← hm2]; push_cast; rfl
  have p3 : (kd : Int) * (N : Int) = (m3 : Int) := by rw [← hm3]; push_cast; rfl
  have p4 : (m3 : Int) * (N : Int) = (m2 : Int) := by rw [hcnt]; push_cast; rfl
  have r1 : IntKind.i64.wrap (m1 : Int) = (m1 : Int) := IntWalk.i64_in _ (by omega)
  have r2 : IntKind.i64.wrap (m2 : Int) = (m2 : Int) := IntWalk.i64_in _ (by omega)
  have r3 : IntKind.i64.wrap (m3 : Int) = (m3 : Int) := IntWalk.i64_in _ (by omega)
  have t1 : (N : Int).tmod (ub : Int) = 0 := by
    have : (N : Int).tmod (ub : Int) = ((N % ub : Nat) : Int) := rfl
    rw [this, Nat.mod_eq_zero_of_dvd hbN]; rfl
  have q1 : decide ((sa : Int) < 1) = false := by simp; omega
  have q2 : decide ((ub : Int) < 1) = false := by simp; omega
  have q3 : decide ((uc : Int) < 0) = false := by simp
  have q4 : decide ((uc : Int) ≥ (sa : Int)) = false := by simp; omega
  have q4' : decide ((sa : Int) ≤ (uc : Int)) = false := by simp; omega
  have q5 : ((ub : Int) == 0) = false := by rw [beq_eq_false_iff_ne]; omega
  have q6 : (ub : Int) ≠ 0 := by omega
  have q7 : ¬ ub = 0 := by omega
  have q8 : ((sa : Int) == 0) = false := by rw [beq_eq_false_iff_ne]; omega
  have q9 : (sa : Int) ≠ 0 := by omega
  have q10 : ¬ sa = 0 := by omega
  have q11 : decide (sa < 1) = false := by simp; omega
  have q12 : decide (ub < 1) = false := by simp; omega
  have q13 : decide (sa ≤ uc) = false := by simp; omega
  clear hI hN hd h hfine hcnt hbN hS hU hg hkd hm1 hm2 hm3 hx hy
  go_enter Try.func7, Try.ntmps7
  (go_wp2_with fail; refine (alive3_any _).mono ?_; rintro r w1 ⟨rfl, hb⟩; obtain ⟨E, d, rfl⟩ := bExt hb; clear hb)
  go_wp2_with fail
  refine (HF.out _ (HI.out.below (by repeat (first | exact Below.refl _ _ | refine Below.drew ?_ | refine below_drewN ?_ _ | refine Below.alloc ?_ (by first | exact Nat.le_refl _ | (simp; done) | (simp; omega) | omega) _ | refine Below.setCell ?_ (by first | exact Nat.le_refl _ | (simp; done) | (simp; omega) | omega) _ | refine bExtW ?_ (by first | exact Nat.le_refl _ | (simp; done) | (simp; omega) | omega) | refine Below.trans ?_ (Below.mono (by assumption) (by first | exact Nat.le_refl _ | (simp; done) | (simp; omega) | omega)))))).mono ?_
  rintro r w1 ⟨rfl, hb⟩
  obtain ⟨E1, d1, rfl⟩ := bExt hb
  clear hb
  go_wp2_with fail
  refine (HM.out _ (HI.out.below (by repeat (first | exact Below.refl _ _ | refine Below.drew ?_ | refine below_drewN ?_ _ | refine Below.alloc ?_ (by first | exact Nat.le_refl _ | (simp; done) | (simp; omega) | omega) _ | refine Below.setCell ?_ (by first | exact Nat.le_refl _ | (simp; done) | (simp; omega) | omega) _ | refine bExtW ?_ (by first | exact Nat.le_refl _ | (simp; done) | (simp; omega) | omega) | refine Below.trans ?_ (Below.mono (by assumption) (by first | exact Nat.le_refl _ | (simp; done) | (simp; omega) | omega)))))).mono ?_
  rintro r w2 ⟨⟨A, C, rfl, hM⟩, hb2⟩
  have HMV := Lib.hid hM.moves
  have bx0 : w2.cell? ⟨w.heap.size, 0, none⟩ = some (.int .i64 (G)) := bCs hb2 (by simp [go_sem])
  have bx1 : w2.cell? ⟨w.heap.size, 1, none⟩ = some (.int .i64 (W)) := bCs hb2 (by simp [go_sem])
  have bx2 : w2.cell? ⟨w.heap.size, 2, none⟩ = some (.int .i64 (H)) := bCs hb2 (by simp [go_sem])
  have bx3 : w2.cell? ⟨w.heap.size, 3, none⟩ = some (.slice a n c) := bCs hb2 (by simp [go_sem])
  have zx0 : w2.cell? ⟨w.heap.size + 1, 0, none⟩ = some (.int .i64 (zx)) := bCs hb2 (by simp [go_sem])
  have zx1 : w2.cell? ⟨w.heap.size + 1, 1, none⟩ = some (.int .i64 (zy)) := bCs hb2 (by simp [go_sem])
  have sx0 : w2.cell? ⟨w.heap.size + 1 + 1 + E.size + E1.size, 0, none⟩ = some (.int .i64 (sa)) := bCs hb2 (by simp [go_sem])
  have sx1 : w2.cell? ⟨w.heap.size + 1 + 1 + E.size + E1.size, 1, none⟩ = some (.int .i64 (0)) := bCs hb2 (by simp [go_sem])
  have ux0 : w2.cell? ⟨w.heap.size + 1 + 1 + E.size + E1.size + 1, 0, none⟩ = some (.int .i64 (uc)) := bCs hb2 (by simp [go_sem])
  have ux1 : w2.cell? ⟨w.heap.size + 1 + 1 + E.size + E1.size + 1, 1, none⟩ = some (.int .i64 (ub)) := bCs hb2 (by simp [go_sem])
  have lbx : LtW w.heap.size w2 := World.block_lt_of_cell? _ _ bx0
  have lzx : LtW (w.heap.size + 1) w2 := World.block_lt_of_cell? _ _ zx0
  have lsx : LtW (w.heap.size + 1 + 1 + E.size + E1.size) w2 := World.block_lt_of_cell? _ _ sx0
  have lux : LtW (w.heap.size + 1 + 1 + E.size + E1.size + 1) w2 := World.block_lt_of_cell? _ _ ux0
  have hbw : Below w.heap.size w w2 := (by repeat (first | exact Below.refl _ _ | refine Below.drew ?_ | refine below_drewN ?_ _ | refine Below.alloc ?_ (by first | exact Nat.le_refl _ | (simp; done) | (simp; omega) | omega) _ | refine Below.setCell ?_ (by first | exact Nat.le_refl _ | (simp; done) | (simp; omega) | omega) _ | refine bExtW ?_ (by first | exact Nat.le_refl _ | (simp; done) | (simp; omega) | omega) | refine Below.trans ?_ (Below.mono (by assumption) (by first | exact Nat.le_refl _ | (simp; done) | (simp; omega) | omega))))
  have hsz2 : w.heap.size ≤ w2.heap.size := hbw.size
  clear hM hb2
  (go_wp2_with fail; refine (HT.out _ (HI.out.below (by repeat (first | exact Below.refl _ _ | refine Below.drew ?_ | refine below_drewN ?_ _ | refine Below.alloc ?_ (by first | exact Nat.le_refl _ | (simp; done) | (simp; omega) | omega) _ | refine Below.setCell ?_ (by first | exact Nat.le_refl _ | (simp; done) | (simp; omega) | omega) _ | refine bExtW ?_ (by first | exact Nat.le_refl _ | (simp; done) | (simp; omega) | omega) | refine Below.trans ?_ (Below.mono (by assumption) (by first | exact Nat.le_refl _ | (simp; done) | (simp; omega) | omega)))))).mono ?_; rintro r w1 ⟨rfl, hb⟩; obtain ⟨E, d, rfl⟩ := bExt hb; clear hb)
  go_wp2_with fail
  go_loopw [12, 87] (fun kv iv wr => ∃ (i : Nat) (E : Array Obj) (d : Nat), i ≤ L.length ∧ Hid (kv = .int .i64 (kdI L i : Nat)) ∧ iv = .int .i64 i ∧ wr = extW w2 E d) (fun _ iv _ => L.length - (intOf iv).toNat)
  case atStart => exact ⟨0, _, _, by omega, Lib.hid rfl, rfl, by first | rfl | (simp only [extW_extW]; rfl)⟩
  case round =>
    obtain ⟨i, E2, d2, hi, HKV, rfl, rfl⟩ := hrel
    have hki := kdI_le L i
    have HKS : Hid (kdI L (i + 1) = kdI L i + if newK L i then 1 else 0) := Lib.hid rfl
    by_cases hil : i < L.length
    · have di : decide ((i : Int) < (L.length : Int)) = true := by simpa using hil
      have vi : IntKind.i64.wrap ((i : Int) + 1) = (i : Int) + 1 := IntWalk.i64_in _ (by omega)
      rw [HKV.out]
      generalize kdI L i = kq at *
      have vk : IntKind.i64.wrap ((kq : Int) + 1) = (kq : Int) + 1 := IntWalk.i64_in _ (by omega)
      obtain ⟨b, o, rfl, hb, hc⟩ := HMV.out.2 (by omega)
      obtain ⟨c0, c1, c2, c3⟩ := hc i hil
      have lb : LtW b w2 := hb
      obtain ⟨m, hm⟩ : ∃ m, L.getD i idm = m := ⟨_, rfl⟩
      rw [hm] at c0 c1 c2 c3
      obtain ⟨t', f', x', y'⟩ := m
      simp only at c0 c1 c2 c3
      by_cases hi0 : i = 0
      · have e0 : ((i : Int) == 0) = true := by simp [hi0]
        have HKD : Hid (Value.int .i64 ((kq : Int) + 1) = .int .i64 ((kdI L (i + 1) : Nat) : Int)) := Lib.hid (by rw [HKS.out, if_pos (by unfold newK; simp [hi0])]; push_cast; rfl)
        clear hb hc hm HKS HKV hi0
        go_wp2_with fail
        (refine wp_region_ext (by kernel_rfl) (by kernel_rfl) ?_; (repeat (first | ((with_reducible refine ext_step (fun K hK => ?_)); go_simp; first | (refine hK _ ?_; clear hK K) | (apply Exists.intro; refine ⟨fun _ _ => ?_, hK _ ?_⟩; fail; clear hK K)))); refine wpQuiet_nil ?_; intro E d)
        go_wp2
        go_roundw
        case rel => exact ⟨i + 1, _, _, by omega, HKD, by go_num, by simp only [alloc_extW, extW_extW]; rfl⟩
        case measure => simp [intOf]; omega
      · have e0 : ((i : Int) == 0) = false := by rw [beq_eq_false_iff_ne]; omega
        obtain ⟨i', hi'⟩ : ∃ i', i - 1 = i' := ⟨_, rfl⟩
        have hil' : i' < L.length := by omega
        have e1 : IntKind.i64.wrap ((i : Int) - 1) = (i' : Int) := by rw [IntWalk.i64_in _ (by omega)]; omega
        obtain ⟨g0, g1, g2, g3⟩ := hc i' hil'
        obtain ⟨m', hm'⟩ : ∃ m, L.getD i' idm = m := ⟨_, rfl⟩
        rw [hm'] at g0 g1 g2 g3
        have HNK : Hid (newK L i = ((m'.f != f') || (m'.t != t'))) := Lib.hid (by
          unfold newK
          rw [hi', hm', hm, show (i == 0) = false from beq_eq_false_iff_ne.2 hi0, Bool.false_or])
        obtain ⟨t'', f'', x'', y''⟩ := m'
        simp only at g0 g1 g2 g3
        by_cases hf : f'' = f'
        · have e2 : (f'' != f') = false := by simpa using hf
          have e2' : (f'' == f') = true := by simpa using hf
          by_cases ht : t'' = t'
          · have e3 : ((t'' : Int) != (t' : Int)) = false := by simp [ht]
            have HKD : Hid (Value.int .i64 (kq : Int) = .int .i64 ((kdI L (i + 1) : Nat) : Int)) := Lib.hid (by rw [HKS.out, if_neg (by rw [HNK.out]; simp [hf, ht]), Nat.add_zero])
            clear hb hc hm HKS HKV hi0 hm' hi' HNK hf ht
            go_wp2_with fail
            (refine wp_region_ext (by kernel_rfl) (by kernel_rfl) ?_; (repeat (first | ((with_reducible refine ext_step (fun K hK => ?_)); go_simp; first | (refine hK _ ?_; clear hK K) | (apply Exists.intro; refine ⟨fun _ _ => ?_, hK _ ?_⟩; fail; clear hK K)))); refine wpQuiet_nil ?_; intro E d)
            go_wp2
            go_roundw
            case rel => exact ⟨i + 1, _, _, by omega, HKD, by go_num, by simp only [alloc_extW, extW_extW]; rfl⟩
            case measure => simp [intOf]; omega
          · have e3 : ((t'' : Int) != (t' : Int)) = true := by simp; omega
            have HKD : Hid (Value.int .i64 ((kq : Int) + 1) = .int .i64 ((kdI L (i + 1) : Nat) : Int)) := Lib.hid (by rw [HKS.out, if_pos (by rw [HNK.out]; simp [ht])]; push_cast; rfl)
            clear hb hc hm HKS HKV hi0 hm' hi' HNK hf ht
            go_wp2_with fail
            (refine wp_region_ext (by kernel_rfl) (by kernel_rfl) ?_; (repeat (first | ((with_reducible refine ext_step (fun K hK => ?_)); go_simp; first | (refine hK _ ?_; clear hK K) | (apply Exists.intro; refine ⟨fun _ _ => ?_, hK _ ?_⟩; fail; clear hK K)))); refine wpQuiet_nil ?_; intro E d)
            go_wp2
            go_roundw
            case rel => exact ⟨i + 1, _, _, by omega, HKD, by go_num, by simp only [alloc_extW, extW_extW]; rfl⟩
            case measure => simp [intOf]; omega
        · have e2 : (f'' != f') = true := by simpa using hf
          have e2' : (f'' == f') = false := by simpa using hf
          have HKD : Hid (Value.int .i64 ((kq : Int) + 1) = .int .i64 ((kdI L (i + 1) : Nat) : Int)) := Lib.hid (by rw [HKS.out, if_pos (by rw [HNK.out]; simp [hf])]; push_cast; rfl)
          clear hb hc hm HKS HKV hi0 hm' hi' HNK hf
          go_wp2_with fail
          (refine wp_region_ext (by kernel_rfl) (by kernel_rfl) ?_; (repeat (first | ((with_reducible refine ext_step (fun K hK => ?_)); go_simp; first | (refine hK _ ?_; clear hK K) | (apply Exists.intro; refine ⟨fun _ _ => ?_, hK _ ?_⟩; fail; clear hK K)))); refine wpQuiet_nil ?_; intro E d)
          go_wp2
          go_roundw
          case rel => exact ⟨i + 1, _, _, by omega, HKD, by go_num, by simp only [alloc_extW, extW_extW]; rfl⟩
          case measure => simp [intOf]; omega
    · obtain rfl : i = L.length := by omega
      have di : decide ((L.length : Int) < (L.length : Int)) = false := by simp
      rw [HKV.out, HKD0.out]
      clear HKS HKV hki HKD0
      by_cases hwe : we = 0
      · have HKO1 := Lib.hid (fun w hI => HKO.out w hI hwe)
        have hz := HWZ.out hwe
        by_cases hd1 : (ub : Int) ∣ zy
        · have s1 : zy.tmod (ub : Int) = 0 := Int.tmod_eq_zero_of_dvd hd1
          obtain ⟨q, hq⟩ : ∃ q, zy.tdiv (ub : Int) = q := ⟨_, rfl⟩
          have hq2 : zy / (ub : Int) = q := by rw [← hq, Int.tdiv_eq_ediv_of_dvd hd1]
          have hqm : (ub : Int) * q = zy := by rw [← hq2]; exact Int.mul_ediv_cancel' hd1
          have hqb : -1048576 ≤ q ∧ q ≤ 1048576 := by
            have h1 : (1 : Int) ≤ (ub : Int) := by omega
            constructor
            · refine Decidable.byContradiction fun hn => ?_
              have := Int.mul_le_mul_of_nonneg_left (show q ≤ -1048577 by omega) (show (0 : Int) ≤ (ub : Int) by omega)
              have h3 : (ub : Int) * -1048577 ≤ 1 * -1048577 := Int.mul_le_mul_of_nonpos_right h1 (by omega)
              omega
            · refine Decidable.byContradiction fun hn => ?_
              have := Int.mul_le_mul_of_nonneg_left (show 1048577 ≤ q by omega) (show (0 : Int) ≤ (ub : Int) by omega)
              have h3 : 1 * 1048577 ≤ (ub : Int) * 1048577 := Int.mul_le_mul_of_nonneg_right h1 (by omega)
              omega
          obtain ⟨qc, hqc⟩ : ∃ k, q * (uc : Int) = k := ⟨_, rfl⟩
          have hqcb : -26000000 ≤ qc ∧ qc ≤ 26000000 := by
            have h1 := Int.mul_le_mul_of_nonneg_right hqb.1 (show (0 : Int) ≤ (uc : Int) by omega)
            have h2 := Int.mul_le_mul_of_nonneg_right hqb.2 (show (0 : Int) ≤ (uc : Int) by omega)
            omega
          have s2 : IntKind.i64.wrap q = q := IntWalk.i64_in _ (by omega)
          have s3 : IntKind.i64.wrap qc = qc := IntWalk.i64_in _ (by omega)
          have s4 : IntKind.i64.wrap (zx - qc) = zx - qc := IntWalk.i64_in _ (by omega)
          have hkm := HKM.out
          rw [hq2, hqc] at hkm
          obtain ⟨sr, hsr⟩ : ∃ k, (zx - qc).tmod (sa : Int) = k := ⟨_, rfl⟩
          have hsb1 := Int.tmod_lt_of_pos (zx - qc) (show (0 : Int) < sa by omega)
          have hsb2 := Int.lt_tmod_of_pos (zx - qc) (show (0 : Int) < sa by omega)
          rw [hsr] at hsb1 hsb2
          have s5 : IntKind.i64.wrap sr = sr := IntWalk.i64_in _ (by omega)
          have hkk : kb = (sr == 0) := by
            rw [Bool.eq_iff_iff, hkm, beq_iff_eq, ← hsr]
            exact ⟨fun h => Int.tmod_eq_zero_of_dvd h.2, fun h => ⟨hd1, Int.dvd_of_tmod_eq_zero h⟩⟩
          clear hd1 hq2 hqm hqb hqcb hkm hwe HKM HKO HKW HWZ hsb1 hsb2
          cases hsq : (sr == 0) with
          | true =>
            rw [hsq] at hkk
            rw [hkk] at HKO1
            (go_wp2_with fail; refine (HKO1.out _ (HI.out.below (by repeat (first | exact Below.refl _ _ | refine Below.drew ?_ | refine below_drewN ?_ _ | refine Below.alloc ?_ (by first | exact Nat.le_refl _ | (simp; done) | (simp; omega) | omega) _ | refine Below.setCell ?_ (by first | exact Nat.le_refl _ | (simp; done) | (simp; omega) | omega) _ | refine bExtW ?_ (by first | exact Nat.le_refl _ | (simp; done) | (simp; omega) | omega) | refine Below.trans ?_ (Below.mono (by assumption) (by first | exact Nat.le_refl _ | (simp; done) | (simp; omega) | omega)))))).mono ?_; rintro r w1 ⟨rfl, hb⟩; obtain ⟨E, d, rfl⟩ := bExt hb; clear hb)
            go_wp2_with fail
            (refine wp_region_ext (by kernel_rfl) (by kernel_rfl) ?_; (repeat (first | ((with_reducible refine ext_step (fun K hK => ?_)); go_simp; first | (refine hK _ ?_; clear hK K) | (apply Exists.intro; refine ⟨fun _ _ => ?_, hK _ ?_⟩; fail; clear hK K)))); refine wpQuiet_nil ?_; intro E d)
            go_wp2
            go_ret
            exact ⟨rfl, (by repeat (first | exact Below.refl _ _ | refine Below.drew ?_ | refine below_drewN ?_ _ | refine Below.alloc ?_ (by first | exact Nat.le_refl _ | (simp; done) | (simp; omega) | omega) _ | refine Below.setCell ?_ (by first | exact Nat.le_refl _ | (simp; done) | (simp; omega) | omega) _ | refine bExtW ?_ (by first | exact Nat.le_refl _ | (simp; done) | (simp; omega) | omega) | refine Below.trans ?_ (Below.mono (by assumption) (by first | exact Nat.le_refl _ | (simp; done) | (simp; omega) | omega))))⟩
          | false =>
            rw [hsq] at hkk
            rw [hkk] at HKO1
            (go_wp2_with fail; refine (HKO1.out _ (HI.out.below (by repeat (first | exact Below.refl _ _ | refine Below.drew ?_ | refine below_drewN ?_ _ | refine Below.alloc ?_ (by first | exact Nat.le_refl _ | (simp; done) | (simp; omega) | omega) _ | refine Below.setCell ?_ (by first | exact Nat.le_refl _ | (simp; done) | (simp; omega) | omega) _ | refine bExtW ?_ (by first | exact Nat.le_refl _ | (simp; done) | (simp; omega) | omega) | refine Below.trans ?_ (Below.mono (by assumption) (by first | exact Nat.le_refl _ | (simp; done) | (simp; omega) | omega)))))).mono ?_; rintro r w1 ⟨rfl, hb⟩; obtain ⟨E, d, rfl⟩ := bExt hb; clear hb)
            go_wp2_with fail
            (refine wp_region_ext (by kernel_rfl) (by kernel_rfl) ?_; (repeat (first | ((with_reducible refine ext_step (fun K hK => ?_)); go_simp; first | (refine hK _ ?_; clear hK K) | (apply Exists.intro; refine ⟨fun _ _ => ?_, hK _ ?_⟩; fail; clear hK K)))); refine wpQuiet_nil ?_; intro E d)
            go_wp2
            go_ret
            exact ⟨rfl, (by repeat (first | exact Below.refl _ _ | refine Below.drew ?_ | refine below_drewN ?_ _ | refine Below.alloc ?_ (by first | exact Nat.le_refl _ | (simp; done) | (simp; omega) | omega) _ | refine Below.setCell ?_ (by first | exact Nat.le_refl _ | (simp; done) | (simp; omega) | omega) _ | refine bExtW ?_ (by first | exact Nat.le_refl _ | (simp; done) | (simp; omega) | omega) | refine Below.trans ?_ (Below.mono (by assumption) (by first | exact Nat.le_refl _ | (simp; done) | (simp; omega) | omega))))⟩
        · obtain ⟨sr, hsr⟩ : ∃ k, zy.tmod (ub : Int) = k := ⟨_, rfl⟩
          have hsb1 := Int.tmod_lt_of_pos zy (show (0 : Int) < ub by omega)
          have hsb2 := Int.lt_tmod_of_pos zy (show (0 : Int) < ub by omega)
          rw [hsr] at hsb1 hsb2
          have s1 : (sr == 0) = false := by
            rw [beq_eq_false_iff_ne, ← hsr]
            exact fun h => hd1 (Int.dvd_of_tmod_eq_zero h)
          have s5 : IntKind.i64.wrap sr = sr := IntWalk.i64_in _ (by omega)
          have hkk : kb = false := by
            cases hk : kb with
            | false => rfl
            | true => exact absurd (HKM.out.1 hk).1 hd1
          rw [hkk] at HKO1
          clear hd1 hkk hwe HKM HKO HKW HWZ hsb1 hsb2
          (go_wp2_with fail; refine (HKO1.out _ (HI.out.below (by repeat (first | exact Below.refl _ _ | refine Below.drew ?_ | refine below_drewN ?_ _ | refine Below.alloc ?_ (by first | exact Nat.le_refl _ | (simp; done) | (simp; omega) | omega) _ | refine Below.setCell ?_ (by first | exact Nat.le_refl _ | (simp; done) | (simp; omega) | omega) _ | refine bExtW ?_ (by first | exact Nat.le_refl _ | (simp; done) | (simp; omega) | omega) | refine Below.trans ?_ (Below.mono (by assumption) (by first | exact Nat.le_refl _ | (simp; done) | (simp; omega) | omega)))))).mono ?_; rintro r w1 ⟨rfl, hb⟩; obtain ⟨E, d, rfl⟩ := bExt hb; clear hb)
          go_wp2_with fail
          (refine wp_region_ext (by kernel_rfl) (by kernel_rfl) ?_; (repeat (first | ((with_reducible refine ext_step (fun K hK => ?_)); go_simp; first | (refine hK _ ?_; clear hK K) | (apply Exists.intro; refine ⟨fun _ _ => ?_, hK _ ?_⟩; fail; clear hK K)))); refine wpQuiet_nil ?_; intro E d)
          go_wp2
          go_ret
          exact ⟨rfl, (by repeat (first | exact Below.refl _ _ | refine Below.drew ?_ | refine below_drewN ?_ _ | refine Below.alloc ?_ (by first | exact Nat.le_refl _ | (simp; done) | (simp; omega) | omega) _ | refine Below.setCell ?_ (by first | exact Nat.le_refl _ | (simp; done) | (simp; omega) | omega) _ | refine bExtW ?_ (by first | exact Nat.le_refl _ | (simp; done) | (simp; omega) | omega) | refine Below.trans ?_ (Below.mono (by assumption) (by first | exact Nat.le_refl _ | (simp; done) | (simp; omega) | omega))))⟩
      · have hb : (we != 0) = true := by simpa using hwe
        have HKO1 := Lib.hid (fun w hI => HKW.out w hI hwe)
        clear hwe HKM HKO HKW HWZ
        (go_wp2_with fail; refine (HKO1.out _ (HI.out.below (by repeat (first | exact Below.refl _ _ | refine Below.drew ?_ | refine below_drewN ?_ _ | refine Below.alloc ?_ (by first | exact Nat.le_refl _ | (simp; done) | (simp; omega) | omega) _ | refine Below.setCell ?_ (by first | exact Nat.le_refl _ | (simp; done) | (simp; omega) | omega) _ | refine bExtW ?_ (by first | exact Nat.le_refl _ | (simp; done) | (simp; omega) | omega) | refine Below.trans ?_ (Below.mono (by assumption) (by first | exact Nat.le_refl _ | (simp; done) | (simp; omega) | omega)))))).mono ?_; rintro r w1 ⟨rfl, hb⟩; obtain ⟨E, d, rfl⟩ := bExt hb; clear hb)
        go_wp2
        go_ret
        exact ⟨rfl, (by repeat (first | exact Below.refl _ _ | refine Below.drew ?_ | refine below_drewN ?_ _ | refine Below.alloc ?_ (by first | exact Nat.le_refl _ | (simp; done) | (simp; omega) | omega) _ | refine Below.setCell ?_ (by first | exact Nat.le_refl _ | (simp; done) | (simp; omega) | omega) _ | refine bExtW ?_ (by first | exact Nat.le_refl _ | (simp; done) | (simp; omega) | omega) | refine Below.trans ?_ (Below.mono (by assumption) (by first | exact Nat.le_refl _ | (simp; done) | (simp; omega) | omega))))⟩
theorem lattice_walk (G W H : Int) (a : Option Addr) (n c : Nat) (cs : List Int) (zx zy : Int) (w : World) (hI : IsInts w a n cs) (h0 : (-9223372036854775808 ≤ G ∧ G ≤ 9223372036854775807)) (h1 : (-9223372036854775808 ≤ W ∧ W ≤ 9223372036854775807)) (h2 : (-9223372036854775808 ≤ H ∧ H ≤ 9223372036854775807)) (h3 : n ≤ 9223372036854775807) (hx : (-9223372036854775808 ≤ zx ∧ zx ≤ 9223372036854775807)) (hy : (-9223372036854775808 ≤ zy ∧ zy ≤ 9223372036854775807)) :
    Calls Try.prog 7 #[.agg #[.int .i64 (G), .int .i64 (W), .int .i64 (H), .slice a n c], .agg #[.int .i64 (zx), .int .i64 (zy)]] w fun r w' => r = .returned (.bool true) ∧ Below w.heap.size w w' := by
  rcases chart_cases G W H a n c cs h0 h1 h2 h3 with ⟨e, hT⟩ | ⟨G', W', H', N, rfl, rfl, rfl, h, hN, hp, h24⟩
  · exact lattice_bad G W H a n c cs zx zy w hI e hT
  · have hd := Z.torN_dvd W' H'
    rw [hN] at hd
    obtain ⟨sa, uc, ub, hS, hU⟩ := Z.fine_ex (cs := cs) (g := (G' : Int)) hp hd.1 hd.2
    exact lattice_ok G' W' H' n N sa uc ub a c cs zx zy w hI h hN h24 hp hx hy hS hU
end Go.Proofs.Ytdaacjaibfcacaa
