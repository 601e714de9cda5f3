/- Lemmas and contracts of functions (what each call returns, and that it changes nothing that was there) that the proof of a law of this seat uses; each lemma states its own conditions. -/
import Derived.Test.YtkffljkgblcgdaaQ1
import Derived.Test.YtkffljkgblcgdaaAgM
namespace Go.Proofs.Ytkffljkgblcgdaa
open Go.RowKit
set_option linter.unusedVariables false
set_option linter.unusedSimpArgs false
open Lo
set_option maxRecDepth 100000 in
set_option maxHeartbeats 8000000 in
theorem rRows_ok (W H n : Nat) (hn : n = W * H) (a : Option Addr) (c : Nat) (bs : List Bool) (y z : Nat) (w : World) (hI : IsBools w a n bs) (hW : W ≤ 64) (hH : H ≤ 64) (hy : y < H) (hz : z < H) :
    Calls Try.prog 67 #[.agg #[.int .i64 (W), .int .i64 (H), .slice a n c], .int .i64 (y), .int .i64 (z)] w fun e w' => e = .returned (.bool (decide (rowL bs W y = rowL bs W z))) ∧ Below w.heap.size w w' := by
  have hn4 : n ≤ 4096 := by rw [hn]; exact mul64n hW hH
  have HBIT := Lib.hid (fun w y x p h1 h2 h3 (h4 : x ≤ 64) (h5 : y ≤ 64) => rBit_ok W H n a c bs w h1 y x p h2 h3 hn4 (by omega) (by omega) (by omega))
  have HN := Lib.hid hn
  have HI := Lib.hid hI
  clear hI hn
  go_enter Try.func67, Try.ntmps67
  go_wp2_with fail
  go_loopw [7] (fun i wr => ∃ (x : Nat) (E : Array Obj) (d : Nat), x ≤ W ∧ i = .int .i64 x ∧ (∀ j, j < x → bs.getD (y * W + j) false = bs.getD (z * W + j) false) ∧ wr = extW (w.alloc (.cells #[.int .i64 (W), .int .i64 (H), .slice a n c] 25)) E d) (fun i _ => W - (intOf i).toNat)
  case atStart => exact ⟨0, #[], (w.alloc (.cells #[.int .i64 (W), .int .i64 (H), .slice a n c] 25)).drawn, by omega, rfl, fun j h => absurd h (by omega), extW_zero _⟩
  case round =>
    obtain ⟨x, E, d, hx, rfl, hrun, rfl⟩ := hrel
    have HRUN := Lib.hid hrun
    clear hrun
    by_cases hxW : x < W
    · obtain ⟨p1, hp1⟩ : ∃ p, y * W + x = p := ⟨_, rfl⟩
      have hlt1 : p1 < n := by rw [HN.out, ← hp1]; exact place_lt' hxW hy
      obtain ⟨p2, hp2⟩ : ∃ p, z * W + x = p := ⟨_, rfl⟩
      have hlt2 : p2 < n := by rw [HN.out, ← hp2]; exact place_lt' hxW hz
      have HB1 := Lib.hid (fun wq h => HBIT.out wq y x p1 h hp1 hlt1 (by omega) (by omega))
      have HB2 := Lib.hid (fun wq h => HBIT.out wq z x p2 h hp2 hlt2 (by omega) (by omega))
      have HP1 := Lib.hid hp1
      have HP2 := Lib.hid hp2
      clear hp1 hp2
      obtain ⟨b1, hb1⟩ : ∃ b, bs.getD p1 false = b := ⟨_, rfl⟩
      obtain ⟨b2, hb2⟩ : ∃ b, bs.getD p2 false = b := ⟨_, rfl⟩
      rw [hb1] at HB1
      rw [hb2] at HB2
      have HE1 := Lib.hid hb1
      have HE2 := Lib.hid hb2
      clear hb1 hb2
      by_cases hbb : b1 = b2
      · have hbt : (b1 == b2) = true := by simpa using hbb
        have HBB := Lib.hid hbb
        clear hbb
        go_wp2_with fail
        (refine wp_region_ext (by kernel_rfl) (by kernel_rfl) ?_; (repeat (first | ((with_reducible refine ext_step (fun K hK => ?_)); go_simp; first | (refine hK _ ?_; clear hK K) | (apply Exists.intro; refine ⟨fun _ _ => ?_, hK _ ?_⟩; fail; clear hK K)))); ((with_reducible refine ext_step (fun K hK => ?_)); go_simp; (apply Exists.intro; refine ⟨fun _ _ => ?_, hK _ ?_⟩; (go_at_call 58; exact extOf (HB1.out _ (HI.out.below (by repeat (first | exact Below.refl _ _ | refine Below.drew ?_ | refine below_drewN ?_ _ | refine Below.alloc ?_ (by first | exact Nat.le_refl _ | (simp; done) | (simp; omega) | omega) _ | refine Below.setCell ?_ (by first | exact Nat.le_refl _ | (simp; done) | (simp; omega) | omega) _ | refine bExtW ?_ (by first | exact Nat.le_refl _ | (simp; done) | (simp; omega) | omega) | refine Below.trans ?_ (Below.mono (by assumption) (by first | exact Nat.le_refl _ | (simp; done) | (simp; omega) | omega))))))); clear hK K)); (repeat (first | ((with_reducible refine ext_step (fun K hK => ?_)); go_simp; first | (refine hK _ ?_; clear hK K) | (apply Exists.intro; refine ⟨fun _ _ => ?_, hK _ ?_⟩; fail; clear hK K)))); ((with_reducible refine ext_step (fun K hK => ?_)); go_simp; (apply Exists.intro; refine ⟨fun _ _ => ?_, hK _ ?_⟩; (go_at_call 58; exact extOf (HB2.out _ (HI.out.below (by repeat (first | exact Below.refl _ _ | refine Below.drew ?_ | refine below_drewN ?_ _ | refine Below.alloc ?_ (by first | exact Nat.le_refl _ | (simp; done) | (simp; omega) | omega) _ | refine Below.setCell ?_ (by first | exact Nat.le_refl _ | (simp; done) | (simp; omega) | omega) _ | refine bExtW ?_ (by first | exact Nat.le_refl _ | (simp; done) | (simp; omega) | omega) | refine Below.trans ?_ (Below.mono (by assumption) (by first | exact Nat.le_refl _ | (simp; done) | (simp; omega) | omega))))))); clear hK K)); (repeat (first | ((with_reducible refine ext_step (fun K hK => ?_)); go_simp; first | (refine hK _ ?_; clear hK K) | (apply Exists.intro; refine ⟨fun _ _ => ?_, hK _ ?_⟩; fail; clear hK K)))); refine wpQuiet_nil ?_; intro E d)
        go_wp2
        go_roundw
        case rel => exact ⟨x + 1, _, _, by omega, by go_num, fun j hj => by
          rcases Nat.lt_or_ge j x with h | h
          · exact HRUN.out j h
          · obtain rfl : j = x := by omega
            rw [HP1.out, HP2.out, HE1.out, HE2.out, HBB.out], by simp only [extW_extW]; rfl⟩
        case measure => simp [intOf]; omega
      · have hbt : (b1 == b2) = false := by simpa using hbb
        have hne : ¬ rowL bs W y = rowL bs W z := fun h => hbb (by
          have := rowL_eq.1 h x hxW
          rwa [HP1.out, HP2.out, HE1.out, HE2.out] at this)
        have HNE := Lib.hid hne
        clear hbb hne
        go_wp2_with fail
        (refine wp_region_ext (by kernel_rfl) (by kernel_rfl) ?_; (repeat (first | ((with_reducible refine ext_step (fun K hK => ?_)); go_simp; first | (refine hK _ ?_; clear hK K) | (apply Exists.intro; refine ⟨fun _ _ => ?_, hK _ ?_⟩; fail; clear hK K)))); ((with_reducible refine ext_step (fun K hK => ?_)); go_simp; (apply Exists.intro; refine ⟨fun _ _ => ?_, hK _ ?_⟩; (go_at_call 58; exact extOf (HB1.out _ (HI.out.below (by repeat (first | exact Below.refl _ _ | refine Below.drew ?_ | refine below_drewN ?_ _ | refine Below.alloc ?_ (by first | exact Nat.le_refl _ | (simp; done) | (simp; omega) | omega) _ | refine Below.setCell ?_ (by first | exact Nat.le_refl _ | (simp; done) | (simp; omega) | omega) _ | refine bExtW ?_ (by first | exact Nat.le_refl _ | (simp; done) | (simp; omega) | omega) | refine Below.trans ?_ (Below.mono (by assumption) (by first | exact Nat.le_refl _ | (simp; done) | (simp; omega) | omega))))))); clear hK K)); (repeat (first | ((with_reducible refine ext_step (fun K hK => ?_)); go_simp; first | (refine hK _ ?_; clear hK K) | (apply Exists.intro; refine ⟨fun _ _ => ?_, hK _ ?_⟩; fail; clear hK K)))); ((with_reducible refine ext_step (fun K hK => ?_)); go_simp; (apply Exists.intro; refine ⟨fun _ _ => ?_, hK _ ?_⟩; (go_at_call 58; exact extOf (HB2.out _ (HI.out.below (by repeat (first | exact Below.refl _ _ | refine Below.drew ?_ | refine below_drewN ?_ _ | refine Below.alloc ?_ (by first | exact Nat.le_refl _ | (simp; done) | (simp; omega) | omega) _ | refine Below.setCell ?_ (by first | exact Nat.le_refl _ | (simp; done) | (simp; omega) | omega) _ | refine bExtW ?_ (by first | exact Nat.le_refl _ | (simp; done) | (simp; omega) | omega) | refine Below.trans ?_ (Below.mono (by assumption) (by first | exact Nat.le_refl _ | (simp; done) | (simp; omega) | omega))))))); clear hK K)); (repeat (first | ((with_reducible refine ext_step (fun K hK => ?_)); go_simp; first | (refine hK _ ?_; clear hK K) | (apply Exists.intro; refine ⟨fun _ _ => ?_, hK _ ?_⟩; fail; clear hK K)))); refine wpQuiet_nil ?_; intro E d)
        go_wp2
        go_ret
        exact ⟨by rw [decide_eq_false HNE.out]; rfl, (by repeat (first | exact Below.refl _ _ | refine Below.drew ?_ | refine below_drewN ?_ _ | refine Below.alloc ?_ (by first | exact Nat.le_refl _ | (simp; done) | (simp; omega) | omega) _ | refine Below.setCell ?_ (by first | exact Nat.le_refl _ | (simp; done) | (simp; omega) | omega) _ | refine bExtW ?_ (by first | exact Nat.le_refl _ | (simp; done) | (simp; omega) | omega) | refine Below.trans ?_ (Below.mono (by assumption) (by first | exact Nat.le_refl _ | (simp; done) | (simp; omega) | omega))))⟩
    · obtain rfl : W = x := by omega
      go_wp2
      go_ret
      exact ⟨by rw [decide_eq_true (rowL_eq.2 HRUN.out)]; rfl, (by repeat (first | exact Below.refl _ _ | refine Below.drew ?_ | refine below_drewN ?_ _ | refine Below.alloc ?_ (by first | exact Nat.le_refl _ | (simp; done) | (simp; omega) | omega) _ | refine Below.setCell ?_ (by first | exact Nat.le_refl _ | (simp; done) | (simp; omega) | omega) _ | refine bExtW ?_ (by first | exact Nat.le_refl _ | (simp; done) | (simp; omega) | omega) | refine Below.trans ?_ (Below.mono (by assumption) (by first | exact Nat.le_refl _ | (simp; done) | (simp; omega) | omega))))⟩
set_option maxRecDepth 100000 in
set_option maxHeartbeats 8000000 in
theorem rAlike_bad (W H : Int) (a : Option Addr) (n c : Nat) (w : World) (h1 : (-9223372036854775808 ≤ W ∧ W ≤ 9223372036854775807)) (h2 : (-9223372036854775808 ≤ H ∧ H ≤ 9223372036854775807)) (h3 : n ≤ 9223372036854775807) (he : wrT W H n ≠ 0) :
    Calls Try.prog 57 #[.agg #[.int .i64 (W), .int .i64 (H), .slice a n c]] w fun e w' => e = .returned (.tuple #[.slice none 0 0, .int .i64 (wrT W H n)]) ∧ Below w.heap.size w w' := by
  have hb : (wrT W H n != 0) = true := by simpa using he
  have HWR := Lib.hid (fun w => r5Wrong_any W H a n c w h1 h2 h3)
  clear he
  generalize wrT W H n = we at *
  go_enter Try.func57, Try.ntmps57
  (go_wp2_with fail; refine (HWR.out _).mono ?_; rintro r w1 ⟨rfl, hb⟩; obtain ⟨E, d, rfl⟩ := bExt hb; clear hb)
  go_wp2
  refine bodyPost_ret (v := .tuple #[.slice none 0 0, .int .i64 (we)]) (by simp [results, Try.results57, go_sem]) rfl ⟨rfl, (by repeat (first | exact Below.refl _ _ | refine Below.drew ?_ | refine below_drewN ?_ _ | refine Below.alloc ?_ (by first | exact Nat.le_refl _ | (simp; done) | (simp; omega) | omega) _ | refine Below.setCell ?_ (by first | exact Nat.le_refl _ | (simp; done) | (simp; omega) | omega) _ | refine bExtW ?_ (by first | exact Nat.le_refl _ | (simp; done) | (simp; omega) | omega) | refine Below.trans ?_ (Below.mono (by assumption) (by first | exact Nat.le_refl _ | (simp; done) | (simp; omega) | omega))))⟩
set_option maxRecDepth 100000 in
set_option maxHeartbeats 8000000 in
theorem rAlike_okG (W H n : Nat) (hn : n = W * H) (a : Option Addr) (c : Nat) (bs : List Bool) (w : World) (hT : OkT w a n c bs) (hW : W ≤ 64) (hH : H ≤ 64) :
    Calls Try.prog 57 #[.agg #[.int .i64 (W), .int .i64 (H), .slice a n c]] w (IntsPostG (alikeL W H bs) w) := by
  have hn4 : n ≤ 4096 := by rw [hn]; exact mul64n hW hH
  have hz : wrT W H n = 0 := by rw [hn]; exact wrT_ok hW hH
  have HWR := Lib.hid (fun w => r5Wrong_any W H a n c w (wfN W hW) (wfN H hH) (by omega))
  rw [hz] at HWR
  have HROW := Lib.hid (fun w y z h h4 h5 => rRows_ok W H n hn a c bs y z w h hW hH h4 h5)
  have HI := Lib.hid hT.bits
  rw [alike_gS]
  have HLEN := Lib.hid (gS_len (rowL bs W) H)
  clear hT hn hz
  generalize rowL bs W = R at *
  go_enter Try.func57, Try.ntmps57
  go_wp2_with fail
  refine (HWR.out _).mono ?_
  rintro r w1 ⟨rfl, hb⟩
  obtain ⟨E1, d1, rfl⟩ := bExt hb
  clear hb
  go_wp2_with fail
  have hq := rowBelow (tF_alloc w W H (.slice a n c) rfl) (show Below (w.heap.size + 1) (w.alloc (.cells #[.int .i64 (W), .int .i64 (H), .slice a n c] 25)) (extW (w.alloc (.cells #[.int .i64 (W), .int .i64 (H), .slice a n c] 25)) E1 d1) from (by repeat (first | exact Below.refl _ _ | refine Below.drew ?_ | refine below_drewN ?_ _ | refine Below.alloc ?_ (by first | exact Nat.le_refl _ | (simp; done) | (simp; omega) | omega) _ | refine Below.setCell ?_ (by first | exact Nat.le_refl _ | (simp; done) | (simp; omega) | omega) _ | refine bExtW ?_ (by first | exact Nat.le_refl _ | (simp; done) | (simp; omega) | omega) | refine Below.trans ?_ (Below.mono (by assumption) (by first | exact Nat.le_refl _ | (simp; done) | (simp; omega) | omega))))) (by omega)
  have hbw : Below w.heap.size w (extW (w.alloc (.cells #[.int .i64 (W), .int .i64 (H), .slice a n c] 25)) E1 d1) := (by repeat (first | exact Below.refl _ _ | refine Below.drew ?_ | refine below_drewN ?_ _ | refine Below.alloc ?_ (by first | exact Nat.le_refl _ | (simp; done) | (simp; omega) | omega) _ | refine Below.setCell ?_ (by first | exact Nat.le_refl _ | (simp; done) | (simp; omega) | omega) _ | refine bExtW ?_ (by first | exact Nat.le_refl _ | (simp; done) | (simp; omega) | omega) | refine Below.trans ?_ (Below.mono (by assumption) (by first | exact Nat.le_refl _ | (simp; done) | (simp; omega) | omega))))
  obtain ⟨q, hqe⟩ : ∃ q, q = w.heap.size := ⟨_, rfl⟩
  rw [← hqe] at hq hbw ⊢
  generalize extW (w.alloc (.cells #[.int .i64 (W), .int .i64 (H), .slice a n c] 25)) E1 d1 = W1 at *
  have HQ := Lib.hid hq
  have HBW := Lib.hid hbw
  have HQE := Lib.hid hqe
  clear hq hbw hqe
  go_loopw [5, 6, 7] (fun o nx i wr => ∃ (y : Nat) (v : Value), y ≤ H ∧ o = v ∧ nx = .int .i64 ((gS R y).1.length) ∧ i = .int .i64 y ∧ wr.ownsRow W1.heap.size 3 1 v y (natV (gS R y).2) ∧ Below W1.heap.size W1 wr) (fun _ _ i _ => H - (intOf i).toNat)
  case atStart => exact ⟨0, _, Nat.zero_le _, rfl, rfl, rfl, World.ownsRow_nil _ _ _ _, Below.refl _ _⟩
  case round =>
    obtain ⟨y, v, hy, rfl, rfl, rfl, hown, hbel⟩ := hrel
    have hq := rowBelow HQ.out hbel HQ.out.lt
    have q0 : wr.cell? ⟨q, 0, none⟩ = some (.int .i64 (W)) := hq.cell (i := 0) (by omega)
    have q1 : wr.cell? ⟨q, 1, none⟩ = some (.int .i64 (H)) := hq.cell (i := 1) (by omega)
    have q2 : wr.cell? ⟨q, 2, none⟩ = some (.slice a n c) := hq.cell (i := 2) (by omega)
    have lq : LtW q wr := hq.lt
    obtain ⟨A, cp, rfl⟩ := own_form hown
    have HO := Lib.hid hown
    have HBE := Lib.hid hbel
    clear hown hbel hq
    by_cases hyH : y < H
    · have HI2 := Lib.hid (HI.out.below (by have h1 := HBW.out; rw [HQE.out] at h1; exact h1.trans (HBE.out.mono h1.size)))
      obtain ⟨L, hL⟩ : ∃ L, (gS R y).2 = L := ⟨_, rfl⟩
      have hLl : L.length = y := by rw [← hL, gS_len]
      have hints : IsInts wr A y (natI L) := by
        have h1 := HO.out
        rw [hL] at h1
        obtain ⟨A', c', e, h2⟩ := IsInts.of_nats (L := L) (by rw [hLl]; exact h1)
        injection e with e1 e2 e3
        subst e1
        rw [hLl] at h2
        exact h2
      obtain ⟨nx, hnx⟩ : ∃ k, (gS R y).1.length = k := ⟨_, rfl⟩
      have hnxy : nx ≤ y := by rw [← hnx]; exact gS_le R y
      have HK0 : Hid (kS R y 0 = nx) := Lib.hid hnx
      have HIN := Lib.hid hints
      have HL := Lib.hid hL
      have HNX := Lib.hid hnx
      have HLL := Lib.hid hLl
      rw [hnx]
      clear hints hL hnx hLl
      go_wp2_with fail
      go_loopw [8, 9] (fun k i wr' => ∃ z : Nat, z ≤ y ∧ k = .int .i64 (kS R y z) ∧ i = .int .i64 z ∧ Below wr.heap.size wr wr') (fun _ i _ => y - (intOf i).toNat)
      case atStart => exact ⟨0, Nat.zero_le _, by rw [HK0.out], rfl, Below.refl _ _⟩
      case round =>
        obtain ⟨z, hz, rfl, rfl, hb2⟩ := hrel
        have hkz := kS_le R y z hz
        obtain ⟨E2, d2, rfl⟩ := bExt hb2
        clear hb2
        by_cases hzy : z < y
        · have HRC := Lib.hid (fun wq h => HROW.out wq y z h hyH (by omega))
          have HKS : Hid (kS R y (z+1) = if R y = R z then L.getD z 0 else kS R y z) := Lib.hid (by rw [← HL.out]; rfl)
          go_wp2_with fail
          refine (HRC.out _ (HI2.out.below (by repeat (first | exact Below.refl _ _ | refine Below.drew ?_ | refine below_drewN ?_ _ | refine Below.alloc ?_ (by first | exact Nat.le_refl _ | (simp; done) | (simp; omega) | omega) _ | refine Below.setCell ?_ (by first | exact Nat.le_refl _ | (simp; done) | (simp; omega) | omega) _ | refine bExtW ?_ (by first | exact Nat.le_refl _ | (simp; done) | (simp; omega) | omega) | refine Below.trans ?_ (Below.mono (by assumption) (by first | exact Nat.le_refl _ | (simp; done) | (simp; omega) | omega)))))).mono ?_
          rintro r wx ⟨rfl, hb⟩
          obtain ⟨E3, d3, rfl⟩ := bExt hb
          clear hb
          by_cases he : R y = R z
          · have hd : decide (R y = R z) = true := by simpa using he
            obtain ⟨b, o, rfl, hlb, hc⟩ := HIN.out.2 (by omega)
            have cz := hc z hzy
            rw [natI_getD] at cz
            rw [hd]
            have HE := Lib.hid he
            have lb : LtW b wr := hlb
            clear he hc hd hlb
            generalize kS R y z = kz at *
            go_wp2
            go_roundw
            case rel => exact ⟨z + 1, by omega, by rw [HKS.out, if_pos HE.out, List.getD_eq_getElem?_getD], by go_num, (by repeat (first | exact Below.refl _ _ | refine Below.drew ?_ | refine below_drewN ?_ _ | refine Below.alloc ?_ (by first | exact Nat.le_refl _ | (simp; done) | (simp; omega) | omega) _ | refine Below.setCell ?_ (by first | exact Nat.le_refl _ | (simp; done) | (simp; omega) | omega) _ | refine bExtW ?_ (by first | exact Nat.le_refl _ | (simp; done) | (simp; omega) | omega) | refine Below.trans ?_ (Below.mono (by assumption) (by first | exact Nat.le_refl _ | (simp; done) | (simp; omega) | omega))))⟩
            case measure => simp [intOf]; omega
          · have hd : decide (R y = R z) = false := by simpa using he
            rw [hd]
            have HE := Lib.hid he
            clear he hd
            obtain ⟨kz, hkz2⟩ : ∃ k, kS R y z = k := ⟨_, rfl⟩
            rw [hkz2] at hkz ⊢
            have HKZ := Lib.hid hkz2
            clear hkz2
            go_wp2
            go_roundw
            case rel => exact ⟨z + 1, by omega, by rw [HKS.out, if_neg HE.out, HKZ.out], by go_num, (by repeat (first | exact Below.refl _ _ | refine Below.drew ?_ | refine below_drewN ?_ _ | refine Below.alloc ?_ (by first | exact Nat.le_refl _ | (simp; done) | (simp; omega) | omega) _ | refine Below.setCell ?_ (by first | exact Nat.le_refl _ | (simp; done) | (simp; omega) | omega) _ | refine bExtW ?_ (by first | exact Nat.le_refl _ | (simp; done) | (simp; omega) | omega) | refine Below.trans ?_ (Below.mono (by assumption) (by first | exact Nat.le_refl _ | (simp; done) | (simp; omega) | omega))))⟩
            case measure => simp [intOf]; omega
        · obtain rfl : y = z := by omega
          rw [kS_all] at hkz ⊢
          have HS1 : Hid ((gS R (y+1)).2 = L ++ [fIdx (gS R y).1 (R y)]) := Lib.hid (by rw [gS_succ, HL.out])
          have HS2 : Hid ((gS R (y+1)).1.length = if fIdx (gS R y).1 (R y) < nx then nx else nx + 1) := Lib.hid (by
            rw [gS_succ, ← HNX.out]
            simp only
            split <;> simp)
          have hfl : fIdx (gS R y).1 (R y) ≤ nx := by rw [← HNX.out]; exact fIdx_le _ _
          generalize fIdx (gS R y).1 (R y) = k at *
          have HOX := Lib.hid (ownBelow HO.out (show Below wr.heap.size wr (extW wr E2 d2) from (by repeat (first | exact Below.refl _ _ | refine Below.drew ?_ | refine below_drewN ?_ _ | refine Below.alloc ?_ (by first | exact Nat.le_refl _ | (simp; done) | (simp; omega) | omega) _ | refine Below.setCell ?_ (by first | exact Nat.le_refl _ | (simp; done) | (simp; omega) | omega) _ | refine bExtW ?_ (by first | exact Nat.le_refl _ | (simp; done) | (simp; omega) | omega) | refine Below.trans ?_ (Below.mono (by assumption) (by first | exact Nat.le_refl _ | (simp; done) | (simp; omega) | omega))))))
          rw [HL.out] at HOX
          have HBX := Lib.hid (HBE.out.trans ((show Below wr.heap.size wr (extW wr E2 d2) from (by repeat (first | exact Below.refl _ _ | refine Below.drew ?_ | refine below_drewN ?_ _ | refine Below.alloc ?_ (by first | exact Nat.le_refl _ | (simp; done) | (simp; omega) | omega) _ | refine Below.setCell ?_ (by first | exact Nat.le_refl _ | (simp; done) | (simp; omega) | omega) _ | refine bExtW ?_ (by first | exact Nat.le_refl _ | (simp; done) | (simp; omega) | omega) | refine Below.trans ?_ (Below.mono (by assumption) (by first | exact Nat.le_refl _ | (simp; done) | (simp; omega) | omega))))).mono HBE.out.size))
          have hsx : W1.heap.size ≤ (extW wr E2 d2).heap.size := HBX.out.size
          clear q0 q1 q2 lq HIN HI2
          generalize extW wr E2 d2 = W2 at *
          by_cases hkn : k < nx
          · have hd1 : ((k : Int) == (nx : Int)) = false := by simp; omega
            rw [if_pos hkn] at HS2
            go_wp2_with (at_builtin; refine wpApp okInts' rfl (.tmp 40) (.tmp 42) rfl W1.heap.size _ _ _ #[.int .i64 k] rfl HOX.out rfl rfl ?_ (by omega) (by omega) hsx ?_)
            · simp [Value.oneCell']
            intro v' w2 hown2 hb2
            have HB2 := Lib.hid (HBX.out.trans hb2)
            have HO2 := Lib.hid hown2
            clear hown2 hb2
            go_wp2
            go_roundw
            case rel => exact ⟨y + 1, _, by omega, rfl, by rw [HS2.out], by go_num, by rw [HS1.out, natV_snoc]; exact HO2.out, HB2.out⟩
            case measure => simp [intOf]; omega
          · obtain rfl : k = nx := by omega
            rw [if_neg (Nat.lt_irrefl _)] at HS2
            go_wp2_with (at_builtin; refine wpApp okInts' rfl (.tmp 40) (.tmp 42) rfl W1.heap.size _ _ _ #[.int .i64 k] rfl HOX.out rfl rfl ?_ (by omega) (by omega) hsx ?_)
            · simp [Value.oneCell']
            intro v' w2 hown2 hb2
            have HB2 := Lib.hid (HBX.out.trans hb2)
            have HO2 := Lib.hid hown2
            clear hown2 hb2
            go_wp2
            go_roundw
            case rel => exact ⟨y + 1, _, by omega, rfl, by rw [HS2.out]; go_num, by go_num, by rw [HS1.out, natV_snoc]; exact HO2.out, HB2.out⟩
            case measure => simp [intOf]; omega
    · obtain rfl : H = y := by omega
      have hlen : (gS R H).2.length = H := HLEN.out
      obtain ⟨L, hL⟩ : ∃ L, (gS R H).2 = L := ⟨_, rfl⟩
      rw [hL] at hlen
      have h1 := HO.out
      rw [hL] at h1
      obtain ⟨A', c', e, hI2, hIb⟩ := IsInts.of_natsB (L := L) (by rw [hlen]; exact h1)
      injection e with e1 e2 e3
      subst e1
      have HII := Lib.hid hI2
      have HIB := Lib.hid hIb
      have HL := Lib.hid hL
      have HLL := Lib.hid hlen
      clear hI2 hIb h1 hL hlen e2 e3
      generalize (gS R H).1.length = nx at *
      go_wp2
      refine bodyPost_ret (v := .tuple #[.slice A H cp, .int .i64 (0)]) (by simp [results, Try.results57, go_sem]) rfl ?_
      rw [HL.out]
      refine ⟨A, cp, by rw [HLL.out], HII.out, ?_, ?_⟩
      · have h1 := HBW.out
        rw [HQE.out] at h1
        exact h1.trans (HBE.out.mono h1.size)
      · intro b o e
        have h2 := HIB.out b o e
        have h3 := HBW.out.size
        have h4 := HQE.out
        omega
theorem rAlike_ok (W H n : Nat) (hn : n = W * H) (a : Option Addr) (c : Nat) (bs : List Bool) (w : World) (hT : OkT w a n c bs) (hW : W ≤ 64) (hH : H ≤ 64) :
    Calls Try.prog 57 #[.agg #[.int .i64 (W), .int .i64 (H), .slice a n c]] w (IntsPost (alikeL W H bs) w) := (rAlike_okG W H n hn a c bs w hT hW hH).mono fun r w' h => by
  obtain ⟨A, C, e, hI, hb, _⟩ := h
  exact ⟨A, C, e, hI, hb⟩
end Go.Proofs.Ytkffljkgblcgdaa
