/- Lemmas and contracts of functions (what each call returns, and that it changes nothing that was there) that the proof of a law of this seat uses; each lemma states its own conditions. -/
import Derived.Test.YtikddfjickkhhaaEv2
import Derived.Test.YtikddfjickkhhaaQ6
namespace Go.Proofs.Ytikddfjickkhhaa
open Go.RowKit
set_option linter.unusedVariables false
set_option linter.unusedSimpArgs false
open Lo
set_option maxRecDepth 100000 in
set_option maxHeartbeats 8000000 in
theorem Even_bad (W H : Int) (a : Option Addr) (n c : Nat) (w : World) (h1 : (-9223372036854775808 ≤ W ∧ W ≤ 9223372036854775807)) (h2 : (-9223372036854775808 ≤ H ∧ H ≤ 9223372036854775807)) (h3 : n ≤ 9223372036854775807) (he : wrT W H n ≠ 0) :
    Calls Try.prog 37 #[.agg #[.int .i64 (W), .int .i64 (H), .slice a n c]] w fun e w' => e = .returned (.tuple #[.bool false, .int .i64 (wrT W H n)]) ∧ Below w.heap.size w w' := by
  have hb : (wrT W H n != 0) = true := by simpa using he
  have HS := Lib.hid (fun w => Turned_bad W H a n c w h1 h2 h3 he)
  clear he
  generalize wrT W H n = we at *
  go_enter Try.func37, Try.ntmps37
  (go_wp2_with fail; refine (HS.out _).mono ?_; rintro r w1 ⟨rfl, hb⟩; obtain ⟨E, d, rfl⟩ := bExt hb; clear hb)
  go_wp2
  refine bodyPost_ret (v := .tuple #[.bool false, .int .i64 (we)]) (by simp [results, Try.results37, go_sem]) rfl ⟨rfl, (by repeat (first | exact Below.refl _ _ | refine Below.drew ?_ | refine below_drewN ?_ _ | refine Below.alloc ?_ (by first | exact Nat.le_refl _ | (simp; done) | (simp; omega) | omega) _ | refine Below.setCell ?_ (by first | exact Nat.le_refl _ | (simp; done) | (simp; omega) | omega) _ | refine bExtW ?_ (by first | exact Nat.le_refl _ | (simp; done) | (simp; omega) | omega) | refine Below.trans ?_ (Below.mono (by assumption) (by first | exact Nat.le_refl _ | (simp; done) | (simp; omega) | omega))))⟩
set_option maxRecDepth 100000 in
set_option maxHeartbeats 8000000 in
theorem rEven_bad (W H : Int) (a : Option Addr) (n c : Nat) (w : World) (h1 : (-9223372036854775808 ≤ W ∧ W ≤ 9223372036854775807)) (h2 : (-9223372036854775808 ≤ H ∧ H ≤ 9223372036854775807)) (h3 : n ≤ 9223372036854775807) (he : wrT W H n ≠ 0) :
    Calls Try.prog 38 #[.agg #[.int .i64 (W), .int .i64 (H), .slice a n c]] w fun e w' => e = .returned (.tuple #[.bool false, .int .i64 (wrT W H n)]) ∧ Below w.heap.size w w' := by
  have hb : (wrT W H n != 0) = true := by simpa using he
  have HS := Lib.hid (fun w => r5Wrong_any W H a n c w h1 h2 h3)
  clear he
  generalize wrT W H n = we at *
  go_enter Try.func38, Try.ntmps38
  (go_wp2_with fail; refine (HS.out _).mono ?_; rintro r w1 ⟨rfl, hb⟩; obtain ⟨E, d, rfl⟩ := bExt hb; clear hb)
  go_wp2
  refine bodyPost_ret (v := .tuple #[.bool false, .int .i64 (we)]) (by simp [results, Try.results38, go_sem]) rfl ⟨rfl, (by repeat (first | exact Below.refl _ _ | refine Below.drew ?_ | refine below_drewN ?_ _ | refine Below.alloc ?_ (by first | exact Nat.le_refl _ | (simp; done) | (simp; omega) | omega) _ | refine Below.setCell ?_ (by first | exact Nat.le_refl _ | (simp; done) | (simp; omega) | omega) _ | refine bExtW ?_ (by first | exact Nat.le_refl _ | (simp; done) | (simp; omega) | omega) | refine Below.trans ?_ (Below.mono (by assumption) (by first | exact Nat.le_refl _ | (simp; done) | (simp; omega) | omega))))⟩
set_option maxRecDepth 100000 in
set_option maxHeartbeats 8000000 in
theorem Even_ok (W H n : Nat) (hn : n = W * H) (a : Option Addr) (c : Nat) (bs : List Bool) (w : World) (hT : OkT w a n c bs) (hW : W ≤ 64) (hH : H ≤ 64) :
    Calls Try.prog 37 #[.agg #[.int .i64 (W), .int .i64 (H), .slice a n c]] w fun e w' => e = .returned (.tuple #[.bool (evL W H bs && evL H W (turnL W H bs)), .int .i64 (0)]) ∧ Below w.heap.size w w' := by
  have HT1 := Lib.hid (fun w h => Turned_any W H n hn a c bs w h hW hH)
  have HE1 := Lib.hid (fun w h => even_ok W H n hn a c bs w h hW hH)
  have HE2 := Lib.hid (fun w g h => even_ok H W n (by rw [hn, Nat.mul_comm]) (some ⟨g, 0, none⟩) n (turnL W H bs) w h hH hW)
  have HT := Lib.hid hT
  clear hT hn
  generalize turnL W H bs = tl at *
  generalize evL W H bs = b1 at *
  generalize evL H W tl = b2 at *
  go_enter Try.func37, Try.ntmps37
  go_wp2_with fail
  refine (HT1.out _ (HT.out.below (by repeat (first | exact Below.refl _ _ | refine Below.drew ?_ | refine below_drewN ?_ _ | refine Below.alloc ?_ (by first | exact Nat.le_refl _ | (simp; done) | (simp; omega) | omega) _ | refine Below.setCell ?_ (by first | exact Nat.le_refl _ | (simp; done) | (simp; omega) | omega) _ | refine bExtW ?_ (by first | exact Nat.le_refl _ | (simp; done) | (simp; omega) | omega) | refine Below.trans ?_ (Below.mono (by assumption) (by first | exact Nat.le_refl _ | (simp; done) | (simp; omega) | omega)))))).mono ?_
  rintro r wx ⟨g1, rfl, hT, hb⟩
  obtain ⟨E1, d1, rfl⟩ := bExt hb
  have HX1 := Lib.hid hT
  clear hb hT
  (go_wp2_with fail; refine (HE1.out _ (HT.out.below (by repeat (first | exact Below.refl _ _ | refine Below.drew ?_ | refine below_drewN ?_ _ | refine Below.alloc ?_ (by first | exact Nat.le_refl _ | (simp; done) | (simp; omega) | omega) _ | refine Below.setCell ?_ (by first | exact Nat.le_refl _ | (simp; done) | (simp; omega) | omega) _ | refine bExtW ?_ (by first | exact Nat.le_refl _ | (simp; done) | (simp; omega) | omega) | refine Below.trans ?_ (Below.mono (by assumption) (by first | exact Nat.le_refl _ | (simp; done) | (simp; omega) | omega)))))).mono ?_; rintro r w1 ⟨rfl, hb⟩; obtain ⟨E, d, rfl⟩ := bExt hb; clear hb)
  cases b1 with
  | true =>
    (go_wp2_with fail; refine (HE2.out _ g1 (HX1.out.below (by repeat (first | exact Below.refl _ _ | refine Below.drew ?_ | refine below_drewN ?_ _ | refine Below.alloc ?_ (by first | exact Nat.le_refl _ | (simp; done) | (simp; omega) | omega) _ | refine Below.setCell ?_ (by first | exact Nat.le_refl _ | (simp; done) | (simp; omega) | omega) _ | refine bExtW ?_ (by first | exact Nat.le_refl _ | (simp; done) | (simp; omega) | omega) | refine Below.trans ?_ (Below.mono (by assumption) (by first | exact Nat.le_refl _ | (simp; done) | (simp; omega) | omega)))))).mono ?_; rintro r w1 ⟨rfl, hb⟩; obtain ⟨E, d, rfl⟩ := bExt hb; clear hb)
    go_wp2
    refine bodyPost_ret (v := .tuple #[.bool b2, .int .i64 (0)]) (by simp [results, Try.results37, go_sem]) rfl ⟨by simp, (by repeat (first | exact Below.refl _ _ | refine Below.drew ?_ | refine below_drewN ?_ _ | refine Below.alloc ?_ (by first | exact Nat.le_refl _ | (simp; done) | (simp; omega) | omega) _ | refine Below.setCell ?_ (by first | exact Nat.le_refl _ | (simp; done) | (simp; omega) | omega) _ | refine bExtW ?_ (by first | exact Nat.le_refl _ | (simp; done) | (simp; omega) | omega) | refine Below.trans ?_ (Below.mono (by assumption) (by first | exact Nat.le_refl _ | (simp; done) | (simp; omega) | omega))))⟩
  | false =>
    go_wp2
    refine bodyPost_ret (v := .tuple #[.bool false, .int .i64 (0)]) (by simp [results, Try.results37, go_sem]) rfl ⟨by simp, (by repeat (first | exact Below.refl _ _ | refine Below.drew ?_ | refine below_drewN ?_ _ | refine Below.alloc ?_ (by first | exact Nat.le_refl _ | (simp; done) | (simp; omega) | omega) _ | refine Below.setCell ?_ (by first | exact Nat.le_refl _ | (simp; done) | (simp; omega) | omega) _ | refine bExtW ?_ (by first | exact Nat.le_refl _ | (simp; done) | (simp; omega) | omega) | refine Below.trans ?_ (Below.mono (by assumption) (by first | exact Nat.le_refl _ | (simp; done) | (simp; omega) | omega))))⟩
set_option maxRecDepth 100000 in
set_option maxHeartbeats 8000000 in
theorem rEven_ok (W H n : Nat) (hn : n = W * H) (a : Option Addr) (c : Nat) (bs : List Bool) (w : World) (hT : OkT w a n c bs) (hW : W ≤ 64) (hH : H ≤ 64) :
    Calls Try.prog 38 #[.agg #[.int .i64 (W), .int .i64 (H), .slice a n c]] w fun e w' => e = .returned (.tuple #[.bool (evL W H bs && evL H W (turnL W H bs)), .int .i64 (0)]) ∧ Below w.heap.size w w' := by
  have hn4 : n ≤ 4096 := by rw [hn]; exact mul64n hW hH
  have hz : wrT W H n = 0 := by rw [hn]; exact wrT_ok hW hH
  have HWR := Lib.hid (fun w => r5Wrong_any W H a n c w (wfN W hW) (wfN H hH) (by omega))
  rw [hz] at HWR
  have HI := Lib.hid hT.bits
  have HR1 : Hid (∀ (w : World) (y : Nat), IsBools w a n bs → y < H → Calls Try.prog 71 #[.agg #[.int .i64 (W), .int .i64 (H), .slice a n c], .int .i64 (y), .bool false] w fun e w' => e = .returned (.int .i64 (cn (rb bs W y) W)) ∧ Below w.heap.size w w') := Lib.hid fun w y h hy => by
    have := In_ok W H n hn a c bs y false w h hW hH (by omega)
    rwa [inC_row, if_pos hy] at this
  have HC1 : Hid (∀ (w : World) (x : Nat), IsBools w a n bs → x < W → Calls Try.prog 71 #[.agg #[.int .i64 (W), .int .i64 (H), .slice a n c], .int .i64 (x), .bool true] w fun e w' => e = .returned (.int .i64 (cn (rb (turnL W H bs) H x) H)) ∧ Below w.heap.size w w') := Lib.hid fun w x h hx => by
    have := In_ok W H n hn a c bs x true w h hW hH (by omega)
    rwa [inC_col hx, ← turn_col hx] at this
  have HV1 : Hid (evL W H bs = decide (∀ y, y < H → cn (rb bs W y) W = cn (rb bs W 0) W)) := Lib.hid rfl
  have HV2 : Hid (evL H W (turnL W H bs) = decide (∀ y, y < W → cn (rb (turnL W H bs) H y) H = cn (rb (turnL W H bs) H 0) H)) := Lib.hid rfl
  clear hT hn hz
  generalize turnL W H bs = tl at *
  go_enter Try.func38, Try.ntmps38
  (go_wp2_with fail; refine (HWR.out _).mono ?_; rintro r w1 ⟨rfl, hb⟩; obtain ⟨E, d, rfl⟩ := bExt hb; clear hb)
  go_wp2_with fail
  go_loopw [5] (fun i wr => ∃ (y : Nat) (E : Array Obj) (d : Nat), 1 ≤ y ∧ y ≤ 65 ∧ i = .int .i64 y ∧ (∀ j, j < y → j < H → cn (rb bs W j) W = cn (rb bs W 0) W) ∧ wr = extW (w.alloc (.cells #[.int .i64 (W), .int .i64 (H), .slice a n c] 26)) E d) (fun i _ => H - (intOf i).toNat)
  case atStart => exact ⟨1, _, _, by omega, by omega, rfl, fun j h _ => by
    obtain rfl : j = 0 := by omega
    rfl, rfl⟩
  case round =>
    obtain ⟨y, E, d, hy1, hy, rfl, hrun, rfl⟩ := hrel
    have HRUN := Lib.hid hrun
    clear hrun
    by_cases hyH : y < H
    · have HA1 := Lib.hid (fun wq h => HR1.out wq y h hyH)
      have HA0 : Hid (∀ wq, IsBools wq a n bs → Calls Try.prog 71 #[.agg #[.int .i64 (W), .int .i64 (H), .slice a n c], .int .i64 0, .bool false] wq fun e w' => e = .returned (.int .i64 (cn (rb bs W 0) W)) ∧ Below wq.heap.size wq w') := Lib.hid (fun wq h => HR1.out wq 0 h (by omega))
      obtain ⟨k, hk⟩ : ∃ k, cn (rb bs W y) W = k := ⟨_, rfl⟩
      obtain ⟨k0, hk0⟩ : ∃ k, cn (rb bs W 0) W = k := ⟨_, rfl⟩
      rw [hk] at HA1
      rw [hk0] at HA0
      have HK := Lib.hid hk
      have HK0 := Lib.hid hk0
      clear hk hk0
      by_cases hkk : k = k0
      · have hd : ((k : Int) == (k0 : Int)) = true := by simp [hkk]
        have HKK := Lib.hid hkk
        clear hkk
        go_wp2_with fail
        (refine wp_region_ext (by kernel_rfl) (by kernel_rfl) ?_; (repeat (first | ((with_reducible refine ext_step (fun K hK => ?_)); go_simp; first | (refine hK _ ?_; clear hK K) | (apply Exists.intro; refine ⟨fun _ _ => ?_, hK _ ?_⟩; fail; clear hK K)))); ((with_reducible refine ext_step (fun K hK => ?_)); go_simp; (apply Exists.intro; refine ⟨fun _ _ => ?_, hK _ ?_⟩; (go_at_call 71; exact extOf (HA1.out _ (HI.out.below (by repeat (first | exact Below.refl _ _ | refine Below.drew ?_ | refine below_drewN ?_ _ | refine Below.alloc ?_ (by first | exact Nat.le_refl _ | (simp; done) | (simp; omega) | omega) _ | refine Below.setCell ?_ (by first | exact Nat.le_refl _ | (simp; done) | (simp; omega) | omega) _ | refine bExtW ?_ (by first | exact Nat.le_refl _ | (simp; done) | (simp; omega) | omega) | refine Below.trans ?_ (Below.mono (by assumption) (by first | exact Nat.le_refl _ | (simp; done) | (simp; omega) | omega))))))); clear hK K)); (repeat (first | ((with_reducible refine ext_step (fun K hK => ?_)); go_simp; first | (refine hK _ ?_; clear hK K) | (apply Exists.intro; refine ⟨fun _ _ => ?_, hK _ ?_⟩; fail; clear hK K)))); ((with_reducible refine ext_step (fun K hK => ?_)); go_simp; (apply Exists.intro; refine ⟨fun _ _ => ?_, hK _ ?_⟩; (go_at_call 71; exact extOf (HA0.out _ (HI.out.below (by repeat (first | exact Below.refl _ _ | refine Below.drew ?_ | refine below_drewN ?_ _ | refine Below.alloc ?_ (by first | exact Nat.le_refl _ | (simp; done) | (simp; omega) | omega) _ | refine Below.setCell ?_ (by first | exact Nat.le_refl _ | (simp; done) | (simp; omega) | omega) _ | refine bExtW ?_ (by first | exact Nat.le_refl _ | (simp; done) | (simp; omega) | omega) | refine Below.trans ?_ (Below.mono (by assumption) (by first | exact Nat.le_refl _ | (simp; done) | (simp; omega) | omega))))))); clear hK K)); (repeat (first | ((with_reducible refine ext_step (fun K hK => ?_)); go_simp; first | (refine hK _ ?_; clear hK K) | (apply Exists.intro; refine ⟨fun _ _ => ?_, hK _ ?_⟩; fail; clear hK K)))); refine wpQuiet_nil ?_; intro E d)
        go_wp2
        go_roundw
        case rel => exact ⟨y + 1, _, _, by omega, by omega, by go_num, fun j hj hjH => by
          rcases Nat.lt_or_ge j y with h | h
          · exact HRUN.out j h hjH
          · obtain rfl : j = y := by omega
            rw [HK.out, HK0.out, HKK.out], by simp only [extW_extW]; rfl⟩
        case measure => simp [intOf]; omega
      · have hd : ((k : Int) == (k0 : Int)) = false := by simp; omega
        have HNE : Hid (¬ ∀ y, y < H → cn (rb bs W y) W = cn (rb bs W 0) W) := Lib.hid fun h => hkk (by rw [← HK.out, ← HK0.out]; exact h y hyH)
        clear hkk
        go_wp2_with fail
        (refine wp_region_ext (by kernel_rfl) (by kernel_rfl) ?_; (repeat (first | ((with_reducible refine ext_step (fun K hK => ?_)); go_simp; first | (refine hK _ ?_; clear hK K) | (apply Exists.intro; refine ⟨fun _ _ => ?_, hK _ ?_⟩; fail; clear hK K)))); ((with_reducible refine ext_step (fun K hK => ?_)); go_simp; (apply Exists.intro; refine ⟨fun _ _ => ?_, hK _ ?_⟩; (go_at_call 71; exact extOf (HA1.out _ (HI.out.below (by repeat (first | exact Below.refl _ _ | refine Below.drew ?_ | refine below_drewN ?_ _ | refine Below.alloc ?_ (by first | exact Nat.le_refl _ | (simp; done) | (simp; omega) | omega) _ | refine Below.setCell ?_ (by first | exact Nat.le_refl _ | (simp; done) | (simp; omega) | omega) _ | refine bExtW ?_ (by first | exact Nat.le_refl _ | (simp; done) | (simp; omega) | omega) | refine Below.trans ?_ (Below.mono (by assumption) (by first | exact Nat.le_refl _ | (simp; done) | (simp; omega) | omega))))))); clear hK K)); (repeat (first | ((with_reducible refine ext_step (fun K hK => ?_)); go_simp; first | (refine hK _ ?_; clear hK K) | (apply Exists.intro; refine ⟨fun _ _ => ?_, hK _ ?_⟩; fail; clear hK K)))); ((with_reducible refine ext_step (fun K hK => ?_)); go_simp; (apply Exists.intro; refine ⟨fun _ _ => ?_, hK _ ?_⟩; (go_at_call 71; exact extOf (HA0.out _ (HI.out.below (by repeat (first | exact Below.refl _ _ | refine Below.drew ?_ | refine below_drewN ?_ _ | refine Below.alloc ?_ (by first | exact Nat.le_refl _ | (simp; done) | (simp; omega) | omega) _ | refine Below.setCell ?_ (by first | exact Nat.le_refl _ | (simp; done) | (simp; omega) | omega) _ | refine bExtW ?_ (by first | exact Nat.le_refl _ | (simp; done) | (simp; omega) | omega) | refine Below.trans ?_ (Below.mono (by assumption) (by first | exact Nat.le_refl _ | (simp; done) | (simp; omega) | omega))))))); clear hK K)); (repeat (first | ((with_reducible refine ext_step (fun K hK => ?_)); go_simp; first | (refine hK _ ?_; clear hK K) | (apply Exists.intro; refine ⟨fun _ _ => ?_, hK _ ?_⟩; fail; clear hK K)))); refine wpQuiet_nil ?_; intro E d)
        go_wp2
        refine bodyPost_ret (v := .tuple #[.bool false, .int .i64 (0)]) (by simp [results, Try.results38, go_sem]) rfl ⟨by rw [HV1.out, decide_eq_false HNE.out]; rfl, (by repeat (first | exact Below.refl _ _ | refine Below.drew ?_ | refine below_drewN ?_ _ | refine Below.alloc ?_ (by first | exact Nat.le_refl _ | (simp; done) | (simp; omega) | omega) _ | refine Below.setCell ?_ (by first | exact Nat.le_refl _ | (simp; done) | (simp; omega) | omega) _ | refine bExtW ?_ (by first | exact Nat.le_refl _ | (simp; done) | (simp; omega) | omega) | refine Below.trans ?_ (Below.mono (by assumption) (by first | exact Nat.le_refl _ | (simp; done) | (simp; omega) | omega))))⟩
    · have HE1 : Hid (evL W H bs = true) := Lib.hid (by rw [HV1.out, decide_eq_true (fun j hj => HRUN.out j (by omega) hj)])
      clear HR1 HV1 HRUN
      go_wp2_with fail
      go_loopw [6] (fun i wr => ∃ (x : Nat) (E : Array Obj) (d : Nat), 1 ≤ x ∧ x ≤ 65 ∧ i = .int .i64 x ∧ (∀ j, j < x → j < W → cn (rb tl H j) H = cn (rb tl H 0) H) ∧ wr = extW (w.alloc (.cells #[.int .i64 (W), .int .i64 (H), .slice a n c] 26)) E d) (fun i _ => W - (intOf i).toNat)
      case atStart => exact ⟨1, _, _, by omega, by omega, rfl, fun j h _ => by
        obtain rfl : j = 0 := by omega
        rfl, rfl⟩
      case round =>
        obtain ⟨x, E, d, hx1, hx, rfl, hrun, rfl⟩ := hrel
        have HRUN := Lib.hid hrun
        clear hrun
        by_cases hxW : x < W
        · have HA1 := Lib.hid (fun wq h => HC1.out wq x h hxW)
          have HA0 : Hid (∀ wq, IsBools wq a n bs → Calls Try.prog 71 #[.agg #[.int .i64 (W), .int .i64 (H), .slice a n c], .int .i64 0, .bool true] wq fun e w' => e = .returned (.int .i64 (cn (rb tl H 0) H)) ∧ Below wq.heap.size wq w') := Lib.hid (fun wq h => HC1.out wq 0 h (by omega))
          obtain ⟨k, hk⟩ : ∃ k, cn (rb tl H x) H = k := ⟨_, rfl⟩
          obtain ⟨k0, hk0⟩ : ∃ k, cn (rb tl H 0) H = k := ⟨_, rfl⟩
          rw [hk] at HA1
          rw [hk0] at HA0
          have HK := Lib.hid hk
          have HK0 := Lib.hid hk0
          clear hk hk0
          by_cases hkk : k = k0
          · have hd : ((k : Int) == (k0 : Int)) = true := by simp [hkk]
            have HKK := Lib.hid hkk
            clear hkk
            go_wp2_with fail
            (refine wp_region_ext (by kernel_rfl) (by kernel_rfl) ?_; (repeat (first | ((with_reducible refine ext_step (fun K hK => ?_)); go_simp; first | (refine hK _ ?_; clear hK K) | (apply Exists.intro; refine ⟨fun _ _ => ?_, hK _ ?_⟩; fail; clear hK K)))); ((with_reducible refine ext_step (fun K hK => ?_)); go_simp; (apply Exists.intro; refine ⟨fun _ _ => ?_, hK _ ?_⟩; (go_at_call 71; exact extOf (HA1.out _ (HI.out.below (by repeat (first | exact Below.refl _ _ | refine Below.drew ?_ | refine below_drewN ?_ _ | refine Below.alloc ?_ (by first | exact Nat.le_refl _ | (simp; done) | (simp; omega) | omega) _ | refine Below.setCell ?_ (by first | exact Nat.le_refl _ | (simp; done) | (simp; omega) | omega) _ | refine bExtW ?_ (by first | exact Nat.le_refl _ | (simp; done) | (simp; omega) | omega) | refine Below.trans ?_ (Below.mono (by assumption) (by first | exact Nat.le_refl _ | (simp; done) | (simp; omega) | omega))))))); clear hK K)); (repeat (first | ((with_reducible refine ext_step (fun K hK => ?_)); go_simp; first | (refine hK _ ?_; clear hK K) | (apply Exists.intro; refine ⟨fun _ _ => ?_, hK _ ?_⟩; fail; clear hK K)))); ((with_reducible refine ext_step (fun K hK => ?_)); go_simp; (apply Exists.intro; refine ⟨fun _ _ => ?_, hK _ ?_⟩; (go_at_call 71; exact extOf (HA0.out _ (HI.out.below (by repeat (first | exact Below.refl _ _ | refine Below.drew ?_ | refine below_drewN ?_ _ | refine Below.alloc ?_ (by first | exact Nat.le_refl _ | (simp; done) | (simp; omega) | omega) _ | refine Below.setCell ?_ (by first | exact Nat.le_refl _ | (simp; done) | (simp; omega) | omega) _ | refine bExtW ?_ (by first | exact Nat.le_refl _ | (simp; done) | (simp; omega) | omega) | refine Below.trans ?_ (Below.mono (by assumption) (by first | exact Nat.le_refl _ | (simp; done) | (simp; omega) | omega))))))); clear hK K)); (repeat (first | ((with_reducible refine ext_step (fun K hK => ?_)); go_simp; first | (refine hK _ ?_; clear hK K) | (apply Exists.intro; refine ⟨fun _ _ => ?_, hK _ ?_⟩; fail; clear hK K)))); refine wpQuiet_nil ?_; intro E d)
            go_wp2
            go_roundw
            case rel => exact ⟨x + 1, _, _, by omega, by omega, by go_num, fun j hj hjH => by
              rcases Nat.lt_or_ge j x with h | h
              · exact HRUN.out j h hjH
              · obtain rfl : j = x := by omega
                rw [HK.out, HK0.out, HKK.out], by simp only [extW_extW]; rfl⟩
            case measure => simp [intOf]; omega
          · have hd : ((k : Int) == (k0 : Int)) = false := by simp; omega
            have HNE : Hid (¬ ∀ y, y < W → cn (rb tl H y) H = cn (rb tl H 0) H) := Lib.hid fun h => hkk (by rw [← HK.out, ← HK0.out]; exact h x hxW)
            clear hkk
            go_wp2_with fail
            (refine wp_region_ext (by kernel_rfl) (by kernel_rfl) ?_; (repeat (first | ((with_reducible refine ext_step (fun K hK => ?_)); go_simp; first | (refine hK _ ?_; clear hK K) | (apply Exists.intro; refine ⟨fun _ _ => ?_, hK _ ?_⟩; fail; clear hK K)))); ((with_reducible refine ext_step (fun K hK => ?_)); go_simp; (apply Exists.intro; refine ⟨fun _ _ => ?_, hK _ ?_⟩; (go_at_call 71; exact extOf (HA1.out _ (HI.out.below (by repeat (first | exact Below.refl _ _ | refine Below.drew ?_ | refine below_drewN ?_ _ | refine Below.alloc ?_ (by first | exact Nat.le_refl _ | (simp; done) | (simp; omega) | omega) _ | refine Below.setCell ?_ (by first | exact Nat.le_refl _ | (simp; done) | (simp; omega) | omega) _ | refine bExtW ?_ (by first | exact Nat.le_refl _ | (simp; done) | (simp; omega) | omega) | refine Below.trans ?_ (Below.mono (by assumption) (by first | exact Nat.le_refl _ | (simp; done) | (simp; omega) | omega))))))); clear hK K)); (repeat (first | ((with_reducible refine ext_step (fun K hK => ?_)); go_simp; first | (refine hK _ ?_; clear hK K) | (apply Exists.intro; refine ⟨fun _ _ => ?_, hK _ ?_⟩; fail; clear hK K)))); ((with_reducible refine ext_step (fun K hK => ?_)); go_simp; (apply Exists.intro; refine ⟨fun _ _ => ?_, hK _ ?_⟩; (go_at_call 71; exact extOf (HA0.out _ (HI.out.below (by repeat (first | exact Below.refl _ _ | refine Below.drew ?_ | refine below_drewN ?_ _ | refine Below.alloc ?_ (by first | exact Nat.le_refl _ | (simp; done) | (simp; omega) | omega) _ | refine Below.setCell ?_ (by first | exact Nat.le_refl _ | (simp; done) | (simp; omega) | omega) _ | refine bExtW ?_ (by first | exact Nat.le_refl _ | (simp; done) | (simp; omega) | omega) | refine Below.trans ?_ (Below.mono (by assumption) (by first | exact Nat.le_refl _ | (simp; done) | (simp; omega) | omega))))))); clear hK K)); (repeat (first | ((with_reducible refine ext_step (fun K hK => ?_)); go_simp; first | (refine hK _ ?_; clear hK K) | (apply Exists.intro; refine ⟨fun _ _ => ?_, hK _ ?_⟩; fail; clear hK K)))); refine wpQuiet_nil ?_; intro E d)
            go_wp2
            refine bodyPost_ret (v := .tuple #[.bool false, .int .i64 (0)]) (by simp [results, Try.results38, go_sem]) rfl ⟨by rw [HE1.out, HV2.out, decide_eq_false HNE.out]; rfl, (by repeat (first | exact Below.refl _ _ | refine Below.drew ?_ | refine below_drewN ?_ _ | refine Below.alloc ?_ (by first | exact Nat.le_refl _ | (simp; done) | (simp; omega) | omega) _ | refine Below.setCell ?_ (by first | exact Nat.le_refl _ | (simp; done) | (simp; omega) | omega) _ | refine bExtW ?_ (by first | exact Nat.le_refl _ | (simp; done) | (simp; omega) | omega) | refine Below.trans ?_ (Below.mono (by assumption) (by first | exact Nat.le_refl _ | (simp; done) | (simp; omega) | omega))))⟩
        · have HE2 : Hid (evL H W tl = true) := Lib.hid (by rw [HV2.out, decide_eq_true (fun j hj => HRUN.out j (by omega) hj)])
          clear HC1 HV2 HRUN
          go_wp2
          refine bodyPost_ret (v := .tuple #[.bool true, .int .i64 (0)]) (by simp [results, Try.results38, go_sem]) rfl ⟨by rw [HE1.out, HE2.out]; rfl, (by repeat (first | exact Below.refl _ _ | refine Below.drew ?_ | refine below_drewN ?_ _ | refine Below.alloc ?_ (by first | exact Nat.le_refl _ | (simp; done) | (simp; omega) | omega) _ | refine Below.setCell ?_ (by first | exact Nat.le_refl _ | (simp; done) | (simp; omega) | omega) _ | refine bExtW ?_ (by first | exact Nat.le_refl _ | (simp; done) | (simp; omega) | omega) | refine Below.trans ?_ (Below.mono (by assumption) (by first | exact Nat.le_refl _ | (simp; done) | (simp; omega) | omega))))⟩
theorem EvenU (W H : Int) (a : Option Addr) (n c : Nat) (bs : List Bool) (u1 : (-9223372036854775808 ≤ W ∧ W ≤ 9223372036854775807)) (u2 : (-9223372036854775808 ≤ H ∧ H ≤ 9223372036854775807)) (u3 : n ≤ 9223372036854775807) :
    ∃ (b : Bool) (pe : Int), (∀ w, OkT w a n c bs → Calls Try.prog 37 #[.agg #[.int .i64 (W), .int .i64 (H), .slice a n c]] w fun e w' => e = .returned (.tuple #[.bool b, .int .i64 (pe)]) ∧ Below w.heap.size w w') ∧ (∀ w, OkT w a n c bs → Calls Try.prog 38 #[.agg #[.int .i64 (W), .int .i64 (H), .slice a n c]] w fun e w' => e = .returned (.tuple #[.bool b, .int .i64 (pe)]) ∧ Below w.heap.size w w') := by
  by_cases he : wrT W H n = 0
  · obtain ⟨W, H, rfl, rfl, hW, hH, hn⟩ := wrT_zero he
    exact ⟨_, _, fun w h => Even_ok W H n hn a c bs w h hW hH, fun w h => rEven_ok W H n hn a c bs w h hW hH⟩
  · exact ⟨_, _, fun w _ => Even_bad W H a n c w u1 u2 u3 he, fun w _ => rEven_bad W H a n c w u1 u2 u3 he⟩
end Go.Proofs.Ytikddfjickkhhaa
