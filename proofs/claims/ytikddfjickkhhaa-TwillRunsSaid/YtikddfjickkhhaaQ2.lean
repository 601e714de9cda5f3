/- Lemmas and contracts of functions (what each call returns, and that it changes nothing that was there) that the proof of a law of this seat uses; each lemma states its own conditions. -/
import Derived.Test.YtikddfjickkhhaaQ1
import Derived.Test.YtikddfjickkhhaaLo3
namespace Go.Proofs.Ytikddfjickkhhaa
open Go.RowKit
set_option linter.unusedVariables false
set_option linter.unusedSimpArgs false
open Lo
theorem extW_me (W : World) : W = extW W #[] W.drawn := by rw [extW_self]
def mx2 (a b : Nat) : Nat := max a b
theorem crun_is {f : Nat → Bool} {x k : Nat} (hk : k ≤ 65) (h1 : ∀ j, j < k → f (x + j) = true) (h2 : k = 65 ∨ f (x + k) = false) : crun f x 65 = k := by
  apply Nat.le_antisymm
  · rcases h2 with rfl | h2
    · exact crun_le f 65 x
    · apply Nat.le_of_not_lt
      intro h3
      rw [crun_all h3] at h2
      cases h2
  · exact crun_ge hk h1
set_option maxRecDepth 100000 in
set_option maxHeartbeats 8000000 in
theorem rRun_ok (W H n : Nat) (hn : n = W * H) (a : Option Addr) (c : Nat) (bs : List Bool) (y x : Nat) (of : Bool) (w : World) (hI : IsBools w a n bs) (hW : W ≤ 64) (hH : H ≤ 64) (hy : y < H) (hx : x < W) :
    Calls Try.prog 85 #[.agg #[.int .i64 (W), .int .i64 (H), .slice a n c], .int .i64 (y), .int .i64 (x), .bool of] w fun e w' => e = .returned (.int .i64 (crun (rf of W bs y) x 65)) ∧ Below w.heap.size w w' := by
  have hn4 : n ≤ 4096 := by rw [hn]; exact mul64n hW hH
  have HBIT := Lib.hid (fun w x p h1 h2 h3 (h4 : x ≤ 64) => rBit_ok W H n a c bs w h1 y x p h2 h3 hn4 (by omega) (by omega) (by omega))
  have HN := Lib.hid hn
  have HI := Lib.hid hI
  clear hI hn
  go_enter Try.func85, Try.ntmps85
  go_wp2_with fail
  go_loopw [9] (fun i wr => ∃ (k : Nat) (E : Array Obj) (d : Nat), k ≤ 65 ∧ i = .int .i64 k ∧ (∀ j, j < k → rf of W bs y (x + j) = true) ∧ wr = extW (w.alloc (.cells #[.int .i64 (W), .int .i64 (H), .slice a n c] 26)) E d) (fun i _ => 65 - (intOf i).toNat)
  case atStart => exact ⟨0, #[], (w.alloc (.cells #[.int .i64 (W), .int .i64 (H), .slice a n c] 26)).drawn, by omega, rfl, fun j h => absurd h (by omega), extW_me _⟩
  case round =>
    obtain ⟨k, E, d, hk, rfl, hrun, rfl⟩ := hrel
    have HRUN := Lib.hid hrun
    clear hrun
    by_cases hk65 : k < 65
    · obtain ⟨t, ht⟩ : ∃ t, x + k = t := ⟨_, rfl⟩
      have hadd : (x : Int) + (k : Int) = (t : Int) := by omega
      obtain ⟨r, hr⟩ : ∃ r, t % W = r := ⟨_, rfl⟩
      have hrW : r < W := by rw [← hr]; exact Nat.mod_lt _ (by omega)
      have hrem : (t : Int).tmod (W : Int) = (r : Int) := by rw [← hr]; rfl
      obtain ⟨p, hp⟩ : ∃ p, y * W + r = p := ⟨_, rfl⟩
      have hlt : p < n := by rw [HN.out, ← hp]; exact place_lt' hrW hy
      have HBC := Lib.hid (fun wq h => HBIT.out wq r p h hp hlt (by omega))
      obtain ⟨tt, htt⟩ : ∃ tt, rf of W bs y (x + k) = tt := ⟨_, rfl⟩
      have hbo : (bs.getD p false == of) = tt := by rw [← htt]; unfold rf; rw [ht, hr, hp]; rfl
      have HTT := Lib.hid htt
      have v1 : IntKind.i64.wrap (t : Int) = (t : Int) := IntWalk.i64_in _ (by omega)
      have v2 : IntKind.i64.wrap (r : Int) = (r : Int) := IntWalk.i64_in _ (by omega)
      have hN0 : ((W : Int) == 0) = false := by simp; omega
      have hN1 : (W : Int) ≠ 0 := by omega
      have hN3 : ¬ W = 0 := by omega
      have hd : decide ((k : Int) < 65) = true := by simp; omega
      have HTX := Lib.hid ht
      generalize bs.getD p false = bit at *
      clear htt ht hr hp
      go_wp2_with fail
      (refine wp_region_ext (by kernel_rfl) (by kernel_rfl) ?_; (repeat (first | ((with_reducible refine ext_step (fun K hK => ?_)); go_simp; first | (refine hK _ ?_; clear hK K) | (apply Exists.intro; refine ⟨fun _ _ => ?_, hK _ ?_⟩; (go_at_call 72; exact extOf (HBC.out _ (HI.out.below (by repeat (first | exact Below.refl _ _ | refine Below.drew ?_ | refine below_drewN ?_ _ | refine Below.alloc ?_ (by first | exact Nat.le_refl _ | (simp; done) | (simp; omega) | omega) _ | refine Below.setCell ?_ (by first | exact Nat.le_refl _ | (simp; done) | (simp; omega) | omega) _ | refine bExtW ?_ (by first | exact Nat.le_refl _ | (simp; done) | (simp; omega) | omega) | refine Below.trans ?_ (Below.mono (by assumption) (by first | exact Nat.le_refl _ | (simp; done) | (simp; omega) | omega))))))); clear hK K)))); refine wpQuiet_nil ?_; intro E d)
      cases tt with
      | true =>
        go_wp2
        go_roundw
        case rel => exact ⟨k + 1, _, _, by omega, by go_num, fun j hj => by
          rcases Nat.lt_or_ge j k with h | h
          · exact HRUN.out j h
          · obtain rfl : j = k := by omega
            exact HTT.out, by simp only [extW_extW]; rfl⟩
        case measure => simp [intOf]; omega
      | false =>
        go_wp2
        go_ret
        exact ⟨by rw [crun_is hk HRUN.out (.inr HTT.out)]; rfl, (by repeat (first | exact Below.refl _ _ | refine Below.drew ?_ | refine below_drewN ?_ _ | refine Below.alloc ?_ (by first | exact Nat.le_refl _ | (simp; done) | (simp; omega) | omega) _ | refine Below.setCell ?_ (by first | exact Nat.le_refl _ | (simp; done) | (simp; omega) | omega) _ | refine bExtW ?_ (by first | exact Nat.le_refl _ | (simp; done) | (simp; omega) | omega) | refine Below.trans ?_ (Below.mono (by assumption) (by first | exact Nat.le_refl _ | (simp; done) | (simp; omega) | omega))))⟩
    · obtain rfl : k = 65 := by omega
      go_wp2_with fail
      (refine wp_region_ext (by kernel_rfl) (by kernel_rfl) ?_; (repeat (first | ((with_reducible refine ext_step (fun K hK => ?_)); go_simp; first | (refine hK _ ?_; clear hK K) | (apply Exists.intro; refine ⟨fun _ _ => ?_, hK _ ?_⟩; fail; clear hK K)))); refine wpQuiet_nil ?_; intro E d)
      go_wp2
      go_ret
      exact ⟨by rw [crun_is (by omega) HRUN.out (.inl rfl)]; rfl, (by repeat (first | exact Below.refl _ _ | refine Below.drew ?_ | refine below_drewN ?_ _ | refine Below.alloc ?_ (by first | exact Nat.le_refl _ | (simp; done) | (simp; omega) | omega) _ | refine Below.setCell ?_ (by first | exact Nat.le_refl _ | (simp; done) | (simp; omega) | omega) _ | refine bExtW ?_ (by first | exact Nat.le_refl _ | (simp; done) | (simp; omega) | omega) | refine Below.trans ?_ (Below.mono (by assumption) (by first | exact Nat.le_refl _ | (simp; done) | (simp; omega) | omega))))⟩
set_option maxRecDepth 100000 in
set_option maxHeartbeats 8000000 in
theorem rLongest_ok (W H n : Nat) (hn : n = W * H) (a : Option Addr) (c : Nat) (bs : List Bool) (of : Bool) (w : World) (hI : IsBools w a n bs) (hW : W ≤ 64) (hH : H ≤ 64) :
    Calls Try.prog 77 #[.agg #[.int .i64 (W), .int .i64 (H), .slice a n c], .bool of] w fun e w' => e = .returned (.int .i64 (longV of W H bs)) ∧ Below w.heap.size w w' := by
  have HRUN := Lib.hid (fun w y x h hy hx => rRun_ok W H n hn a c bs y x of w h hW hH hy hx)
  have HI := Lib.hid hI
  have hg65 : ∀ x, crun (rf of W bs x) x 65 ≤ 65 := fun x => crun_le _ _ _
  have hB1 : Hid (∀ y x, crun (rf of W bs y) x 65 ≤ 65) := Lib.hid fun y x => crun_le _ _ _
  have hB2 : Hid (∀ y, mxTo (rowG of W bs) y ≤ 65) := Lib.hid fun y => mxTo_le fun i _ => mxTo_le fun x _ => crun_le _ _ _
  clear hI hn hg65
  go_enter Try.func77, Try.ntmps77
  go_wp2_with fail
  go_loopw [5, 6] (fun m i wr => ∃ (y : Nat) (E : Array Obj) (d : Nat), y ≤ H ∧ m = .int .i64 (mxTo (rowG of W bs) y) ∧ i = .int .i64 y ∧ wr = extW (w.alloc (.cells #[.int .i64 (W), .int .i64 (H), .slice a n c] 26)) E d) (fun _ i _ => H - (intOf i).toNat)
  case atStart => exact ⟨0, #[], (w.alloc (.cells #[.int .i64 (W), .int .i64 (H), .slice a n c] 26)).drawn, by omega, rfl, rfl, extW_me _⟩
  case round =>
    obtain ⟨y, E, d, hy, rfl, rfl, rfl⟩ := hrel
    by_cases hyH : y < H
    · go_wp2_with fail
      go_loopw [5, 7] (fun m i wr => ∃ (x : Nat) (E : Array Obj) (d : Nat), x ≤ W ∧ m = .int .i64 (mx2 (mxTo (rowG of W bs) y) (mxTo (fun x => crun (rf of W bs y) x 65) x)) ∧ i = .int .i64 x ∧ wr = extW (w.alloc (.cells #[.int .i64 (W), .int .i64 (H), .slice a n c] 26)) E d) (fun _ i _ => W - (intOf i).toNat)
      case atStart => exact ⟨0, E, d, by omega, by simp [mxTo, mx2], rfl, rfl⟩
      case round =>
        obtain ⟨x, E, d, hx, rfl, rfl, rfl⟩ := hrel
        have HST : Hid (mx2 (mxTo (rowG of W bs) y) (mxTo (fun x => crun (rf of W bs y) x 65) (x + 1)) = mx2 (mx2 (mxTo (rowG of W bs) y) (mxTo (fun x => crun (rf of W bs y) x 65) x)) (crun (rf of W bs y) x 65)) := Lib.hid (by unfold mx2; rw [mxTo]; omega)
        have HEN : Hid (mxTo (rowG of W bs) (y + 1) = mx2 (mxTo (rowG of W bs) y) (mxTo (fun x => crun (rf of W bs y) x 65) W)) := Lib.hid rfl
        have hm65 : mx2 (mxTo (rowG of W bs) y) (mxTo (fun x => crun (rf of W bs y) x 65) x) ≤ 65 := by
          have h1 := hB2.out y
          have h2 : mxTo (fun x => crun (rf of W bs y) x 65) x ≤ 65 := mxTo_le fun i _ => crun_le _ _ _
          unfold mx2; omega
        by_cases hxW : x < W
        · have HRC := Lib.hid (fun wq h => HRUN.out wq y x h hyH hxW)
          have hc65 := hB1.out y x
          generalize mx2 (mxTo (rowG of W bs) y) (mxTo (fun x => crun (rf of W bs y) x 65) x) = m at *
          generalize crun (rf of W bs y) x 65 = g at *
          go_wp2_with fail
          refine (HRC.out _ (HI.out.below (by repeat (first | exact Below.refl _ _ | refine Below.drew ?_ | refine below_drewN ?_ _ | refine Below.alloc ?_ (by first | exact Nat.le_refl _ | (simp; done) | (simp; omega) | omega) _ | refine Below.setCell ?_ (by first | exact Nat.le_refl _ | (simp; done) | (simp; omega) | omega) _ | refine bExtW ?_ (by first | exact Nat.le_refl _ | (simp; done) | (simp; omega) | omega) | refine Below.trans ?_ (Below.mono (by assumption) (by first | exact Nat.le_refl _ | (simp; done) | (simp; omega) | omega)))))).mono ?_
          rintro r wx ⟨rfl, hb⟩
          obtain ⟨E2, d2, rfl⟩ := bExt hb
          clear hb
          by_cases hmg : m < g
          · have hd : decide ((m : Int) < (g : Int)) = true := by simp; omega
            go_wp2
            go_roundw
            case rel => exact ⟨x + 1, _, _, by omega, by rw [HST.out, show mx2 m g = g from Nat.max_eq_right (by omega)], by go_num, by simp only [extW_extW]; rfl⟩
            case measure => simp [intOf]; omega
          · have hd : decide ((m : Int) < (g : Int)) = false := by simp; omega
            go_wp2
            go_roundw
            case rel => exact ⟨x + 1, _, _, by omega, by rw [HST.out, show mx2 m g = m from Nat.max_eq_left (by omega)], by go_num, by simp only [extW_extW]; rfl⟩
            case measure => simp [intOf]; omega
        · obtain rfl : W = x := by omega
          rw [← HEN.out] at hm65 ⊢
          obtain ⟨m, hm⟩ : ∃ m, mxTo (rowG of W bs) (y + 1) = m := ⟨_, rfl⟩
          rw [hm] at hm65 ⊢
          have HM := Lib.hid hm
          clear hm
          go_wp2
          go_roundw
          case rel => exact ⟨y + 1, _, _, by omega, by rw [HM.out], by go_num, rfl⟩
          case measure => simp [intOf]; omega
    · obtain rfl : H = y := by omega
      have h65 := hB2.out H
      have HLV : Hid (longV of W H bs = mxTo (rowG of W bs) H) := Lib.hid rfl
      generalize mxTo (rowG of W bs) H = m at *
      go_wp2
      go_ret
      exact ⟨by rw [HLV.out]; rfl, (by repeat (first | exact Below.refl _ _ | refine Below.drew ?_ | refine below_drewN ?_ _ | refine Below.alloc ?_ (by first | exact Nat.le_refl _ | (simp; done) | (simp; omega) | omega) _ | refine Below.setCell ?_ (by first | exact Nat.le_refl _ | (simp; done) | (simp; omega) | omega) _ | refine bExtW ?_ (by first | exact Nat.le_refl _ | (simp; done) | (simp; omega) | omega) | refine Below.trans ?_ (Below.mono (by assumption) (by first | exact Nat.le_refl _ | (simp; done) | (simp; omega) | omega))))⟩
end Go.Proofs.Ytikddfjickkhhaa
