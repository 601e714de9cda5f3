/- Lemmas and contracts of functions (what each call returns, and that it changes nothing that was there) that the proof of a law of this seat uses; each lemma states its own conditions. -/
import Derived.Test.YtikddfjickkhhaaEvM
namespace Go.Proofs.Ytikddfjickkhhaa
open Go.RowKit
set_option linter.unusedVariables false
set_option linter.unusedSimpArgs false
open Lo
def inP (bs : List Bool) (W at' : Nat) (col : Bool) (y x : Nat) : Nat := inC bs W at' col y + cn (inF bs W at' col y) x
set_option maxRecDepth 100000 in
set_option maxHeartbeats 8000000 in
theorem In_ok (W H n : Nat) (hn : n = W * H) (a : Option Addr) (c : Nat) (bs : List Bool) (at' : Nat) (col : Bool) (w : World) (hI : IsBools w a n bs) (hW : W ≤ 64) (hH : H ≤ 64) (hat : at' ≤ 64) :
    Calls Try.prog 71 #[.agg #[.int .i64 (W), .int .i64 (H), .slice a n c], .int .i64 (at'), .bool col] w fun e w' => e = .returned (.int .i64 (inC bs W at' col H)) ∧ Below w.heap.size w w' := by
  have hn4 : n ≤ 4096 := by rw [hn]; exact mul64n hW hH
  have HBIT := Lib.hid (fun w y x p h1 h2 h3 (h4 : x ≤ 64) (h5 : y ≤ 64) => rBit_ok W H n a c bs w h1 y x p h2 h3 hn4 (by omega) (by omega) (by omega))
  have HN := Lib.hid hn
  have HI := Lib.hid hI
  have HLE := Lib.hid (fun y => inC_le bs W at' col y)
  clear hI hn
  go_enter Try.func71, Try.ntmps71
  go_wp2_with fail
  go_loopw [7, 8] (fun m i wr => ∃ (y : Nat) (E : Array Obj) (d : Nat), y ≤ H ∧ m = .int .i64 (inC bs W at' col y) ∧ i = .int .i64 y ∧ wr = extW (w.alloc (.cells #[.int .i64 (W), .int .i64 (H), .slice a n c] 26)) E d) (fun _ i _ => H - (intOf i).toNat)
  case atStart => exact ⟨0, #[], (w.alloc (.cells #[.int .i64 (W), .int .i64 (H), .slice a n c] 26)).drawn, by omega, rfl, rfl, extW_me _⟩
  case round =>
    obtain ⟨y, E, d, hy, rfl, rfl, rfl⟩ := hrel
    by_cases hyH : y < H
    · go_wp2_with fail
      go_loopw [7, 9] (fun m i wr => ∃ (x : Nat) (E : Array Obj) (d : Nat), x ≤ W ∧ m = .int .i64 (inP bs W at' col y x) ∧ i = .int .i64 x ∧ wr = extW (w.alloc (.cells #[.int .i64 (W), .int .i64 (H), .slice a n c] 26)) E d) (fun _ i _ => W - (intOf i).toNat)
      case atStart => exact ⟨0, E, d, by omega, by rw [show inP bs W at' col y 0 = inC bs W at' col y from rfl], rfl, rfl⟩
      case round =>
        obtain ⟨x, E, d, hx, rfl, rfl, rfl⟩ := hrel
        have HST : Hid (inP bs W at' col y (x + 1) = inP bs W at' col y x + if inF bs W at' col y x then 1 else 0) := Lib.hid (by unfold inP; rw [cn, Nat.add_assoc])
        have HEN : Hid (inC bs W at' col (y + 1) = inP bs W at' col y W) := Lib.hid rfl
        have hm : inP bs W at' col y x ≤ 5000 := by
          unfold inP
          have h1 := HLE.out y
          have h2 := cn_le (inF bs W at' col y) x
          have h3 : y * W ≤ 64 * 64 := Nat.mul_le_mul (by omega) (by omega)
          omega
        by_cases hxW : x < W
        · obtain ⟨p, hp⟩ : ∃ p, y * W + x = p := ⟨_, rfl⟩
          have hlt : p < n := by rw [HN.out, ← hp]; exact place_lt' hxW hyH
          have HBC := Lib.hid (fun wq h => HBIT.out wq y x p h hp hlt (by omega) (by omega))
          obtain ⟨bit, hbi⟩ : ∃ b, bs.getD p false = b := ⟨_, rfl⟩
          have HBI := Lib.hid hbi
          have hF : inF bs W at' col y x = (bit && (col && decide (x = at') || !col && decide (y = at'))) := by unfold inF rb; rw [hp, hbi]
          generalize inP bs W at' col y x = T at *
          clear hp hbi
          cases bit with
          | false =>
            have HIF := Lib.hid hF
            clear hF
            rw [Bool.false_and] at HIF
            (go_wp2_with fail; refine (HBC.out _ (HI.out.below (by repeat (first | exact Below.refl _ _ | refine Below.drew ?_ | refine below_drewN ?_ _ | refine Below.alloc ?_ (by first | exact Nat.le_refl _ | (simp; done) | (simp; omega) | omega) _ | refine Below.setCell ?_ (by first | exact Nat.le_refl _ | (simp; done) | (simp; omega) | omega) _ | refine bExtW ?_ (by first | exact Nat.le_refl _ | (simp; done) | (simp; omega) | omega) | refine Below.trans ?_ (Below.mono (by assumption) (by first | exact Nat.le_refl _ | (simp; done) | (simp; omega) | omega)))))).mono ?_; rintro r w1 ⟨rfl, hb⟩; obtain ⟨E, d, rfl⟩ := bExt hb; clear hb)
            rw [HBI.out]
            go_wp2
            go_roundw
            case rel => exact ⟨x + 1, _, _, by omega, by rw [HST.out, HIF.out]; rfl, by go_num, by simp only [extW_extW]; rfl⟩
            case measure => simp [intOf]; omega
          | true =>
            cases col with
            | true =>
              by_cases he : x = at'
              · have hd : ((x : Int) == (at' : Int)) = true := by simp [he]
                have HIF : Hid (inF bs W at' true y x = true) := Lib.hid (by rw [hF]; simp [he])
                clear hF he
                (go_wp2_with fail; refine (HBC.out _ (HI.out.below (by repeat (first | exact Below.refl _ _ | refine Below.drew ?_ | refine below_drewN ?_ _ | refine Below.alloc ?_ (by first | exact Nat.le_refl _ | (simp; done) | (simp; omega) | omega) _ | refine Below.setCell ?_ (by first | exact Nat.le_refl _ | (simp; done) | (simp; omega) | omega) _ | refine bExtW ?_ (by first | exact Nat.le_refl _ | (simp; done) | (simp; omega) | omega) | refine Below.trans ?_ (Below.mono (by assumption) (by first | exact Nat.le_refl _ | (simp; done) | (simp; omega) | omega)))))).mono ?_; rintro r w1 ⟨rfl, hb⟩; obtain ⟨E, d, rfl⟩ := bExt hb; clear hb)
                rw [HBI.out]
                go_wp2
                go_roundw
                case rel => exact ⟨x + 1, _, _, by omega, by rw [HST.out, HIF.out]; go_num, by go_num, by simp only [extW_extW]; rfl⟩
                case measure => simp [intOf]; omega
              · have hd : ((x : Int) == (at' : Int)) = false := by simp; omega
                have HIF : Hid (inF bs W at' true y x = false) := Lib.hid (by rw [hF]; simp [he])
                clear hF he
                (go_wp2_with fail; refine (HBC.out _ (HI.out.below (by repeat (first | exact Below.refl _ _ | refine Below.drew ?_ | refine below_drewN ?_ _ | refine Below.alloc ?_ (by first | exact Nat.le_refl _ | (simp; done) | (simp; omega) | omega) _ | refine Below.setCell ?_ (by first | exact Nat.le_refl _ | (simp; done) | (simp; omega) | omega) _ | refine bExtW ?_ (by first | exact Nat.le_refl _ | (simp; done) | (simp; omega) | omega) | refine Below.trans ?_ (Below.mono (by assumption) (by first | exact Nat.le_refl _ | (simp; done) | (simp; omega) | omega)))))).mono ?_; rintro r w1 ⟨rfl, hb⟩; obtain ⟨E, d, rfl⟩ := bExt hb; clear hb)
                rw [HBI.out]
                go_wp2
                go_roundw
                case rel => exact ⟨x + 1, _, _, by omega, by rw [HST.out, HIF.out]; rfl, by go_num, by simp only [extW_extW]; rfl⟩
                case measure => simp [intOf]; omega
            | false =>
              by_cases he : y = at'
              · have hd : ((y : Int) == (at' : Int)) = true := by simp [he]
                have HIF : Hid (inF bs W at' false y x = true) := Lib.hid (by rw [hF]; simp [he])
                clear hF he
                (go_wp2_with fail; refine (HBC.out _ (HI.out.below (by repeat (first | exact Below.refl _ _ | refine Below.drew ?_ | refine below_drewN ?_ _ | refine Below.alloc ?_ (by first | exact Nat.le_refl _ | (simp; done) | (simp; omega) | omega) _ | refine Below.setCell ?_ (by first | exact Nat.le_refl _ | (simp; done) | (simp; omega) | omega) _ | refine bExtW ?_ (by first | exact Nat.le_refl _ | (simp; done) | (simp; omega) | omega) | refine Below.trans ?_ (Below.mono (by assumption) (by first | exact Nat.le_refl _ | (simp; done) | (simp; omega) | omega)))))).mono ?_; rintro r w1 ⟨rfl, hb⟩; obtain ⟨E, d, rfl⟩ := bExt hb; clear hb)
                rw [HBI.out]
                go_wp2
                go_roundw
                case rel => exact ⟨x + 1, _, _, by omega, by rw [HST.out, HIF.out]; go_num, by go_num, by simp only [extW_extW]; rfl⟩
                case measure => simp [intOf]; omega
              · have hd : ((y : Int) == (at' : Int)) = false := by simp; omega
                have HIF : Hid (inF bs W at' false y x = false) := Lib.hid (by rw [hF]; simp [he])
                clear hF he
                (go_wp2_with fail; refine (HBC.out _ (HI.out.below (by repeat (first | exact Below.refl _ _ | refine Below.drew ?_ | refine below_drewN ?_ _ | refine Below.alloc ?_ (by first | exact Nat.le_refl _ | (simp; done) | (simp; omega) | omega) _ | refine Below.setCell ?_ (by first | exact Nat.le_refl _ | (simp; done) | (simp; omega) | omega) _ | refine bExtW ?_ (by first | exact Nat.le_refl _ | (simp; done) | (simp; omega) | omega) | refine Below.trans ?_ (Below.mono (by assumption) (by first | exact Nat.le_refl _ | (simp; done) | (simp; omega) | omega)))))).mono ?_; rintro r w1 ⟨rfl, hb⟩; obtain ⟨E, d, rfl⟩ := bExt hb; clear hb)
                rw [HBI.out]
                go_wp2
                go_roundw
                case rel => exact ⟨x + 1, _, _, by omega, by rw [HST.out, HIF.out]; rfl, by go_num, by simp only [extW_extW]; rfl⟩
                case measure => simp [intOf]; omega
        · obtain rfl : W = x := by omega
          rw [← HEN.out] at hm ⊢
          obtain ⟨m, hm2⟩ : ∃ m, inC bs W at' col (y + 1) = m := ⟨_, rfl⟩
          rw [hm2] at hm ⊢
          have HM := Lib.hid hm2
          clear hm2
          go_wp2
          go_roundw
          case rel => exact ⟨y + 1, _, _, by omega, by rw [HM.out], by go_num, rfl⟩
          case measure => simp [intOf]; omega
    · obtain rfl : H = y := by omega
      obtain ⟨m, hm2⟩ : ∃ m, inC bs W at' col H = m := ⟨_, rfl⟩
      rw [hm2]
      have HM := Lib.hid hm2
      clear hm2
      go_wp2
      go_ret
      exact ⟨by rw [HM.out]; rfl, (by repeat (first | exact Below.refl _ _ | refine Below.drew ?_ | refine below_drewN ?_ _ | refine Below.alloc ?_ (by first | exact Nat.le_refl _ | (simp; done) | (simp; omega) | omega) _ | refine Below.setCell ?_ (by first | exact Nat.le_refl _ | (simp; done) | (simp; omega) | omega) _ | refine bExtW ?_ (by first | exact Nat.le_refl _ | (simp; done) | (simp; omega) | omega) | refine Below.trans ?_ (Below.mono (by assumption) (by first | exact Nat.le_refl _ | (simp; done) | (simp; omega) | omega))))⟩
end Go.Proofs.Ytikddfjickkhhaa
