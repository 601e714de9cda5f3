/- Lemmas and contracts of functions (what each call returns, and that it changes nothing that was there) that the proof of a law of this seat uses; each lemma states its own conditions. -/
import Derived.Test.YtikddfjickkhhaaQ2
namespace Go.Proofs.Ytikddfjickkhhaa
open Go.RowKit
set_option linter.unusedVariables false
set_option linter.unusedSimpArgs false
open Lo
set_option maxRecDepth 100000 in
set_option maxHeartbeats 8000000 in
theorem rFloats_bad (W H : Int) (a : Option Addr) (n c : Nat) (bs : List Bool) (w : World) (hT : OkT w a n c bs) (h1 : (-9223372036854775808 ≤ W ∧ W ≤ 9223372036854775807)) (h2 : (-9223372036854775808 ≤ H ∧ H ≤ 9223372036854775807)) (he : flE W H n ≠ 0) :
    Calls Try.prog 45 #[.agg #[.int .i64 (W), .int .i64 (H), .slice a n c]] w fun e w' => e = .returned (.tuple #[.int .i64 0, .int .i64 0, .int .i64 (flE W H n)]) ∧ Below w.heap.size w w' := by
  have h3 : n ≤ 9223372036854775807 := Nat.le_trans hT.cap hT.lim
  by_cases hq : wrT W H n = 0
  · obtain ⟨W, H, rfl, rfl, hW, hH, hn⟩ := wrT_zero hq
    have hn0 : n = 0 := by
      rcases Nat.eq_zero_or_pos n with h | h
      · exact h
      · exact absurd (by unfold flE; rw [if_neg (by simp [hq]), if_neg (by omega)]) he
    subst hn0
    have HE : Hid (flE W H 0 = 5) := Lib.hid (by unfold flE; rw [if_neg (by simp [hq]), if_pos rfl])
    have HT1 := Lib.hid (fun w h => rTurned_ok W H 0 hn a c bs w h hW hH)
    have HT := Lib.hid hT
    clear he hq hT hn
    generalize turnL W H bs = tl at *
    go_enter Try.func45, Try.ntmps45
    go_wp2_with fail
    refine (HT1.out _ (HT.out.below (by repeat (first | exact Below.refl _ _ | refine Below.drew ?_ | refine below_drewN ?_ _ | refine Below.alloc ?_ (by first | exact Nat.le_refl _ | (simp; done) | (simp; omega) | omega) _ | refine Below.setCell ?_ (by first | exact Nat.le_refl _ | (simp; done) | (simp; omega) | omega) _ | refine bExtW ?_ (by first | exact Nat.le_refl _ | (simp; done) | (simp; omega) | omega) | refine Below.trans ?_ (Below.mono (by assumption) (by first | exact Nat.le_refl _ | (simp; done) | (simp; omega) | omega)))))).mono ?_
    rintro r wx ⟨A1, C1, rfl, hT, hb⟩
    obtain ⟨E1, d1, rfl⟩ := bExt hb
    have HX1 := Lib.hid hT
    clear hb hT
    go_wp2
    refine bodyPost_ret (v := .tuple #[.int .i64 0, .int .i64 0, .int .i64 5]) (by simp [results, Try.results45, go_sem]) rfl ⟨by rw [HE.out], (by repeat (first | exact Below.refl _ _ | refine Below.drew ?_ | refine below_drewN ?_ _ | refine Below.alloc ?_ (by first | exact Nat.le_refl _ | (simp; done) | (simp; omega) | omega) _ | refine Below.setCell ?_ (by first | exact Nat.le_refl _ | (simp; done) | (simp; omega) | omega) _ | refine bExtW ?_ (by first | exact Nat.le_refl _ | (simp; done) | (simp; omega) | omega) | refine Below.trans ?_ (Below.mono (by assumption) (by first | exact Nat.le_refl _ | (simp; done) | (simp; omega) | omega))))⟩
  · have hb : (wrT W H n != 0) = true := by simpa using hq
    have HE : Hid (flE W H n = wrT W H n) := Lib.hid (by unfold flE; rw [if_pos hq])
    have HS := Lib.hid (fun w => rTurned_bad W H a n c w h1 h2 h3 hq)
    clear he hq hT
    go_enter Try.func45, Try.ntmps45
    (go_wp2_with fail; refine (HS.out _).mono ?_; rintro r w1 ⟨rfl, hb⟩; obtain ⟨E, d, rfl⟩ := bExt hb; clear hb)
    go_wp2
    refine bodyPost_ret (v := .tuple #[.int .i64 0, .int .i64 0, .int .i64 (wrT W H n)]) (by simp [results, Try.results45, go_sem]) rfl ⟨by rw [HE.out], (by repeat (first | exact Below.refl _ _ | refine Below.drew ?_ | refine below_drewN ?_ _ | refine Below.alloc ?_ (by first | exact Nat.le_refl _ | (simp; done) | (simp; omega) | omega) _ | refine Below.setCell ?_ (by first | exact Nat.le_refl _ | (simp; done) | (simp; omega) | omega) _ | refine bExtW ?_ (by first | exact Nat.le_refl _ | (simp; done) | (simp; omega) | omega) | refine Below.trans ?_ (Below.mono (by assumption) (by first | exact Nat.le_refl _ | (simp; done) | (simp; omega) | omega))))⟩
set_option maxRecDepth 100000 in
set_option maxHeartbeats 8000000 in
theorem rFloats_ok (W H n : Nat) (hn : n = W * H) (a : Option Addr) (c : Nat) (bs : List Bool) (w : World) (hT : OkT w a n c bs) (hW : W ≤ 64) (hH : H ≤ 64) (hW0 : 0 < W) (hH0 : 0 < H) :
    Calls Try.prog 45 #[.agg #[.int .i64 (W), .int .i64 (H), .slice a n c]] w fun e w' => e = .returned (.tuple #[.int .i64 (longV true H W (turnL W H bs)), .int .i64 (longV false W H bs), .int .i64 (0)]) ∧ Below w.heap.size w w' := by
  have HT1 := Lib.hid (fun w h => rTurned_ok W H n hn a c bs w h hW hH)
  have HL1 := Lib.hid (fun w A C h => rLongest_ok H W n (by rw [hn, Nat.mul_comm]) A C (turnL W H bs) true w h hH hW)
  have HL2 := Lib.hid (fun w h => rLongest_ok W H n hn a c bs false w h hW hH)
  have HT := Lib.hid hT
  have hn0 : n ≠ 0 := by rw [hn]; have := Nat.mul_pos hW0 hH0; omega
  have hbn : ((n : Int) == 0) = false := by simp; omega
  clear hT hn hn0
  generalize turnL W H bs = tl at *
  generalize longV true H W tl = p1 at *
  generalize longV false W H bs = p2 at *
  go_enter Try.func45, Try.ntmps45
  go_wp2_with fail
  refine (HT1.out _ (HT.out.below (by repeat (first | exact Below.refl _ _ | refine Below.drew ?_ | refine below_drewN ?_ _ | refine Below.alloc ?_ (by first | exact Nat.le_refl _ | (simp; done) | (simp; omega) | omega) _ | refine Below.setCell ?_ (by first | exact Nat.le_refl _ | (simp; done) | (simp; omega) | omega) _ | refine bExtW ?_ (by first | exact Nat.le_refl _ | (simp; done) | (simp; omega) | omega) | refine Below.trans ?_ (Below.mono (by assumption) (by first | exact Nat.le_refl _ | (simp; done) | (simp; omega) | omega)))))).mono ?_
  rintro r wx ⟨A1, C1, rfl, hT, hb⟩
  obtain ⟨E1, d1, rfl⟩ := bExt hb
  have HX1 := Lib.hid hT
  clear hb hT
  go_wp2_with fail
  (refine wp_region_ext (by kernel_rfl) (by kernel_rfl) ?_; (repeat (first | ((with_reducible refine ext_step (fun K hK => ?_)); go_simp; first | (refine hK _ ?_; clear hK K) | (apply Exists.intro; refine ⟨fun _ _ => ?_, hK _ ?_⟩; fail; clear hK K)))); ((with_reducible refine ext_step (fun K hK => ?_)); go_simp; (apply Exists.intro; refine ⟨fun _ _ => ?_, hK _ ?_⟩; (go_at_call 77; exact extOf (HL1.out _ _ _ (HX1.out.below (by repeat (first | exact Below.refl _ _ | refine Below.drew ?_ | refine below_drewN ?_ _ | refine Below.alloc ?_ (by first | exact Nat.le_refl _ | (simp; done) | (simp; omega) | omega) _ | refine Below.setCell ?_ (by first | exact Nat.le_refl _ | (simp; done) | (simp; omega) | omega) _ | refine bExtW ?_ (by first | exact Nat.le_refl _ | (simp; done) | (simp; omega) | omega) | refine Below.trans ?_ (Below.mono (by assumption) (by first | exact Nat.le_refl _ | (simp; done) | (simp; omega) | omega))))).bits)); clear hK K)); (repeat (first | ((with_reducible refine ext_step (fun K hK => ?_)); go_simp; first | (refine hK _ ?_; clear hK K) | (apply Exists.intro; refine ⟨fun _ _ => ?_, hK _ ?_⟩; fail; clear hK K)))); ((with_reducible refine ext_step (fun K hK => ?_)); go_simp; (apply Exists.intro; refine ⟨fun _ _ => ?_, hK _ ?_⟩; (go_at_call 77; exact extOf (HL2.out _ (HT.out.below (by repeat (first | exact Below.refl _ _ | refine Below.drew ?_ | refine below_drewN ?_ _ | refine Below.alloc ?_ (by first | exact Nat.le_refl _ | (simp; done) | (simp; omega) | omega) _ | refine Below.setCell ?_ (by first | exact Nat.le_refl _ | (simp; done) | (simp; omega) | omega) _ | refine bExtW ?_ (by first | exact Nat.le_refl _ | (simp; done) | (simp; omega) | omega) | refine Below.trans ?_ (Below.mono (by assumption) (by first | exact Nat.le_refl _ | (simp; done) | (simp; omega) | omega))))).bits)); clear hK K)); (repeat (first | ((with_reducible refine ext_step (fun K hK => ?_)); go_simp; first | (refine hK _ ?_; clear hK K) | (apply Exists.intro; refine ⟨fun _ _ => ?_, hK _ ?_⟩; fail; clear hK K)))); refine wpQuiet_nil ?_; intro E d)
  go_wp2
  refine bodyPost_ret (v := .tuple #[.int .i64 (p1), .int .i64 (p2), .int .i64 (0)]) (by simp [results, Try.results45, go_sem]) rfl ⟨rfl, (by repeat (first | exact Below.refl _ _ | refine Below.drew ?_ | refine below_drewN ?_ _ | refine Below.alloc ?_ (by first | exact Nat.le_refl _ | (simp; done) | (simp; omega) | omega) _ | refine Below.setCell ?_ (by first | exact Nat.le_refl _ | (simp; done) | (simp; omega) | omega) _ | refine bExtW ?_ (by first | exact Nat.le_refl _ | (simp; done) | (simp; omega) | omega) | refine Below.trans ?_ (Below.mono (by assumption) (by first | exact Nat.le_refl _ | (simp; done) | (simp; omega) | omega))))⟩
end Go.Proofs.Ytikddfjickkhhaa
