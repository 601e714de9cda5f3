/- Lemmas and contracts of functions (what each call returns, and that it changes nothing that was there) that the proof of a law of this seat uses; each lemma states its own conditions. -/
import Derived.Test.YtikddfjickkhhaaLo2
import Derived.Test.YtikddfjickkhhaaTpM
namespace Go.Proofs.Ytikddfjickkhhaa
open Go.RowKit
set_option linter.unusedVariables false
set_option linter.unusedSimpArgs false
open Lo
/-- What is wrong with floats. -/
def flE (W H : Int) (n : Nat) : Int := if wrT W H n ≠ 0 then wrT W H n else if n = 0 then 5 else 0
theorem flE_zero {W H : Int} {n : Nat} (h : flE W H n = 0) : ∃ W' H' : Nat, W = W' ∧ H = H' ∧ W' ≤ 64 ∧ H' ≤ 64 ∧ n = W' * H' ∧ 0 < W' ∧ 0 < H' := by
  unfold flE at h
  split at h
  · rename_i h1; exact absurd h h1
  · rename_i h1
    split at h
    · omega
    · rename_i h2
      obtain ⟨W', H', e1, e2, e3, e4, e5⟩ := wrT_zero (by simpa using h1)
      refine ⟨W', H', e1, e2, e3, e4, e5, ?_, ?_⟩
      · rcases Nat.eq_zero_or_pos W' with h | h
        · subst h; simp at e5; exact absurd e5 h2
        · exact h
      · rcases Nat.eq_zero_or_pos H' with h | h
        · subst h; simp at e5; exact absurd e5 h2
        · exact h
set_option maxRecDepth 100000 in
set_option maxHeartbeats 8000000 in
theorem Floats_bad (W H : Int) (a : Option Addr) (n c : Nat) (bs : List Bool) (w : World) (hT : OkT w a n c bs) (h1 : (-9223372036854775808 ≤ W ∧ W ≤ 9223372036854775807)) (h2 : (-9223372036854775808 ≤ H ∧ H ≤ 9223372036854775807)) (he : flE W H n ≠ 0) :
    Calls Try.prog 31 #[.agg #[.int .i64 (W), .int .i64 (H), .slice a n c]] w fun e w' => e = .returned (.tuple #[.int .i64 0, .int .i64 0, .int .i64 (flE W H n)]) ∧ Below w.heap.size w w' := by
  have h3 : n ≤ 9223372036854775807 := Nat.le_trans hT.cap hT.lim
  by_cases hq : wrT W H n = 0
  · obtain ⟨W, H, rfl, rfl, hW, hH, hn⟩ := wrT_zero hq
    have hn0 : n = 0 := by
      rcases Nat.eq_zero_or_pos n with h | h
      · exact h
      · exact absurd (by unfold flE; rw [if_neg (by simp [hq]), if_neg (by omega)]) he
    subst hn0
    have HE : Hid (flE W H 0 = 5) := Lib.hid (by unfold flE; rw [if_neg (by simp [hq]), if_pos rfl])
    have HT1 := Lib.hid (fun w h => Turned_any W H 0 hn a c bs w h hW hH)
    have HT := Lib.hid hT
    clear he hq hT hn
    generalize turnL W H bs = tl at *
    go_enter Try.func31, Try.ntmps31
    go_wp2_with fail
    refine (HT1.out _ (HT.out.below (by repeat (first | exact Below.refl _ _ | refine Below.drew ?_ | refine below_drewN ?_ _ | refine Below.alloc ?_ (by first | exact Nat.le_refl _ | (simp; done) | (simp; omega) | omega) _ | refine Below.setCell ?_ (by first | exact Nat.le_refl _ | (simp; done) | (simp; omega) | omega) _ | refine bExtW ?_ (by first | exact Nat.le_refl _ | (simp; done) | (simp; omega) | omega) | refine Below.trans ?_ (Below.mono (by assumption) (by first | exact Nat.le_refl _ | (simp; done) | (simp; omega) | omega)))))).mono ?_
    rintro r wx ⟨g1, rfl, hT, hb⟩
    obtain ⟨E1, d1, rfl⟩ := bExt hb
    clear hb hT
    go_wp2
    refine bodyPost_ret (v := .tuple #[.int .i64 0, .int .i64 0, .int .i64 5]) (by simp [results, Try.results31, go_sem]) rfl ⟨by rw [HE.out], (by repeat (first | exact Below.refl _ _ | refine Below.drew ?_ | refine below_drewN ?_ _ | refine Below.alloc ?_ (by first | exact Nat.le_refl _ | (simp; done) | (simp; omega) | omega) _ | refine Below.setCell ?_ (by first | exact Nat.le_refl _ | (simp; done) | (simp; omega) | omega) _ | refine bExtW ?_ (by first | exact Nat.le_refl _ | (simp; done) | (simp; omega) | omega) | refine Below.trans ?_ (Below.mono (by assumption) (by first | exact Nat.le_refl _ | (simp; done) | (simp; omega) | omega))))⟩
  · have hb : (wrT W H n != 0) = true := by simpa using hq
    have HE : Hid (flE W H n = wrT W H n) := Lib.hid (by unfold flE; rw [if_pos hq])
    have HS := Lib.hid (fun w => Turned_bad W H a n c w h1 h2 h3 hq)
    clear he hq hT
    go_enter Try.func31, Try.ntmps31
    (go_wp2_with fail; refine (HS.out _).mono ?_; rintro r w1 ⟨rfl, hb⟩; obtain ⟨E, d, rfl⟩ := bExt hb; clear hb)
    go_wp2
    refine bodyPost_ret (v := .tuple #[.int .i64 0, .int .i64 0, .int .i64 (wrT W H n)]) (by simp [results, Try.results31, go_sem]) rfl ⟨by rw [HE.out], (by repeat (first | exact Below.refl _ _ | refine Below.drew ?_ | refine below_drewN ?_ _ | refine Below.alloc ?_ (by first | exact Nat.le_refl _ | (simp; done) | (simp; omega) | omega) _ | refine Below.setCell ?_ (by first | exact Nat.le_refl _ | (simp; done) | (simp; omega) | omega) _ | refine bExtW ?_ (by first | exact Nat.le_refl _ | (simp; done) | (simp; omega) | omega) | refine Below.trans ?_ (Below.mono (by assumption) (by first | exact Nat.le_refl _ | (simp; done) | (simp; omega) | omega))))⟩
set_option maxRecDepth 100000 in
set_option maxHeartbeats 8000000 in
theorem Floats_ok (W H n : Nat) (hn : n = W * H) (a : Option Addr) (c : Nat) (bs : List Bool) (w : World) (hT : OkT w a n c bs) (hW : W ≤ 64) (hH : H ≤ 64) (hW0 : 0 < W) (hH0 : 0 < H) :
    Calls Try.prog 31 #[.agg #[.int .i64 (W), .int .i64 (H), .slice a n c]] w fun e w' => e = .returned (.tuple #[.int .i64 (longV true H W (turnL W H bs)), .int .i64 (longV false W H bs), .int .i64 (0)]) ∧ Below w.heap.size w w' := by
  have HT1 := Lib.hid (fun w h => Turned_any W H n hn a c bs w h hW hH)
  have HL1 := Lib.hid (fun w g h => longest_ok H W (some ⟨g, 0, none⟩) n n (by rw [hn, Nat.mul_comm]) (turnL W H bs) true w h hH hW hH0)
  have HL2 := Lib.hid (fun w h => longest_ok W H a n c hn bs false w h hW hH hW0)
  have HT := Lib.hid hT
  have hn0 : n ≠ 0 := by rw [hn]; have := Nat.mul_pos hW0 hH0; omega
  have hbn : ((n : Int) == 0) = false := by simp; omega
  clear hT hn hn0
  generalize turnL W H bs = tl at *
  generalize longV true H W tl = p1 at *
  generalize longV false W H bs = p2 at *
  go_enter Try.func31, Try.ntmps31
  go_wp2_with fail
  refine (HT1.out _ (HT.out.below (by repeat (first | exact Below.refl _ _ | refine Below.drew ?_ | refine below_drewN ?_ _ | refine Below.alloc ?_ (by first | exact Nat.le_refl _ | (simp; done) | (simp; omega) | omega) _ | refine Below.setCell ?_ (by first | exact Nat.le_refl _ | (simp; done) | (simp; omega) | omega) _ | refine bExtW ?_ (by first | exact Nat.le_refl _ | (simp; done) | (simp; omega) | omega) | refine Below.trans ?_ (Below.mono (by assumption) (by first | exact Nat.le_refl _ | (simp; done) | (simp; omega) | omega)))))).mono ?_
  rintro r wx ⟨g1, rfl, hT1, hb⟩
  obtain ⟨E1, d1, rfl⟩ := bExt hb
  have HX := Lib.hid hT1
  clear hb hT1
  go_wp2_with fail
  (refine wp_region_ext (by kernel_rfl) (by kernel_rfl) ?_; (repeat (first | ((with_reducible refine ext_step (fun K hK => ?_)); go_simp; first | (refine hK _ ?_; clear hK K) | (apply Exists.intro; refine ⟨fun _ _ => ?_, hK _ ?_⟩; fail; clear hK K)))); ((with_reducible refine ext_step (fun K hK => ?_)); go_simp; (apply Exists.intro; refine ⟨fun _ _ => ?_, hK _ ?_⟩; (go_at_call 66; exact extOf (HL1.out _ g1 (HX.out.below (by repeat (first | exact Below.refl _ _ | refine Below.drew ?_ | refine below_drewN ?_ _ | refine Below.alloc ?_ (by first | exact Nat.le_refl _ | (simp; done) | (simp; omega) | omega) _ | refine Below.setCell ?_ (by first | exact Nat.le_refl _ | (simp; done) | (simp; omega) | omega) _ | refine bExtW ?_ (by first | exact Nat.le_refl _ | (simp; done) | (simp; omega) | omega) | refine Below.trans ?_ (Below.mono (by assumption) (by first | exact Nat.le_refl _ | (simp; done) | (simp; omega) | omega))))))); clear hK K)); (repeat (first | ((with_reducible refine ext_step (fun K hK => ?_)); go_simp; first | (refine hK _ ?_; clear hK K) | (apply Exists.intro; refine ⟨fun _ _ => ?_, hK _ ?_⟩; fail; clear hK K)))); ((with_reducible refine ext_step (fun K hK => ?_)); go_simp; (apply Exists.intro; refine ⟨fun _ _ => ?_, hK _ ?_⟩; (go_at_call 66; exact extOf (HL2.out _ (HT.out.below (by repeat (first | exact Below.refl _ _ | refine Below.drew ?_ | refine below_drewN ?_ _ | refine Below.alloc ?_ (by first | exact Nat.le_refl _ | (simp; done) | (simp; omega) | omega) _ | refine Below.setCell ?_ (by first | exact Nat.le_refl _ | (simp; done) | (simp; omega) | omega) _ | refine bExtW ?_ (by first | exact Nat.le_refl _ | (simp; done) | (simp; omega) | omega) | refine Below.trans ?_ (Below.mono (by assumption) (by first | exact Nat.le_refl _ | (simp; done) | (simp; omega) | omega))))))); clear hK K)); (repeat (first | ((with_reducible refine ext_step (fun K hK => ?_)); go_simp; first | (refine hK _ ?_; clear hK K) | (apply Exists.intro; refine ⟨fun _ _ => ?_, hK _ ?_⟩; fail; clear hK K)))); refine wpQuiet_nil ?_; intro E d)
  go_wp2
  refine bodyPost_ret (v := .tuple #[.int .i64 (p1), .int .i64 (p2), .int .i64 (0)]) (by simp [results, Try.results31, go_sem]) rfl ⟨rfl, (by repeat (first | exact Below.refl _ _ | refine Below.drew ?_ | refine below_drewN ?_ _ | refine Below.alloc ?_ (by first | exact Nat.le_refl _ | (simp; done) | (simp; omega) | omega) _ | refine Below.setCell ?_ (by first | exact Nat.le_refl _ | (simp; done) | (simp; omega) | omega) _ | refine bExtW ?_ (by first | exact Nat.le_refl _ | (simp; done) | (simp; omega) | omega) | refine Below.trans ?_ (Below.mono (by assumption) (by first | exact Nat.le_refl _ | (simp; done) | (simp; omega) | omega))))⟩
end Go.Proofs.Ytikddfjickkhhaa
