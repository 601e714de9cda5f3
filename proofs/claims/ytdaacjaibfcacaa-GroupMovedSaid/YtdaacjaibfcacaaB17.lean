/- Lemmas and contracts of functions (what each call returns, and that it changes nothing that was there) that the proof of a law of this seat uses; each lemma states its own conditions. -/
import Derived.Test.YtdaacjaibfcacaaB08
import Derived.Test.YtdaacjaibfcacaaB16
namespace Go.Proofs.Ytdaacjaibfcacaa
open Go.RowKit
set_option linter.unusedVariables false
set_option linter.unusedSimpArgs false
theorem rest_eq {a : Int} {n : Nat} (hn : 0 < n) : a % (n : Int) = if a.tmod n < 0 then a.tmod n + n else a.tmod n := by
  have h0 : (0 : Int) < n := by omega
  have h1 : a = a.tmod n + n * a.tdiv n := (Int.tmod_add_mul_tdiv a n).symm
  have e : a % (n : Int) = (a.tmod n) % (n : Int) := by
    conv => lhs; rw [h1]
    rw [Int.add_mul_emod_self_left]
  have hlt := Int.tmod_lt_of_pos a h0
  have hgt := Int.lt_tmod_of_pos a h0
  rw [e]
  split
  · rw [← Int.add_emod_right, Int.emod_eq_of_lt (by omega) (by omega)]
  · exact Int.emod_eq_of_lt (by omega) hlt
set_option maxRecDepth 100000 in
set_option maxHeartbeats 8000000 in
theorem Rest_ok (a : Int) (n : Nat) (w : World) (hn : 0 < n) (h2 : n ≤ 64) (ha : (-9223372036854775808 ≤ a ∧ a ≤ 9223372036854775807)) :
    Calls Try.prog 79 #[.int .i64 (a), .int .i64 (n)] w fun e w' => e = .returned (.int .i64 (a % (n : Int))) ∧ Below w.heap.size w w' := by
  have h0 : (0 : Int) < n := by omega
  have hE := Lib.hid (rest_eq (a := a) hn)
  have hlt := Int.tmod_lt_of_pos a h0
  have hgt := Int.lt_tmod_of_pos a h0
  have hN0 : ((n : Int) == 0) = false := by simp; omega
  have hN1 : (n : Int) ≠ 0 := by omega
  have hN3 : ¬ n = 0 := by omega
  obtain ⟨r, hr⟩ : ∃ r, a.tmod (n : Int) = r := ⟨_, rfl⟩
  rw [hr] at hE hlt hgt
  by_cases hr0 : r < 0
  · rw [if_pos hr0] at hE
    have v1 : IntKind.i64.wrap r = r := IntWalk.i64_in _ (by omega)
    have v2 : IntKind.i64.wrap (r + (n : Int)) = r + (n : Int) := IntWalk.i64_in _ (by omega)
    have hd : decide (r < 0) = true := by simpa using hr0
    go_enter Try.func79, Try.ntmps79
    go_wp2
    go_ret
    exact ⟨by rw [hE.out]; rfl, (by repeat (first | exact Below.refl _ _ | refine Below.drew ?_ | refine below_drewN ?_ _ | refine Below.alloc ?_ (by first | exact Nat.le_refl _ | (simp; done) | (simp; omega) | omega) _ | refine Below.setCell ?_ (by first | exact Nat.le_refl _ | (simp; done) | (simp; omega) | omega) _ | refine bExtW ?_ (by first | exact Nat.le_refl _ | (simp; done) | (simp; omega) | omega) | refine Below.trans ?_ (Below.mono (by assumption) (by first | exact Nat.le_refl _ | (simp; done) | (simp; omega) | omega))))⟩
  · rw [if_neg hr0] at hE
    have v1 : IntKind.i64.wrap r = r := IntWalk.i64_in _ (by omega)
    have hd : decide (r < 0) = false := by simpa using hr0
    go_enter Try.func79, Try.ntmps79
    go_wp2
    go_ret
    exact ⟨by rw [hE.out]; rfl, (by repeat (first | exact Below.refl _ _ | refine Below.drew ?_ | refine below_drewN ?_ _ | refine Below.alloc ?_ (by first | exact Nat.le_refl _ | (simp; done) | (simp; omega) | omega) _ | refine Below.setCell ?_ (by first | exact Nat.le_refl _ | (simp; done) | (simp; omega) | omega) _ | refine bExtW ?_ (by first | exact Nat.le_refl _ | (simp; done) | (simp; omega) | omega) | refine Below.trans ?_ (Below.mono (by assumption) (by first | exact Nat.le_refl _ | (simp; done) | (simp; omega) | omega))))⟩

/-- The cell at a point, anywhere. -/
def cellAt (W H : Nat) (cs : List Int) (x y : Int) : Int := cs.getD ((y % (H : Int)).toNat * W + (x % (W : Int)).toNat) 0
theorem emod_nat (a : Int) {n : Nat} (hn : 0 < n) : ∃ k : Nat, a % (n : Int) = k ∧ k < n ∧ (a % (n : Int)).toNat = k := by
  have h1 := Int.emod_nonneg a (show (n : Int) ≠ 0 by omega)
  have h2 := Int.emod_lt_of_pos a (show (0 : Int) < n by omega)
  exact ⟨(a % (n : Int)).toNat, by omega, by omega, rfl⟩
set_option maxRecDepth 100000 in
set_option maxHeartbeats 8000000 in
theorem Cell_ok (G W H n : Nat) (a : Option Addr) (c : Nat) (cs : List Int) (x y : Int) (w : World) (hI : IsInts w a n cs) (hW1 : 0 < W) (hW : W ≤ 64) (hH1 : 0 < H) (hH : H ≤ 64) (hn : n = W * H) (hx : (-9223372036854775808 ≤ x ∧ x ≤ 9223372036854775807)) (hy : (-9223372036854775808 ≤ y ∧ y ≤ 9223372036854775807)) :
    Calls Try.prog 73 #[.agg #[.int .i64 (G), .int .i64 (W), .int .i64 (H), .slice a n c], .int .i64 (x), .int .i64 (y)] w fun e w' => e = .returned (.int .i64 (cellAt W H cs x y)) ∧ Below w.heap.size w w' := by
  have HX := Lib.hid (fun w => Rest_ok x W w hW1 hW hx)
  have HY := Lib.hid (fun w => Rest_ok y H w hH1 hH hy)
  obtain ⟨i, e1, i1, e2⟩ := emod_nat x hW1
  obtain ⟨j, e3, j1, e4⟩ := emod_nat y hH1
  have HC : Hid (cellAt W H cs x y = cs.getD (j * W + i) 0) := Lib.hid (by unfold cellAt; rw [e2, e4])
  rw [e1] at HX
  rw [e3] at HY
  have hn4 : n ≤ 4096 := by rw [hn]; exact Nat.mul_le_mul hW hH
  obtain ⟨M, hM⟩ : ∃ M, j * W = M := ⟨_, rfl⟩
  obtain ⟨p, hp⟩ : ∃ p, M + i = p := ⟨_, rfl⟩
  have hpn : p < n := by
    have h1 : (j + 1) * W ≤ H * W := Nat.mul_le_mul_right W (by omega)
    have h2 : (j + 1) * W = j * W + W := Nat.succ_mul j W
    rw [hn, Nat.mul_comm W H]; omega
  have hMi : (j : Int) * (W : Int) = (M : Int) := by rw [← hM]; push_cast; rfl
  have hMp : (M : Int) + (i : Int) = (p : Int) := by rw [← hp]; push_cast; rfl
  have hM4 : M ≤ 4096 := by omega
  have vM : IntKind.i64.wrap (M : Int) = (M : Int) := IntWalk.i64_in _ (by omega)
  have vp : IntKind.i64.wrap (p : Int) = (p : Int) := IntWalk.i64_in _ (by omega)
  rw [hM, hp] at HC
  obtain ⟨b, o, rfl, hb, hc⟩ := hI.2 (by omega)
  have c0 := hc p hpn
  have lb : LtW b w := hb
  obtain ⟨v, hv⟩ : ∃ v, cs.getD p 0 = v := ⟨_, rfl⟩
  rw [hv] at c0 HC
  rw [HC.out]
  clear hI hc hb hv e1 e2 e3 e4 hM hp hn
  go_enter Try.func73, Try.ntmps73
  go_wp2_with fail
  refine wp_region_ext (by kernel_rfl) (by kernel_rfl) ?_
  (repeat (first | ((with_reducible refine ext_step (fun K hK => ?_)); go_simp; first | (refine hK _ ?_; clear hK K) | (apply Exists.intro; refine ⟨fun _ _ => ?_, hK _ ?_⟩; fail; clear hK K))))
  ((with_reducible refine ext_step (fun K hK => ?_)); go_simp; (apply Exists.intro; refine ⟨fun _ _ => ?_, hK _ ?_⟩; (go_at_call 79; exact extOf (HY.out _)); clear hK K))
  (repeat (first | ((with_reducible refine ext_step (fun K hK => ?_)); go_simp; first | (refine hK _ ?_; clear hK K) | (apply Exists.intro; refine ⟨fun _ _ => ?_, hK _ ?_⟩; fail; clear hK K))))
  ((with_reducible refine ext_step (fun K hK => ?_)); go_simp; (apply Exists.intro; refine ⟨fun _ _ => ?_, hK _ ?_⟩; (go_at_call 79; exact extOf (HX.out _)); clear hK K))
  (repeat (first | ((with_reducible refine ext_step (fun K hK => ?_)); go_simp; first | (refine hK _ ?_; clear hK K) | (apply Exists.intro; refine ⟨fun _ _ => ?_, hK _ ?_⟩; fail; clear hK K))))
  refine wpQuiet_nil ?_; intro E d
  go_wp2
  go_ret
  exact ⟨rfl, (by repeat (first | exact Below.refl _ _ | refine Below.drew ?_ | refine below_drewN ?_ _ | refine Below.alloc ?_ (by first | exact Nat.le_refl _ | (simp; done) | (simp; omega) | omega) _ | refine Below.setCell ?_ (by first | exact Nat.le_refl _ | (simp; done) | (simp; omega) | omega) _ | refine bExtW ?_ (by first | exact Nat.le_refl _ | (simp; done) | (simp; omega) | omega) | refine Below.trans ?_ (Below.mono (by assumption) (by first | exact Nat.le_refl _ | (simp; done) | (simp; omega) | omega))))⟩
/-- What At tells. -/
def atE (G W H : Int) (n : Nat) (cs : List Int) (x y : Int) : Int := if chE G W H n cs = 0 then cellAt W.toNat H.toNat cs x y else 0
set_option maxRecDepth 100000 in
set_option maxHeartbeats 8000000 in
theorem at_bad (f : Nat) (G W H : Int) (a : Option Addr) (n c : Nat) (cs : List Int) (x y : Int) (w : World) (hI : IsInts w a n cs) (h0 : (-9223372036854775808 ≤ G ∧ G ≤ 9223372036854775807)) (h1 : (-9223372036854775808 ≤ W ∧ W ≤ 9223372036854775807)) (h2 : (-9223372036854775808 ≤ H ∧ H ≤ 9223372036854775807)) (h3 : n ≤ 9223372036854775807) (he : chE G W H n cs ≠ 0) :
    Calls Try.prog 24 #[.agg #[.int .i64 (G), .int .i64 (W), .int .i64 (H), .slice a n c], .agg #[.int .i64 (x), .int .i64 (y)]] w (fun e w' => e = .returned (.tuple #[.int .i64 (0), .int .i64 (chE G W H n cs)]) ∧ Below w.heap.size w w') ∧
    Calls Try.prog 25 #[.agg #[.int .i64 (G), .int .i64 (W), .int .i64 (H), .slice a n c], .agg #[.int .i64 (x), .int .i64 (y)]] w (fun e w' => e = .returned (.tuple #[.int .i64 (0), .int .i64 (chE G W H n cs)]) ∧ Below w.heap.size w w') := by
  have hb : (chE G W H n cs != 0) = true := by simpa using he
  have HT := Lib.hid (fun w hI => chWrong_any G W H a n c cs w hI h0 h1 h2 h3)
  have HR := Lib.hid (fun w hI => r2Wrong_any G W H a n c cs w hI h0 h1 h2 h3)
  have HI := Lib.hid hI
  clear he hI
  generalize chE G W H n cs = q at *
  constructor
  · go_enter Try.func24, Try.ntmps24
    (go_wp2_with fail; refine (HT.out _ (HI.out.below (by repeat (first | exact Below.refl _ _ | refine Below.drew ?_ | refine below_drewN ?_ _ | refine Below.alloc ?_ (by first | exact Nat.le_refl _ | (simp; done) | (simp; omega) | omega) _ | refine Below.setCell ?_ (by first | exact Nat.le_refl _ | (simp; done) | (simp; omega) | omega) _ | refine bExtW ?_ (by first | exact Nat.le_refl _ | (simp; done) | (simp; omega) | omega) | refine Below.trans ?_ (Below.mono (by assumption) (by first | exact Nat.le_refl _ | (simp; done) | (simp; omega) | omega)))))).mono ?_; rintro r w1 ⟨rfl, hb⟩; obtain ⟨E, d, rfl⟩ := bExt hb; clear hb)
    go_wp2
    go_ret2
    exact ⟨rfl, (by repeat (first | exact Below.refl _ _ | refine Below.drew ?_ | refine below_drewN ?_ _ | refine Below.alloc ?_ (by first | exact Nat.le_refl _ | (simp; done) | (simp; omega) | omega) _ | refine Below.setCell ?_ (by first | exact Nat.le_refl _ | (simp; done) | (simp; omega) | omega) _ | refine bExtW ?_ (by first | exact Nat.le_refl _ | (simp; done) | (simp; omega) | omega) | refine Below.trans ?_ (Below.mono (by assumption) (by first | exact Nat.le_refl _ | (simp; done) | (simp; omega) | omega))))⟩
  · go_enter Try.func25, Try.ntmps25
    (go_wp2_with fail; refine (HR.out _ (HI.out.below (by repeat (first | exact Below.refl _ _ | refine Below.drew ?_ | refine below_drewN ?_ _ | refine Below.alloc ?_ (by first | exact Nat.le_refl _ | (simp; done) | (simp; omega) | omega) _ | refine Below.setCell ?_ (by first | exact Nat.le_refl _ | (simp; done) | (simp; omega) | omega) _ | refine bExtW ?_ (by first | exact Nat.le_refl _ | (simp; done) | (simp; omega) | omega) | refine Below.trans ?_ (Below.mono (by assumption) (by first | exact Nat.le_refl _ | (simp; done) | (simp; omega) | omega)))))).mono ?_; rintro r w1 ⟨rfl, hb⟩; obtain ⟨E, d, rfl⟩ := bExt hb; clear hb)
    go_wp2
    go_ret2
    exact ⟨rfl, (by repeat (first | exact Below.refl _ _ | refine Below.drew ?_ | refine below_drewN ?_ _ | refine Below.alloc ?_ (by first | exact Nat.le_refl _ | (simp; done) | (simp; omega) | omega) _ | refine Below.setCell ?_ (by first | exact Nat.le_refl _ | (simp; done) | (simp; omega) | omega) _ | refine bExtW ?_ (by first | exact Nat.le_refl _ | (simp; done) | (simp; omega) | omega) | refine Below.trans ?_ (Below.mono (by assumption) (by first | exact Nat.le_refl _ | (simp; done) | (simp; omega) | omega))))⟩
set_option maxRecDepth 100000 in
set_option maxHeartbeats 8000000 in
theorem r2At_ok (G W H n : Nat) (a : Option Addr) (c : Nat) (cs : List Int) (x y : Int) (w : World) (hI : IsInts w a n cs) (hG : G = 4 ∨ G = 6) (hW1 : 0 < W) (hW : W ≤ 64) (hH1 : 0 < H) (hH : H ≤ 64) (hn : n = W * H) (hCR : ∀ x ∈ cs, 0 ≤ x ∧ x < 62) (hx : (-9223372036854775808 ≤ x ∧ x ≤ 9223372036854775807)) (hy : (-9223372036854775808 ≤ y ∧ y ≤ 9223372036854775807)) :
    Calls Try.prog 25 #[.agg #[.int .i64 (G), .int .i64 (W), .int .i64 (H), .slice a n c], .agg #[.int .i64 (x), .int .i64 (y)]] w fun e w' => e = .returned (.tuple #[.int .i64 (cellAt W H cs x y), .int .i64 (0)]) ∧ Below w.heap.size w w' := by
  have hn4 : n ≤ 4096 := by rw [hn]; exact Nat.mul_le_mul hW hH
  have he : chE G W H n cs = 0 := chE_ok (by omega) (by omega) hW (by omega) hH hn hCR
  have HR := Lib.hid (fun w hI => r2Wrong_any G W H a n c cs w hI (by omega) (by omega) (by omega) (by omega))
  rw [he] at HR
  have HC := Lib.hid (fun w hI => Cell_ok G W H n a c cs x y w hI hW1 hW hH1 hH hn hx hy)
  have HI := Lib.hid hI
  clear hI he hn hCR hG
  go_enter Try.func25, Try.ntmps25
  (go_wp2_with fail; refine (HR.out _ (HI.out.below (by repeat (first | exact Below.refl _ _ | refine Below.drew ?_ | refine below_drewN ?_ _ | refine Below.alloc ?_ (by first | exact Nat.le_refl _ | (simp; done) | (simp; omega) | omega) _ | refine Below.setCell ?_ (by first | exact Nat.le_refl _ | (simp; done) | (simp; omega) | omega) _ | refine bExtW ?_ (by first | exact Nat.le_refl _ | (simp; done) | (simp; omega) | omega) | refine Below.trans ?_ (Below.mono (by assumption) (by first | exact Nat.le_refl _ | (simp; done) | (simp; omega) | omega)))))).mono ?_; rintro r w1 ⟨rfl, hb⟩; obtain ⟨E, d, rfl⟩ := bExt hb; clear hb)
  (go_wp2_with fail; refine (HC.out _ (HI.out.below (by repeat (first | exact Below.refl _ _ | refine Below.drew ?_ | refine below_drewN ?_ _ | refine Below.alloc ?_ (by first | exact Nat.le_refl _ | (simp; done) | (simp; omega) | omega) _ | refine Below.setCell ?_ (by first | exact Nat.le_refl _ | (simp; done) | (simp; omega) | omega) _ | refine bExtW ?_ (by first | exact Nat.le_refl _ | (simp; done) | (simp; omega) | omega) | refine Below.trans ?_ (Below.mono (by assumption) (by first | exact Nat.le_refl _ | (simp; done) | (simp; omega) | omega)))))).mono ?_; rintro r w1 ⟨rfl, hb⟩; obtain ⟨E, d, rfl⟩ := bExt hb; clear hb)
  go_wp2
  go_ret2
  exact ⟨rfl, (by repeat (first | exact Below.refl _ _ | refine Below.drew ?_ | refine below_drewN ?_ _ | refine Below.alloc ?_ (by first | exact Nat.le_refl _ | (simp; done) | (simp; omega) | omega) _ | refine Below.setCell ?_ (by first | exact Nat.le_refl _ | (simp; done) | (simp; omega) | omega) _ | refine bExtW ?_ (by first | exact Nat.le_refl _ | (simp; done) | (simp; omega) | omega) | refine Below.trans ?_ (Below.mono (by assumption) (by first | exact Nat.le_refl _ | (simp; done) | (simp; omega) | omega))))⟩
set_option maxRecDepth 100000 in
set_option maxHeartbeats 8000000 in
theorem At_ok (G W H n : Nat) (a : Option Addr) (c : Nat) (cs : List Int) (x y : Int) (w : World) (hI : IsInts w a n cs) (hG : G = 4 ∨ G = 6) (hW1 : 0 < W) (hW : W ≤ 64) (hH1 : 0 < H) (hH : H ≤ 64) (hn : n = W * H) (hCR : ∀ x ∈ cs, 0 ≤ x ∧ x < 62) (hx : (-9223372036854775808 ≤ x ∧ x ≤ 9223372036854775807)) (hy : (-9223372036854775808 ≤ y ∧ y ≤ 9223372036854775807)) :
    Calls Try.prog 24 #[.agg #[.int .i64 (G), .int .i64 (W), .int .i64 (H), .slice a n c], .agg #[.int .i64 (x), .int .i64 (y)]] w fun e w' => e = .returned (.tuple #[.int .i64 (cellAt W H cs x y), .int .i64 (0)]) ∧ Below w.heap.size w w' := by
  have hn4 : n ≤ 4096 := by rw [hn]; exact Nat.mul_le_mul hW hH
  have he : chE G W H n cs = 0 := chE_ok (by omega) (by omega) hW (by omega) hH hn hCR
  have HR := Lib.hid (fun w hI => chWrong_any G W H a n c cs w hI (by omega) (by omega) (by omega) (by omega))
  rw [he] at HR
  have HI := Lib.hid hI
  obtain ⟨i, e1, i1, e2⟩ := emod_nat x hW1
  obtain ⟨j, e3, j1, e4⟩ := emod_nat y hH1
  have HC : Hid (cellAt W H cs x y = cs.getD (j * W + i) 0) := Lib.hid (by unfold cellAt; rw [e2, e4])
  obtain ⟨M, hM⟩ : ∃ M, j * W = M := ⟨_, rfl⟩
  obtain ⟨p, hp⟩ : ∃ p, M + i = p := ⟨_, rfl⟩
  have hpn : p < n := by
    have h1 : (j + 1) * W ≤ H * W := Nat.mul_le_mul_right W (by omega)
    have h2 : (j + 1) * W = j * W + W := Nat.succ_mul j W
    rw [hn, Nat.mul_comm W H]; omega
  have hMi : (j : Int) * (W : Int) = (M : Int) := by rw [← hM]; push_cast; rfl
  have hMp : (M : Int) + (i : Int) = (p : Int) := by rw [← hp]; push_cast; rfl
  have hM4 : M ≤ 4096 := by omega
  have vM : IntKind.i64.wrap (M : Int) = (M : Int) := IntWalk.i64_in _ (by omega)
  have vp : IntKind.i64.wrap (p : Int) = (p : Int) := IntWalk.i64_in _ (by omega)
  have rx := rest_eq (a := x) hW1
  have ry := rest_eq (a := y) hH1
  rw [e1] at rx
  rw [e3] at ry
  have hx1 := Int.tmod_lt_of_pos x (show (0 : Int) < W by omega)
  have hx2 := Int.lt_tmod_of_pos x (show (0 : Int) < W by omega)
  have hy1 := Int.tmod_lt_of_pos y (show (0 : Int) < H by omega)
  have hy2 := Int.lt_tmod_of_pos y (show (0 : Int) < H by omega)
  have w0 : ((W : Int) == 0) = false := by simp; omega
  have w1 : (W : Int) ≠ 0 := by omega
  have w2 : ¬ W = 0 := by omega
  have h0 : ((H : Int) == 0) = false := by simp; omega
  have h1 : (H : Int) ≠ 0 := by omega
  have h2 : ¬ H = 0 := by omega
  rw [hM, hp] at HC
  obtain ⟨v, hv⟩ : ∃ v, cs.getD p 0 = v := ⟨_, rfl⟩
  rw [hv] at HC
  obtain ⟨tx, htx⟩ : ∃ t, x.tmod (W : Int) = t := ⟨_, rfl⟩
  obtain ⟨ty, hty⟩ : ∃ t, y.tmod (H : Int) = t := ⟨_, rfl⟩
  rw [htx] at rx hx1 hx2
  rw [hty] at ry hy1 hy2
  have v1 : IntKind.i64.wrap tx = tx := IntWalk.i64_in _ (by omega)
  have v2 : IntKind.i64.wrap ty = ty := IntWalk.i64_in _ (by omega)
  rw [HC.out]
  clear hI he hn hCR hG e1 e2 e3 e4 hM hp
  by_cases nx : tx < 0
  · rw [if_pos nx] at rx
    have d1 : decide (tx < 0) = true := by simpa using nx
    have a1 : tx + (W : Int) = (i : Int) := rx.symm
    by_cases ny : ty < 0
    · rw [if_pos ny] at ry
      have d2 : decide (ty < 0) = true := by simpa using ny
      have a2 : ty + (H : Int) = (j : Int) := ry.symm
      clear rx ry nx ny
      go_enter Try.func24, Try.ntmps24
      (go_wp2_with fail; refine (HR.out _ (HI.out.below (by repeat (first | exact Below.refl _ _ | refine Below.drew ?_ | refine below_drewN ?_ _ | refine Below.alloc ?_ (by first | exact Nat.le_refl _ | (simp; done) | (simp; omega) | omega) _ | refine Below.setCell ?_ (by first | exact Nat.le_refl _ | (simp; done) | (simp; omega) | omega) _ | refine bExtW ?_ (by first | exact Nat.le_refl _ | (simp; done) | (simp; omega) | omega) | refine Below.trans ?_ (Below.mono (by assumption) (by first | exact Nat.le_refl _ | (simp; done) | (simp; omega) | omega)))))).mono ?_; rintro r w1 ⟨rfl, hb⟩; obtain ⟨E, d, rfl⟩ := bExt hb; clear hb)
      have hI2 := HI.out.below (w' := extW ((w.alloc (.cells #[.int .i64 (G : Int), .int .i64 (W : Int), .int .i64 (H : Int), .slice a n c] 36)).alloc (.cells #[.int .i64 (x), .int .i64 (y)] 38)) E d) (by repeat (first | exact Below.refl _ _ | refine Below.drew ?_ | refine below_drewN ?_ _ | refine Below.alloc ?_ (by first | exact Nat.le_refl _ | (simp; done) | (simp; omega) | omega) _ | refine Below.setCell ?_ (by first | exact Nat.le_refl _ | (simp; done) | (simp; omega) | omega) _ | refine bExtW ?_ (by first | exact Nat.le_refl _ | (simp; done) | (simp; omega) | omega) | refine Below.trans ?_ (Below.mono (by assumption) (by first | exact Nat.le_refl _ | (simp; done) | (simp; omega) | omega))))
      obtain ⟨b, o, rfl, hb, hc⟩ := hI2.2 (by omega)
      have c0 := hc p hpn
      have lb : LtW b (extW ((w.alloc (.cells #[.int .i64 (G : Int), .int .i64 (W : Int), .int .i64 (H : Int), .slice (some ⟨b, o, none⟩) n c] 36)).alloc (.cells #[.int .i64 (x), .int .i64 (y)] 38)) E d) := hb
      rw [hv] at c0
      clear hI2 hb hc
      go_wp2_with fail
      (refine wp_region_ext (by kernel_rfl) (by kernel_rfl) ?_; (repeat (first | ((with_reducible refine ext_step (fun K hK => ?_)); go_simp; first | (refine hK _ ?_; clear hK K) | (apply Exists.intro; refine ⟨fun _ _ => ?_, hK _ ?_⟩; fail; clear hK K)))); refine wpQuiet_nil ?_; intro E d)
      go_wp2
      go_ret2
      exact ⟨rfl, (by repeat (first | exact Below.refl _ _ | refine Below.drew ?_ | refine below_drewN ?_ _ | refine Below.alloc ?_ (by first | exact Nat.le_refl _ | (simp; done) | (simp; omega) | omega) _ | refine Below.setCell ?_ (by first | exact Nat.le_refl _ | (simp; done) | (simp; omega) | omega) _ | refine bExtW ?_ (by first | exact Nat.le_refl _ | (simp; done) | (simp; omega) | omega) | refine Below.trans ?_ (Below.mono (by assumption) (by first | exact Nat.le_refl _ | (simp; done) | (simp; omega) | omega))))⟩
    · rw [if_neg ny] at ry
      have d2 : decide (ty < 0) = false := by simpa using ny
      subst ry
      clear rx nx ny
      go_enter Try.func24, Try.ntmps24
      (go_wp2_with fail; refine (HR.out _ (HI.out.below (by repeat (first | exact Below.refl _ _ | refine Below.drew ?_ | refine below_drewN ?_ _ | refine Below.alloc ?_ (by first | exact Nat.le_refl _ | (simp; done) | (simp; omega) | omega) _ | refine Below.setCell ?_ (by first | exact Nat.le_refl _ | (simp; done) | (simp; omega) | omega) _ | refine bExtW ?_ (by first | exact Nat.le_refl _ | (simp; done) | (simp; omega) | omega) | refine Below.trans ?_ (Below.mono (by assumption) (by first | exact Nat.le_refl _ | (simp; done) | (simp; omega) | omega)))))).mono ?_; rintro r w1 ⟨rfl, hb⟩; obtain ⟨E, d, rfl⟩ := bExt hb; clear hb)
      have hI2 := HI.out.below (w' := extW ((w.alloc (.cells #[.int .i64 (G : Int), .int .i64 (W : Int), .int .i64 (H : Int), .slice a n c] 36)).alloc (.cells #[.int .i64 (x), .int .i64 (y)] 38)) E d) (by repeat (first | exact Below.refl _ _ | refine Below.drew ?_ | refine below_drewN ?_ _ | refine Below.alloc ?_ (by first | exact Nat.le_refl _ | (simp; done) | (simp; omega) | omega) _ | refine Below.setCell ?_ (by first | exact Nat.le_refl _ | (simp; done) | (simp; omega) | omega) _ | refine bExtW ?_ (by first | exact Nat.le_refl _ | (simp; done) | (simp; omega) | omega) | refine Below.trans ?_ (Below.mono (by assumption) (by first | exact Nat.le_refl _ | (simp; done) | (simp; omega) | omega))))
      obtain ⟨b, o, rfl, hb, hc⟩ := hI2.2 (by omega)
      have c0 := hc p hpn
      have lb : LtW b (extW ((w.alloc (.cells #[.int .i64 (G : Int), .int .i64 (W : Int), .int .i64 (H : Int), .slice (some ⟨b, o, none⟩) n c] 36)).alloc (.cells #[.int .i64 (x), .int .i64 (y)] 38)) E d) := hb
      rw [hv] at c0
      clear hI2 hb hc
      go_wp2_with fail
      (refine wp_region_ext (by kernel_rfl) (by kernel_rfl) ?_; (repeat (first | ((with_reducible refine ext_step (fun K hK => ?_)); go_simp; first | (refine hK _ ?_; clear hK K) | (apply Exists.intro; refine ⟨fun _ _ => ?_, hK _ ?_⟩; fail; clear hK K)))); refine wpQuiet_nil ?_; intro E d)
      go_wp2
      go_ret2
      exact ⟨rfl, (by repeat (first | exact Below.refl _ _ | refine Below.drew ?_ | refine below_drewN ?_ _ | refine Below.alloc ?_ (by first | exact Nat.le_refl _ | (simp; done) | (simp; omega) | omega) _ | refine Below.setCell ?_ (by first | exact Nat.le_refl _ | (simp; done) | (simp; omega) | omega) _ | refine bExtW ?_ (by first | exact Nat.le_refl _ | (simp; done) | (simp; omega) | omega) | refine Below.trans ?_ (Below.mono (by assumption) (by first | exact Nat.le_refl _ | (simp; done) | (simp; omega) | omega))))⟩
  · rw [if_neg nx] at rx
    have d1 : decide (tx < 0) = false := by simpa using nx
    subst rx
    by_cases ny : ty < 0
    · rw [if_pos ny] at ry
      have d2 : decide (ty < 0) = true := by simpa using ny
      have a2 : ty + (H : Int) = (j : Int) := ry.symm
      clear ry nx ny
      go_enter Try.func24, Try.ntmps24
      (go_wp2_with fail; refine (HR.out _ (HI.out.below (by repeat (first | exact Below.refl _ _ | refine Below.drew ?_ | refine below_drewN ?_ _ | refine Below.alloc ?_ (by first | exact Nat.le_refl _ | (simp; done) | (simp; omega) | omega) _ | refine Below.setCell ?_ (by first | exact Nat.le_refl _ | (simp; done) | (simp; omega) | omega) _ | refine bExtW ?_ (by first | exact Nat.le_refl _ | (simp; done) | (simp; omega) | omega) | refine Below.trans ?_ (Below.mono (by assumption) (by first | exact Nat.le_refl _ | (simp; done) | (simp; omega) | omega)))))).mono ?_; rintro r w1 ⟨rfl, hb⟩; obtain ⟨E, d, rfl⟩ := bExt hb; clear hb)
      have hI2 := HI.out.below (w' := extW ((w.alloc (.cells #[.int .i64 (G : Int), .int .i64 (W : Int), .int .i64 (H : Int), .slice a n c] 36)).alloc (.cells #[.int .i64 (x), .int .i64 (y)] 38)) E d) (by repeat (first | exact Below.refl _ _ | refine Below.drew ?_ | refine below_drewN ?_ _ | refine Below.alloc ?_ (by first | exact Nat.le_refl _ | (simp; done) | (simp; omega) | omega) _ | refine Below.setCell ?_ (by first | exact Nat.le_refl _ | (simp; done) | (simp; omega) | omega) _ | refine bExtW ?_ (by first | exact Nat.le_refl _ | (simp; done) | (simp; omega) | omega) | refine Below.trans ?_ (Below.mono (by assumption) (by first | exact Nat.le_refl _ | (simp; done) | (simp; omega) | omega))))
      obtain ⟨b, o, rfl, hb, hc⟩ := hI2.2 (by omega)
      have c0 := hc p hpn
      have lb : LtW b (extW ((w.alloc (.cells #[.int .i64 (G : Int), .int .i64 (W : Int), .int .i64 (H : Int), .slice (some ⟨b, o, none⟩) n c] 36)).alloc (.cells #[.int .i64 (x), .int .i64 (y)] 38)) E d) := hb
      rw [hv] at c0
      clear hI2 hb hc
      go_wp2_with fail
      (refine wp_region_ext (by kernel_rfl) (by kernel_rfl) ?_; (repeat (first | ((with_reducible refine ext_step (fun K hK => ?_)); go_simp; first | (refine hK _ ?_; clear hK K) | (apply Exists.intro; refine ⟨fun _ _ => ?_, hK _ ?_⟩; fail; clear hK K)))); refine wpQuiet_nil ?_; intro E d)
      go_wp2
      go_ret2
      exact ⟨rfl, (by repeat (first | exact Below.refl _ _ | refine Below.drew ?_ | refine below_drewN ?_ _ | refine Below.alloc ?_ (by first | exact Nat.le_refl _ | (simp; done) | (simp; omega) | omega) _ | refine Below.setCell ?_ (by first | exact Nat.le_refl _ | (simp; done) | (simp; omega) | omega) _ | refine bExtW ?_ (by first | exact Nat.le_refl _ | (simp; done) | (simp; omega) | omega) | refine Below.trans ?_ (Below.mono (by assumption) (by first | exact Nat.le_refl _ | (simp; done) | (simp; omega) | omega))))⟩
    · rw [if_neg ny] at ry
      have d2 : decide (ty < 0) = false := by simpa using ny
      subst ry
      clear nx ny
      go_enter Try.func24, Try.ntmps24
      (go_wp2_with fail; refine (HR.out _ (HI.out.below (by repeat (first | exact Below.refl _ _ | refine Below.drew ?_ | refine below_drewN ?_ _ | refine Below.alloc ?_ (by first | exact Nat.le_refl _ | (simp; done) | (simp; omega) | omega) _ | refine Below.setCell ?_ (by first | exact Nat.le_refl _ | (simp; done) | (simp; omega) | omega) _ | refine bExtW ?_ (by first | exact Nat.le_refl _ | (simp; done) | (simp; omega) | omega) | refine Below.trans ?_ (Below.mono (by assumption) (by first | exact Nat.le_refl _ | (simp; done) | (simp; omega) | omega)))))).mono ?_; rintro r w1 ⟨rfl, hb⟩; obtain ⟨E, d, rfl⟩ := bExt hb; clear hb)
      have hI2 := HI.out.below (w' := extW ((w.alloc (.cells #[.int .i64 (G : Int), .int .i64 (W : Int), .int .i64 (H : Int), .slice a n c] 36)).alloc (.cells #[.int .i64 (x), .int .i64 (y)] 38)) E d) (by repeat (first | exact Below.refl _ _ | refine Below.drew ?_ | refine below_drewN ?_ _ | refine Below.alloc ?_ (by first | exact Nat.le_refl _ | (simp; done) | (simp; omega) | omega) _ | refine Below.setCell ?_ (by first | exact Nat.le_refl _ | (simp; done) | (simp; omega) | omega) _ | refine bExtW ?_ (by first | exact Nat.le_refl _ | (simp; done) | (simp; omega) | omega) | refine Below.trans ?_ (Below.mono (by assumption) (by first | exact Nat.le_refl _ | (simp; done) | (simp; omega) | omega))))
      obtain ⟨b, o, rfl, hb, hc⟩ := hI2.2 (by omega)
      have c0 := hc p hpn
      have lb : LtW b (extW ((w.alloc (.cells #[.int .i64 (G : Int), .int .i64 (W : Int), .int .i64 (H : Int), .slice (some ⟨b, o, none⟩) n c] 36)).alloc (.cells #[.int .i64 (x), .int .i64 (y)] 38)) E d) := hb
      rw [hv] at c0
      clear hI2 hb hc
      go_wp2_with fail
      (refine wp_region_ext (by kernel_rfl) (by kernel_rfl) ?_; (repeat (first | ((with_reducible refine ext_step (fun K hK => ?_)); go_simp; first | (refine hK _ ?_; clear hK K) | (apply Exists.intro; refine ⟨fun _ _ => ?_, hK _ ?_⟩; fail; clear hK K)))); refine wpQuiet_nil ?_; intro E d)
      go_wp2
      go_ret2
      exact ⟨rfl, (by repeat (first | exact Below.refl _ _ | refine Below.drew ?_ | refine below_drewN ?_ _ | refine Below.alloc ?_ (by first | exact Nat.le_refl _ | (simp; done) | (simp; omega) | omega) _ | refine Below.setCell ?_ (by first | exact Nat.le_refl _ | (simp; done) | (simp; omega) | omega) _ | refine bExtW ?_ (by first | exact Nat.le_refl _ | (simp; done) | (simp; omega) | omega) | refine Below.trans ?_ (Below.mono (by assumption) (by first | exact Nat.le_refl _ | (simp; done) | (simp; omega) | omega))))⟩
end Go.Proofs.Ytdaacjaibfcacaa
