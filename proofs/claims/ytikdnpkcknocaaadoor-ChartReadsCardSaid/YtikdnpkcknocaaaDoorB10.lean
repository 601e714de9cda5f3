/- Lemmas and contracts of functions (what each call returns, and that it changes nothing that was there) that the proof of a law of this seat uses; each lemma states its own conditions. -/
import Derived.Test.YtikdnpkcknocaaaDoorB03
import Derived.Test.YtikdnpkcknocaaaDoorB09
namespace Go.Proofs.YtikdnpkcknocaaaDoor
open Go.RowKit
set_option linter.unusedVariables false
set_option linter.unusedSimpArgs false
theorem rest_eq {a : Int} {n : Nat} (hn : 0 < n) : a % (n : Int) = if a.tmod n < 0 then a.tmod n + n else a.tmod n := by
  have h0 : (0 : Int) < n := by omega
  have h1 : a = a.tmod n + n * a.tdiv n := (Int.tmod_add_mul_tdiv a n).symm
  have e : a % (n : Int) = (a.tmod n) % (n : Int) := by
    conv => lhs; rw [h1]
    rw [Int.add_mul_emod_self_left]
  have hlt := Int.tmod_lt_of_pos a h0
  have hgt := Int.lt_tmod_of_pos a h0
  rw [e]
  split
  · rw [← Int.add_emod_right, Int.emod_eq_of_lt (by omega) (by omega)]
  · exact Int.emod_eq_of_lt (by omega) hlt
/-- The cell at a point, anywhere. -/
def cellAt (W H : Nat) (cs : List Int) (x y : Int) : Int := cs.getD ((y % (H : Int)).toNat * W + (x % (W : Int)).toNat) 0
theorem emod_nat (a : Int) {n : Nat} (hn : 0 < n) : ∃ k : Nat, a % (n : Int) = k ∧ k < n ∧ (a % (n : Int)).toNat = k := by
  have h1 := Int.emod_nonneg a (show (n : Int) ≠ 0 by omega)
  have h2 := Int.emod_lt_of_pos a (show (0 : Int) < n by omega)
  exact ⟨(a % (n : Int)).toNat, by omega, by omega, rfl⟩
/-- What At tells. -/
def atE (G W H : Int) (n : Nat) (cs : List Int) (x y : Int) : Int := if chE G W H n cs = 0 then cellAt W.toNat H.toNat cs x y else 0
set_option maxRecDepth 100000 in
set_option maxHeartbeats 8000000 in
theorem At_ok (G W H n : Nat) (a : Option Addr) (c : Nat) (cs : List Int) (x y : Int) (w : World) (hI : IsInts w a n cs) (hG : G = 4 ∨ G = 6) (hW1 : 0 < W) (hW : W ≤ 64) (hH1 : 0 < H) (hH : H ≤ 64) (hn : n = W * H) (hCR : ∀ x ∈ cs, 0 ≤ x ∧ x < 62) (hx : (-9223372036854775808 ≤ x ∧ x ≤ 9223372036854775807)) (hy : (-9223372036854775808 ≤ y ∧ y ≤ 9223372036854775807)) :
    Calls Tryd.prog 14 #[.agg #[.int .i64 (G), .int .i64 (W), .int .i64 (H), .slice a n c], .agg #[.int .i64 (x), .int .i64 (y)]] w fun e w' => e = .returned (.tuple #[.int .i64 (cellAt W H cs x y), .int .i64 (0)]) ∧ Below w.heap.size w w' := by
  have hn4 : n ≤ 4096 := by rw [hn]; exact Nat.mul_le_mul hW hH
  have he : chE G W H n cs = 0 := chE_ok (by omega) (by omega) hW (by omega) hH hn hCR
  have HR := Lib.hid (fun w hI => chWrong_any G W H a n c cs w hI (by omega) (by omega) (by omega) (by omega))
  rw [he] at HR
  have HI := Lib.hid hI
  obtain ⟨i, e1, i1, e2⟩ := emod_nat x hW1
  obtain ⟨j, e3, j1, e4⟩ := emod_nat y hH1
  have HC : Hid (cellAt W H cs x y = cs.getD (j * W + i) 0) := Lib.hid (by unfold cellAt; rw [e2, e4])
  obtain ⟨M, hM⟩ : ∃ M, j * W = M := ⟨_, rfl⟩
  obtain ⟨p, hp⟩ : ∃ p, M + i = p := ⟨_, rfl⟩
  have hpn : p < n := by
    have h1 : (j + 1) * W ≤ H * W := Nat.mul_le_mul_right W (by omega)
    have h2 : (j + 1) * W = j * W + W := Nat.succ_mul j W
    rw [hn, Nat.mul_comm W H]; omega
  have hMi : (j : Int) * (W : Int) = (M : Int) := by rw [← hM]; push_cast; rfl
  have hMp : (M : Int) + (i : Int) = (p : Int) := by rw [← hp]; push_cast; rfl
  have hM4 : M ≤ 4096 := by omega
  have vM : IntKind.i64.wrap (M : Int) = (M : Int) := IntWalk.i64_in _ (by omega)
  have vp : IntKind.i64.wrap (p : Int) = (p : Int) := IntWalk.i64_in _ (by omega)
  have rx := rest_eq (a := x) hW1
  have ry := rest_eq (a := y) hH1
  rw [e1] at rx
  rw [e3] at ry
  have hx1 := Int.tmod_lt_of_pos x (show (0 : Int) < W by omega)
  have hx2 := Int.lt_tmod_of_pos x (show (0 : Int) < W by omega)
  have hy1 := Int.tmod_lt_of_pos y (show (0 : Int) < H by omega)
  have hy2 := Int.lt_tmod_of_pos y (show (0 : Int) < H by omega)
  have w0 : ((W : Int) == 0) = false := by simp; omega
  have w1 : (W : Int) ≠ 0 := by omega
  have w2 : ¬ W = 0 := by omega
  have h0 : ((H : Int) == 0) = false := by simp; omega
  have h1 : (H : Int) ≠ 0 := by omega
  have h2 : ¬ H = 0 := by omega
  rw [hM, hp] at HC
  obtain ⟨v, hv⟩ : ∃ v, cs.getD p 0 = v := ⟨_, rfl⟩
  rw [hv] at HC
  obtain ⟨tx, htx⟩ : ∃ t, x.tmod (W : Int) = t := ⟨_, rfl⟩
  obtain ⟨ty, hty⟩ : ∃ t, y.tmod (H : Int) = t := ⟨_, rfl⟩
  rw [htx] at rx hx1 hx2
  rw [hty] at ry hy1 hy2
  have v1 : IntKind.i64.wrap tx = tx := IntWalk.i64_in _ (by omega)
  have v2 : IntKind.i64.wrap ty = ty := IntWalk.i64_in _ (by omega)
  rw [HC.out]
  clear hI he hn hCR hG e1 e2 e3 e4 hM hp
  by_cases nx : tx < 0
  · rw [if_pos nx] at rx
    have d1 : decide (tx < 0) = true := by simpa using nx
    have a1 : tx + (W : Int) = (i : Int) := rx.symm
    by_cases ny : ty < 0
    · rw [if_pos ny] at ry
      have d2 : decide (ty < 0) = true := by simpa using ny
      have a2 : ty + (H : Int) = (j : Int) := ry.symm
      clear rx ry nx ny
      go_enter Tryd.func14, Tryd.ntmps14
      (go_wp2_with fail; refine (HR.out _ (HI.out.below (by repeat (first | exact Below.refl _ _ | refine Below.drew ?_ | refine below_drewN ?_ _ | refine Below.alloc ?_ (by first | exact Nat.le_refl _ | (simp; done) | (simp; omega) | omega) _ | refine Below.setCell ?_ (by first | exact Nat.le_refl _ | (simp; done) | (simp; omega) | omega) _ | refine bExtW ?_ (by first | exact Nat.le_refl _ | (simp; done) | (simp; omega) | omega) | refine Below.trans ?_ (Below.mono (by assumption) (by first | exact Nat.le_refl _ | (simp; done) | (simp; omega) | omega)))))).mono ?_; rintro r w1 ⟨rfl, hb⟩; obtain ⟨E, d, rfl⟩ := bExt hb; clear hb)
      have hI2 := HI.out.below (w' := extW ((w.alloc (.cells #[.int .i64 (G : Int), .int .i64 (W : Int), .int .i64 (H : Int), .slice a n c] 27)).alloc (.cells #[.int .i64 (x), .int .i64 (y)] 36)) E d) (by repeat (first | exact Below.refl _ _ | refine Below.drew ?_ | refine below_drewN ?_ _ | refine Below.alloc ?_ (by first | exact Nat.le_refl _ | (simp; done) | (simp; omega) | omega) _ | refine Below.setCell ?_ (by first | exact Nat.le_refl _ | (simp; done) | (simp; omega) | omega) _ | refine bExtW ?_ (by first | exact Nat.le_refl _ | (simp; done) | (simp; omega) | omega) | refine Below.trans ?_ (Below.mono (by assumption) (by first | exact Nat.le_refl _ | (simp; done) | (simp; omega) | omega))))
      obtain ⟨b, o, rfl, hb, hc⟩ := hI2.2 (by omega)
      have c0 := hc p hpn
      have lb : LtW b (extW ((w.alloc (.cells #[.int .i64 (G : Int), .int .i64 (W : Int), .int .i64 (H : Int), .slice (some ⟨b, o, none⟩) n c] 27)).alloc (.cells #[.int .i64 (x), .int .i64 (y)] 36)) E d) := hb
      rw [hv] at c0
      clear hI2 hb hc
      go_wp2_with fail
      (refine wp_region_ext (by kernel_rfl) (by kernel_rfl) ?_; (repeat (first | ((with_reducible refine ext_step (fun K hK => ?_)); go_simp; first | (refine hK _ ?_; clear hK K) | (apply Exists.intro; refine ⟨fun _ _ => ?_, hK _ ?_⟩; fail; clear hK K)))); refine wpQuiet_nil ?_; intro E d)
      go_wp2
      go_ret2
      exact ⟨rfl, (by repeat (first | exact Below.refl _ _ | refine Below.drew ?_ | refine below_drewN ?_ _ | refine Below.alloc ?_ (by first | exact Nat.le_refl _ | (simp; done) | (simp; omega) | omega) _ | refine Below.setCell ?_ (by first | exact Nat.le_refl _ | (simp; done) | (simp; omega) | omega) _ | refine bExtW ?_ (by first | exact Nat.le_refl _ | (simp; done) | (simp; omega) | omega) | refine Below.trans ?_ (Below.mono (by assumption) (by first | exact Nat.le_refl _ | (simp; done) | (simp; omega) | omega))))⟩
    · rw [if_neg ny] at ry
      have d2 : decide (ty < 0) = false := by simpa using ny
      subst ry
      clear rx nx ny
      go_enter Tryd.func14, Tryd.ntmps14
      (go_wp2_with fail; refine (HR.out _ (HI.out.below (by repeat (first | exact Below.refl _ _ | refine Below.drew ?_ | refine below_drewN ?_ _ | refine Below.alloc ?_ (by first | exact Nat.le_refl _ | (simp; done) | (simp; omega) | omega) _ | refine Below.setCell ?_ (by first | exact Nat.le_refl _ | (simp; done) | (simp; omega) | omega) _ | refine bExtW ?_ (by first | exact Nat.le_refl _ | (simp; done) | (simp; omega) | omega) | refine Below.trans ?_ (Below.mono (by assumption) (by first | exact Nat.le_refl _ | (simp; done) | (simp; omega) | omega)))))).mono ?_; rintro r w1 ⟨rfl, hb⟩; obtain ⟨E, d, rfl⟩ := bExt hb; clear hb)
      have hI2 := HI.out.below (w' := extW ((w.alloc (.cells #[.int .i64 (G : Int), .int .i64 (W : Int), .int .i64 (H : Int), .slice a n c] 27)).alloc (.cells #[.int .i64 (x), .int .i64 (y)] 36)) E d) (by repeat (first | exact Below.refl _ _ | refine Below.drew ?_ | refine below_drewN ?_ _ | refine Below.alloc ?_ (by first | exact Nat.le_refl _ | (simp; done) | (simp; omega) | omega) _ | refine Below.setCell ?_ (by first | exact Nat.le_refl _ | (simp; done) | (simp; omega) | omega) _ | refine bExtW ?_ (by first | exact Nat.le_refl _ | (simp; done) | (simp; omega) | omega) | refine Below.trans ?_ (Below.mono (by assumption) (by first | exact Nat.le_refl _ | (simp; done) | (simp; omega) | omega))))
      obtain ⟨b, o, rfl, hb, hc⟩ := hI2.2 (by omega)
      have c0 := hc p hpn
      have lb : LtW b (extW ((w.alloc (.cells #[.int .i64 (G : Int), .int .i64 (W : Int), .int .i64 (H : Int), .slice (some ⟨b, o, none⟩) n c] 27)).alloc (.cells #[.int .i64 (x), .int .i64 (y)] 36)) E d) := hb
      rw [hv] at c0
      clear hI2 hb hc
      go_wp2_with fail
      (refine wp_region_ext (by kernel_rfl) (by kernel_rfl) ?_; (repeat (first | ((with_reducible refine ext_step (fun K hK => ?_)); go_simp; first | (refine hK _ ?_; clear hK K) | (apply Exists.intro; refine ⟨fun _ _ => ?_, hK _ ?_⟩; fail; clear hK K)))); refine wpQuiet_nil ?_; intro E d)
      go_wp2
      go_ret2
      exact ⟨rfl, (by repeat (first | exact Below.refl _ _ | refine Below.drew ?_ | refine below_drewN ?_ _ | refine Below.alloc ?_ (by first | exact Nat.le_refl _ | (simp; done) | (simp; omega) | omega) _ | refine Below.setCell ?_ (by first | exact Nat.le_refl _ | (simp; done) | (simp; omega) | omega) _ | refine bExtW ?_ (by first | exact Nat.le_refl _ | (simp; done) | (simp; omega) | omega) | refine Below.trans ?_ (Below.mono (by assumption) (by first | exact Nat.le_refl _ | (simp; done) | (simp; omega) | omega))))⟩
  · rw [if_neg nx] at rx
    have d1 : decide (tx < 0) = false := by simpa using nx
    subst rx
    by_cases ny : ty < 0
    · rw [if_pos ny] at ry
      have d2 : decide (ty < 0) = true := by simpa using ny
      have a2 : ty + (H : Int) = (j : Int) := ry.symm
      clear ry nx ny
      go_enter Tryd.func14, Tryd.ntmps14
      (go_wp2_with fail; refine (HR.out _ (HI.out.below (by repeat (first | exact Below.refl _ _ | refine Below.drew ?_ | refine below_drewN ?_ _ | refine Below.alloc ?_ (by first | exact Nat.le_refl _ | (simp; done) | (simp; omega) | omega) _ | refine Below.setCell ?_ (by first | exact Nat.le_refl _ | (simp; done) | (simp; omega) | omega) _ | refine bExtW ?_ (by first | exact Nat.le_refl _ | (simp; done) | (simp; omega) | omega) | refine Below.trans ?_ (Below.mono (by assumption) (by first | exact Nat.le_refl _ | (simp; done) | (simp; omega) | omega)))))).mono ?_; rintro r w1 ⟨rfl, hb⟩; obtain ⟨E, d, rfl⟩ := bExt hb; clear hb)
      have hI2 := HI.out.below (w' := extW ((w.alloc (.cells #[.int .i64 (G : Int), .int .i64 (W : Int), .int .i64 (H : Int), .slice a n c] 27)).alloc (.cells #[.int .i64 (x), .int .i64 (y)] 36)) E d) (by repeat (first | exact Below.refl _ _ | refine Below.drew ?_ | refine below_drewN ?_ _ | refine Below.alloc ?_ (by first | exact Nat.le_refl _ | (simp; done) | (simp; omega) | omega) _ | refine Below.setCell ?_ (by first | exact Nat.le_refl _ | (simp; done) | (simp; omega) | omega) _ | refine bExtW ?_ (by first | exact Nat.le_refl _ | (simp; done) | (simp; omega) | omega) | refine Below.trans ?_ (Below.mono (by assumption) (by first | exact Nat.le_refl _ | (simp; done) | (simp; omega) | omega))))
      obtain ⟨b, o, rfl, hb, hc⟩ := hI2.2 (by omega)
      have c0 := hc p hpn
      have lb : LtW b (extW ((w.alloc (.cells #[.int .i64 (G : Int), .int .i64 (W : Int), .int .i64 (H : Int), .slice (some ⟨b, o, none⟩) n c] 27)).alloc (.cells #[.int .i64 (x), .int .i64 (y)] 36)) E d) := hb
      rw [hv] at c0
      clear hI2 hb hc
      go_wp2_with fail
      (refine wp_region_ext (by kernel_rfl) (by kernel_rfl) ?_; (repeat (first | ((with_reducible refine ext_step (fun K hK => ?_)); go_simp; first | (refine hK _ ?_; clear hK K) | (apply Exists.intro; refine ⟨fun _ _ => ?_, hK _ ?_⟩; fail; clear hK K)))); refine wpQuiet_nil ?_; intro E d)
      go_wp2
      go_ret2
      exact ⟨rfl, (by repeat (first | exact Below.refl _ _ | refine Below.drew ?_ | refine below_drewN ?_ _ | refine Below.alloc ?_ (by first | exact Nat.le_refl _ | (simp; done) | (simp; omega) | omega) _ | refine Below.setCell ?_ (by first | exact Nat.le_refl _ | (simp; done) | (simp; omega) | omega) _ | refine bExtW ?_ (by first | exact Nat.le_refl _ | (simp; done) | (simp; omega) | omega) | refine Below.trans ?_ (Below.mono (by assumption) (by first | exact Nat.le_refl _ | (simp; done) | (simp; omega) | omega))))⟩
    · rw [if_neg ny] at ry
      have d2 : decide (ty < 0) = false := by simpa using ny
      subst ry
      clear nx ny
      go_enter Tryd.func14, Tryd.ntmps14
      (go_wp2_with fail; refine (HR.out _ (HI.out.below (by repeat (first | exact Below.refl _ _ | refine Below.drew ?_ | refine below_drewN ?_ _ | refine Below.alloc ?_ (by first | exact Nat.le_refl _ | (simp; done) | (simp; omega) | omega) _ | refine Below.setCell ?_ (by first | exact Nat.le_refl _ | (simp; done) | (simp; omega) | omega) _ | refine bExtW ?_ (by first | exact Nat.le_refl _ | (simp; done) | (simp; omega) | omega) | refine Below.trans ?_ (Below.mono (by assumption) (by first | exact Nat.le_refl _ | (simp; done) | (simp; omega) | omega)))))).mono ?_; rintro r w1 ⟨rfl, hb⟩; obtain ⟨E, d, rfl⟩ := bExt hb; clear hb)
      have hI2 := HI.out.below (w' := extW ((w.alloc (.cells #[.int .i64 (G : Int), .int .i64 (W : Int), .int .i64 (H : Int), .slice a n c] 27)).alloc (.cells #[.int .i64 (x), .int .i64 (y)] 36)) E d) (by repeat (first | exact Below.refl _ _ | refine Below.drew ?_ | refine below_drewN ?_ _ | refine Below.alloc ?_ (by first | exact Nat.le_refl _ | (simp; done) | (simp; omega) | omega) _ | refine Below.setCell ?_ (by first | exact Nat.le_refl _ | (simp; done) | (simp; omega) | omega) _ | refine bExtW ?_ (by first | exact Nat.le_refl _ | (simp; done) | (simp; omega) | omega) | refine Below.trans ?_ (Below.mono (by assumption) (by first | exact Nat.le_refl _ | (simp; done) | (simp; omega) | omega))))
      obtain ⟨b, o, rfl, hb, hc⟩ := hI2.2 (by omega)
      have c0 := hc p hpn
      have lb : LtW b (extW ((w.alloc (.cells #[.int .i64 (G : Int), .int .i64 (W : Int), .int .i64 (H : Int), .slice (some ⟨b, o, none⟩) n c] 27)).alloc (.cells #[.int .i64 (x), .int .i64 (y)] 36)) E d) := hb
      rw [hv] at c0
      clear hI2 hb hc
      go_wp2_with fail
      (refine wp_region_ext (by kernel_rfl) (by kernel_rfl) ?_; (repeat (first | ((with_reducible refine ext_step (fun K hK => ?_)); go_simp; first | (refine hK _ ?_; clear hK K) | (apply Exists.intro; refine ⟨fun _ _ => ?_, hK _ ?_⟩; fail; clear hK K)))); refine wpQuiet_nil ?_; intro E d)
      go_wp2
      go_ret2
      exact ⟨rfl, (by repeat (first | exact Below.refl _ _ | refine Below.drew ?_ | refine below_drewN ?_ _ | refine Below.alloc ?_ (by first | exact Nat.le_refl _ | (simp; done) | (simp; omega) | omega) _ | refine Below.setCell ?_ (by first | exact Nat.le_refl _ | (simp; done) | (simp; omega) | omega) _ | refine bExtW ?_ (by first | exact Nat.le_refl _ | (simp; done) | (simp; omega) | omega) | refine Below.trans ?_ (Below.mono (by assumption) (by first | exact Nat.le_refl _ | (simp; done) | (simp; omega) | omega))))⟩
end Go.Proofs.YtikdnpkcknocaaaDoor

namespace Go.Proofs.YtikdnpkcknocaaaDoor
open Go.RowKit
set_option linter.unusedVariables false
set_option linter.unusedSimpArgs false
/-- The letters of Greek without the second small sigma. -/
def skipK (n : Nat) : Nat := if 17 ≤ n then n + 1 else n
/-- The rune of a colour. -/
def signK (c : Nat) : Nat := if c = 0 then 183 else if c = 1 then 9608 else if c < 12 then 46 + c else if c < 36 then 945 + skipK (c - 12) else 61 + c
set_option maxRecDepth 100000 in
set_option maxHeartbeats 8000000 in
theorem skipped_ok (n : Nat) (w : World) (hn : n < 62) :
    Calls Tryd.prog 30 #[.int .i64 (n)] w fun e w' => e = .returned (.int .i64 (skipK n)) ∧ Below w.heap.size w w' := by
  have v1 : IntKind.i64.wrap ((n : Int) + 1) = (n : Int) + 1 := IntWalk.i64_in _ (by omega)
  by_cases h : 17 ≤ n
  · have hd : decide ((n : Int) ≥ 17) = true := by simp; omega
    have hk : (skipK n : Int) = n + 1 := by unfold skipK; rw [if_pos h]; rfl
    rw [hk]
    clear hk
    go_enter Tryd.func30, Tryd.ntmps30
    go_wp2
    go_ret
    exact ⟨rfl, (by repeat (first | exact Below.refl _ _ | refine Below.drew ?_ | refine below_drewN ?_ _ | refine Below.alloc ?_ (by first | exact Nat.le_refl _ | (simp; done) | (simp; omega) | omega) _ | refine Below.setCell ?_ (by first | exact Nat.le_refl _ | (simp; done) | (simp; omega) | omega) _ | refine bExtW ?_ (by first | exact Nat.le_refl _ | (simp; done) | (simp; omega) | omega) | refine Below.trans ?_ (Below.mono (by assumption) (by first | exact Nat.le_refl _ | (simp; done) | (simp; omega) | omega))))⟩
  · have hd : decide ((n : Int) ≥ 17) = false := by simp; omega
    have hk : (skipK n : Int) = n := by unfold skipK; rw [if_neg h]
    rw [hk]
    clear hk
    go_enter Tryd.func30, Tryd.ntmps30
    go_wp2
    go_ret
    exact ⟨rfl, (by repeat (first | exact Below.refl _ _ | refine Below.drew ?_ | refine below_drewN ?_ _ | refine Below.alloc ?_ (by first | exact Nat.le_refl _ | (simp; done) | (simp; omega) | omega) _ | refine Below.setCell ?_ (by first | exact Nat.le_refl _ | (simp; done) | (simp; omega) | omega) _ | refine bExtW ?_ (by first | exact Nat.le_refl _ | (simp; done) | (simp; omega) | omega) | refine Below.trans ?_ (Below.mono (by assumption) (by first | exact Nat.le_refl _ | (simp; done) | (simp; omega) | omega))))⟩
set_option maxRecDepth 100000 in
set_option maxHeartbeats 8000000 in
theorem sign_ok (c : Nat) (w : World) (hn : c < 62) :
    Calls Tryd.prog 16 #[.int .i64 (c)] w fun e w' => e = .returned (.int .i32 (signK c)) ∧ Below w.heap.size w w' := by
  by_cases h0 : c = 0
  · subst h0
    go_enter Tryd.func16, Tryd.ntmps16
    go_wp2
    go_ret
    exact ⟨rfl, (by repeat (first | exact Below.refl _ _ | refine Below.drew ?_ | refine below_drewN ?_ _ | refine Below.alloc ?_ (by first | exact Nat.le_refl _ | (simp; done) | (simp; omega) | omega) _ | refine Below.setCell ?_ (by first | exact Nat.le_refl _ | (simp; done) | (simp; omega) | omega) _ | refine bExtW ?_ (by first | exact Nat.le_refl _ | (simp; done) | (simp; omega) | omega) | refine Below.trans ?_ (Below.mono (by assumption) (by first | exact Nat.le_refl _ | (simp; done) | (simp; omega) | omega))))⟩
  have d0 : ((c : Int) == 0) = false := by simp; omega
  by_cases h1 : c = 1
  · subst h1
    go_enter Tryd.func16, Tryd.ntmps16
    go_wp2
    go_ret
    exact ⟨rfl, (by repeat (first | exact Below.refl _ _ | refine Below.drew ?_ | refine below_drewN ?_ _ | refine Below.alloc ?_ (by first | exact Nat.le_refl _ | (simp; done) | (simp; omega) | omega) _ | refine Below.setCell ?_ (by first | exact Nat.le_refl _ | (simp; done) | (simp; omega) | omega) _ | refine bExtW ?_ (by first | exact Nat.le_refl _ | (simp; done) | (simp; omega) | omega) | refine Below.trans ?_ (Below.mono (by assumption) (by first | exact Nat.le_refl _ | (simp; done) | (simp; omega) | omega))))⟩
  have d1 : ((c : Int) == 1) = false := by simp; omega
  by_cases h2 : c < 12
  · have d2 : decide ((c : Int) < 12) = true := by simp; omega
    have e : (signK c : Int) = 48 + c - 2 := by unfold signK; rw [if_neg h0, if_neg h1, if_pos h2]; omega
    have v1 : IntKind.i64.wrap (48 + (c : Int)) = 48 + c := IntWalk.i64_in _ (by omega)
    have v2 : IntKind.i64.wrap (48 + (c : Int) - 2) = 48 + c - 2 := IntWalk.i64_in _ (by omega)
    have v3 : IntKind.i32.wrap (48 + (c : Int) - 2) = 48 + c - 2 := IntWalk.i32_in _ (by omega)
    rw [e]
    clear e h0 h1 h2
    go_enter Tryd.func16, Tryd.ntmps16
    go_wp2
    go_ret
    exact ⟨rfl, (by repeat (first | exact Below.refl _ _ | refine Below.drew ?_ | refine below_drewN ?_ _ | refine Below.alloc ?_ (by first | exact Nat.le_refl _ | (simp; done) | (simp; omega) | omega) _ | refine Below.setCell ?_ (by first | exact Nat.le_refl _ | (simp; done) | (simp; omega) | omega) _ | refine bExtW ?_ (by first | exact Nat.le_refl _ | (simp; done) | (simp; omega) | omega) | refine Below.trans ?_ (Below.mono (by assumption) (by first | exact Nat.le_refl _ | (simp; done) | (simp; omega) | omega))))⟩
  have d2 : decide ((c : Int) < 12) = false := by simp; omega
  by_cases h3 : c < 36
  · have d3 : decide ((c : Int) < 36) = true := by simp; omega
    obtain ⟨k, rfl⟩ : ∃ k, c = k + 12 := ⟨c - 12, by omega⟩
    have hk : skipK k ≤ 24 := by unfold skipK; split <;> omega
    have HS := Lib.hid (fun w => skipped_ok k w (by omega))
    have e : (signK (k + 12) : Int) = 945 + skipK k := by unfold signK; rw [if_neg h0, if_neg h1, if_neg h2, if_pos h3, Nat.add_sub_cancel]; push_cast; rfl
    obtain ⟨s, hs⟩ : ∃ s, skipK k = s := ⟨_, rfl⟩
    rw [hs] at e hk HS
    have v0 : IntKind.i64.wrap (((k + 12 : Nat) : Int) - 12) = (k : Int) := by rw [IntWalk.i64_in _ (by omega)]; omega
    have v1 : IntKind.i64.wrap (945 + (s : Int)) = 945 + s := IntWalk.i64_in _ (by omega)
    have v3 : IntKind.i32.wrap (945 + (s : Int)) = 945 + s := IntWalk.i32_in _ (by omega)
    rw [e]
    clear e h0 h1 h2 hs
    generalize ((k + 12 : Nat) : Int) = C at *
    go_enter Tryd.func16, Tryd.ntmps16
    (go_wp2_with fail; refine (HS.out _).mono ?_; rintro r w1 ⟨rfl, hb⟩; obtain ⟨E, d, rfl⟩ := bExt hb; clear hb)
    go_wp2
    go_ret
    exact ⟨rfl, (by repeat (first | exact Below.refl _ _ | refine Below.drew ?_ | refine below_drewN ?_ _ | refine Below.alloc ?_ (by first | exact Nat.le_refl _ | (simp; done) | (simp; omega) | omega) _ | refine Below.setCell ?_ (by first | exact Nat.le_refl _ | (simp; done) | (simp; omega) | omega) _ | refine bExtW ?_ (by first | exact Nat.le_refl _ | (simp; done) | (simp; omega) | omega) | refine Below.trans ?_ (Below.mono (by assumption) (by first | exact Nat.le_refl _ | (simp; done) | (simp; omega) | omega))))⟩
  · have d3 : decide ((c : Int) < 36) = false := by simp; omega
    have e : (signK c : Int) = 97 + c - 36 := by unfold signK; rw [if_neg h0, if_neg h1, if_neg h2, if_neg h3]; omega
    have v1 : IntKind.i64.wrap (97 + (c : Int)) = 97 + c := IntWalk.i64_in _ (by omega)
    have v2 : IntKind.i64.wrap (97 + (c : Int) - 36) = 97 + c - 36 := IntWalk.i64_in _ (by omega)
    have v3 : IntKind.i32.wrap (97 + (c : Int) - 36) = 97 + c - 36 := IntWalk.i32_in _ (by omega)
    rw [e]
    clear e h0 h1 h2 h3
    go_enter Tryd.func16, Tryd.ntmps16
    go_wp2
    go_ret
    exact ⟨rfl, (by repeat (first | exact Below.refl _ _ | refine Below.drew ?_ | refine below_drewN ?_ _ | refine Below.alloc ?_ (by first | exact Nat.le_refl _ | (simp; done) | (simp; omega) | omega) _ | refine Below.setCell ?_ (by first | exact Nat.le_refl _ | (simp; done) | (simp; omega) | omega) _ | refine bExtW ?_ (by first | exact Nat.le_refl _ | (simp; done) | (simp; omega) | omega) | refine Below.trans ?_ (Below.mono (by assumption) (by first | exact Nat.le_refl _ | (simp; done) | (simp; omega) | omega))))⟩
end Go.Proofs.YtikdnpkcknocaaaDoor
