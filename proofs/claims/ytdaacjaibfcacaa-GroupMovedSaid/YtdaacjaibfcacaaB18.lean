/- Lemmas and contracts of functions (what each call returns, and that it changes nothing that was there) that the proof of a law of this seat uses; each lemma states its own conditions. -/
import Derived.Test.YtdaacjaibfcacaaB05
import Derived.Test.YtdaacjaibfcacaaB17
import Derived.Test.YtdaacjaibfcacaaB14
import Derived.Test.YtdaacjaibfcacaaB02
import Derived.Test.YtdaacjaibfcacaaB06
import Derived.Deep.OwnRows
namespace Go.Proofs.Ytdaacjaibfcacaa
open Go.RowKit
set_option linter.unusedVariables false
set_option linter.unusedSimpArgs false
open Z (torN)
/-- Block mb holds a struct one of whose fields is a list that grows. -/
structure FL (base mb T nc : Nat) (f : Value → Nat → Value) (e : Nat) (L : List Value) (W1 : World) (v : Value) (w : World) : Prop where
  row : w.rowIs mb T nc (f v)
  own : w.ownsRow base e 1 v L.length L
  bel : BelowX base mb W1 w
theorem FL.app {base mb T nc k e n : Nat} {f : Value → Nat → Value} {L : List Value} {W1 w WE w2 : World} {v : Value} {A : Option Addr} {cp : Nat} {u : Value} (hr : w.rowIs mb T nc (f v)) (hx : BelowX base mb W1 w) (hE : Below w.heap.size w WE) (hm : mb < base)
    (hown : w2.ownsRow base e 1 (.slice A (n + 1) cp) (n + 1) (L ++ (#[u]).toList)) (hb : Below base WE w2) (hf : ∀ i, i < nc → (if i = k then (.slice A (n + 1) cp) else f v i) = f (.slice A (n + 1) cp) i) :
    FL base mb T nc f e (L ++ [u]) W1 (.slice A (n + 1) cp) (w2.setCell ⟨mb, k, none⟩ (.slice A (n + 1) cp)) := by
  have hlt : mb < w.heap.size := Nat.lt_of_lt_of_le hm hx.size
  have hn : (L ++ [u]).length = n + 1 := by
    have h1 := hown.1
    simp at h1
    simp; omega
  have hsz : w.heap.size ≤ WE.heap.size := hE.size
  refine ⟨?_, ?_, ?_⟩
  · exact ((rowBelow (rowBelow hr hE hlt) hb hm).set k _).congr fun i hi => hf i hi
  · rw [hn]
    exact ownsRow_setCell_below hown (a := ⟨mb, k, none⟩) hm _
  · refine ⟨hb.os.trans (hE.os.trans hx.os), hb.tape.trans (hE.tape.trans hx.tape), hb.output.trans (hE.output.trans hx.output), ?_, fun k' hk hkm => ?_⟩
    · rw [World.size_setCell]; exact Nat.le_trans hx.size (Nat.le_trans hE.size hb.size)
    · rw [Below.heap_setCell _ _ _ k' (fun e => hkm (by rw [e])), hb.block k' hk, hE.block k' (Nat.lt_of_lt_of_le hk hx.size), hx.block k' hk hkm]
/-- A right chart. -/
structure ChOk (G W H n : Nat) (cs : List Int) : Prop where
  g : G = 4 ∨ G = 6
  w1 : 0 < W
  w2 : W ≤ 64
  h1 : 0 < H
  h2 : H ≤ 64
  hn : n = W * H
  cr : ∀ x ∈ cs, 0 ≤ x ∧ x < 62
section
variable {G W H n : Nat} {cs : List Int}
theorem ChOk.e (h : ChOk G W H n cs) : chE G W H n cs = 0 := chE_ok (by have := h.g; omega) h.w1 h.w2 h.h1 h.h2 h.hn h.cr
theorem ChOk.n4 (h : ChOk G W H n cs) : n ≤ 4096 := by rw [h.hn]; exact Nat.mul_le_mul h.w2 h.h2
theorem ChOk.tpos (h : ChOk G W H n cs) : 0 < torN W H := Z.torN_pos h.w1 h.h1
theorem ChOk.tle (h : ChOk G W H n cs) : torN W H ≤ 4096 := by
  rw [Z.torN_eq]
  exact Nat.mul_le_mul h.w2 (Nat.le_trans (Nat.div_le_self _ _) h.h2)
end
theorem ChOk.of {G W H : Int} {n : Nat} {cs : List Int} (h : chE G W H n cs = 0) : ∃ G' W' H' : Nat, G = G' ∧ W = W' ∧ H = H' ∧ ChOk G' W' H' n cs := by
  obtain ⟨hG, W', H', rfl, rfl, w1, w2, k1, k2, hn, hC⟩ := chE_zero h
  exact ⟨G.toNat, W', H', by omega, rfl, rfl, by omega, w1, w2, k1, k2, hn, hC⟩
set_option maxRecDepth 100000 in
set_option maxHeartbeats 8000000 in
theorem gcd_ok (x y : Nat) (w : World) (hx : x ≤ 64) (hy : y ≤ 64) :
    Calls Try.prog 76 #[.int .i64 (x), .int .i64 (y)] w fun e w' => e = .returned (.int .i64 (Nat.gcd x y)) ∧ Below w.heap.size w w' := by
  go_enter Try.func76, Try.ntmps76
  go_wp2_with fail
  go_loopw [0, 1] (fun a b wr => ∃ (p q : Nat) (E : Array Obj) (d : Nat), p ≤ 64 ∧ q ≤ 64 ∧ a = .int .i64 p ∧ b = .int .i64 q ∧ Hid (Nat.gcd p q = Nat.gcd x y) ∧ wr = extW w E d) (fun _ b _ => (intOf b).toNat)
  case atStart => exact ⟨x, y, #[], w.drawn, hx, hy, rfl, rfl, Lib.hid rfl, extW_zero _⟩
  case round =>
    obtain ⟨p, q, E, d, hp, hq, rfl, rfl, HG, rfl⟩ := hrel
    by_cases hq0 : q = 0
    · subst hq0
      have HE : Hid (Nat.gcd x y = p) := Lib.hid (by rw [← HG.out, Nat.gcd_zero_right])
      go_wp2
      go_ret
      exact ⟨by rw [HE.out]; rfl, (by repeat (first | exact Below.refl _ _ | refine Below.drew ?_ | refine below_drewN ?_ _ | refine Below.alloc ?_ (by first | exact Nat.le_refl _ | (simp; done) | (simp; omega) | omega) _ | refine Below.setCell ?_ (by first | exact Nat.le_refl _ | (simp; done) | (simp; omega) | omega) _ | refine bExtW ?_ (by first | exact Nat.le_refl _ | (simp; done) | (simp; omega) | omega) | refine Below.trans ?_ (Below.mono (by assumption) (by first | exact Nat.le_refl _ | (simp; done) | (simp; omega) | omega))))⟩
    · have b0 : ((q : Int) != 0) = true := by simp; omega
      have b1 : ((q : Int) == 0) = false := by simp; omega
      have b2 : (q : Int) ≠ 0 := by omega
      obtain ⟨m, hm⟩ : ∃ m, p % q = m := ⟨_, rfl⟩
      have hm1 : m < q := by rw [← hm]; exact Nat.mod_lt _ (by omega)
      have ht : (p : Int).tmod (q : Int) = (m : Int) := by rw [← hm]; rfl
      have HM := Lib.hid hm
      have v1 : IntKind.i64.wrap (m : Int) = (m : Int) := IntWalk.i64_in _ (by omega)
      clear hm
      go_wp2_with fail
      (refine wp_region_ext (by kernel_rfl) (by kernel_rfl) ?_; (repeat (first | ((with_reducible refine ext_step (fun K hK => ?_)); go_simp; first | (refine hK _ ?_; clear hK K) | (apply Exists.intro; refine ⟨fun _ _ => ?_, hK _ ?_⟩; fail; clear hK K)))); refine wpQuiet_nil ?_; intro E d)
      go_wp2
      go_roundw
      case rel => exact ⟨q, m, _, _, hq, by omega, rfl, rfl, Lib.hid (by rw [← HG.out, ← HM.out, Nat.gcd_comm p q, Nat.gcd_rec q p, Nat.gcd_comm]), by rw [extW_extW]⟩
      case measure => simp [intOf]; omega
set_option maxRecDepth 100000 in
set_option maxHeartbeats 8000000 in
theorem Torus_bad (G W H : Int) (a : Option Addr) (n c : Nat) (cs : List Int) (w : World) (hI : IsInts w a n cs) (h0 : (-9223372036854775808 ≤ G ∧ G ≤ 9223372036854775807)) (h1 : (-9223372036854775808 ≤ W ∧ W ≤ 9223372036854775807)) (h2 : (-9223372036854775808 ≤ H ∧ H ≤ 9223372036854775807)) (h3 : n ≤ 9223372036854775807) (he : chE G W H n cs ≠ 0) :
    Calls Try.prog 28 #[.agg #[.int .i64 (G), .int .i64 (W), .int .i64 (H), .slice a n c]] w fun e w' => e = .returned (.tuple #[.int .i64 (0), .int .i64 (chE G W H n cs)]) ∧ Below w.heap.size w w' := by
  have hb : (chE G W H n cs != 0) = true := by simpa using he
  have HT := Lib.hid (fun w hI => chWrong_any G W H a n c cs w hI h0 h1 h2 h3)
  have HI := Lib.hid hI
  clear he hI
  generalize chE G W H n cs = q at *
  go_enter Try.func28, Try.ntmps28
  (go_wp2_with fail; refine (HT.out _ (HI.out.below (by repeat (first | exact Below.refl _ _ | refine Below.drew ?_ | refine below_drewN ?_ _ | refine Below.alloc ?_ (by first | exact Nat.le_refl _ | (simp; done) | (simp; omega) | omega) _ | refine Below.setCell ?_ (by first | exact Nat.le_refl _ | (simp; done) | (simp; omega) | omega) _ | refine bExtW ?_ (by first | exact Nat.le_refl _ | (simp; done) | (simp; omega) | omega) | refine Below.trans ?_ (Below.mono (by assumption) (by first | exact Nat.le_refl _ | (simp; done) | (simp; omega) | omega)))))).mono ?_; rintro r w1 ⟨rfl, hb⟩; obtain ⟨E, d, rfl⟩ := bExt hb; clear hb)
  go_wp2
  go_ret2
  exact ⟨rfl, (by repeat (first | exact Below.refl _ _ | refine Below.drew ?_ | refine below_drewN ?_ _ | refine Below.alloc ?_ (by first | exact Nat.le_refl _ | (simp; done) | (simp; omega) | omega) _ | refine Below.setCell ?_ (by first | exact Nat.le_refl _ | (simp; done) | (simp; omega) | omega) _ | refine bExtW ?_ (by first | exact Nat.le_refl _ | (simp; done) | (simp; omega) | omega) | refine Below.trans ?_ (Below.mono (by assumption) (by first | exact Nat.le_refl _ | (simp; done) | (simp; omega) | omega))))⟩
/-- What Torus tells of a right chart. -/
def torV (N : Nat) : Value := if 24 < N then .tuple #[.int .i64 (0), .int .i64 (4)] else .tuple #[.int .i64 (N), .int .i64 (0)]
set_option maxRecDepth 100000 in
set_option maxHeartbeats 8000000 in
theorem Torus_ok (G W H n : Nat) (a : Option Addr) (c : Nat) (cs : List Int) (w : World) (hI : IsInts w a n cs) (h : ChOk G W H n cs) :
    Calls Try.prog 28 #[.agg #[.int .i64 (G), .int .i64 (W), .int .i64 (H), .slice a n c]] w fun e w' => e = .returned (torV (torN W H)) ∧ Below w.heap.size w w' := by
  have hn4 := h.n4
  have HR := Lib.hid (fun w hI => chWrong_any G W H a n c cs w hI (by have := h.g; omega) (by have := h.w2; omega) (by have := h.h2; omega) (by omega))
  rw [h.e] at HR
  have HI := Lib.hid hI
  have hW := h.w2; have hH := h.h2; have hW1 := h.w1
  have HG := Lib.hid (fun w => gcd_ok W H w hW hH)
  have hN : W / Nat.gcd W H * H = torN W H := rfl
  have hNl := h.tle
  have hg : 0 < Nat.gcd W H := Nat.gcd_pos_of_pos_left H hW1
  have hgl : Nat.gcd W H ≤ W := Nat.le_of_dvd hW1 (Nat.gcd_dvd_left W H)
  generalize Nat.gcd W H = g at *
  generalize torN W H = N at *
  obtain ⟨q, hq⟩ : ∃ q, W / g = q := ⟨_, rfl⟩
  have hqW : q ≤ W := by rw [← hq]; exact Nat.div_le_self _ _
  rw [hq] at hN
  have t1 : (W : Int).tdiv (g : Int) = (q : Int) := by rw [← hq]; rfl
  have t2 : (q : Int) * (H : Int) = (N : Int) := by rw [← hN]; push_cast; rfl
  have b1 : ((g : Int) == 0) = false := by simp; omega
  have b2 : (g : Int) ≠ 0 := by omega
  have b3 : ¬ g = 0 := by omega
  have v1 : IntKind.i64.wrap (q : Int) = (q : Int) := IntWalk.i64_in _ (by omega)
  have v2 : IntKind.i64.wrap (N : Int) = (N : Int) := IntWalk.i64_in _ (by omega)
  clear hI hn4 hq hN h
  by_cases hm : 24 < N
  · have d1 : decide (24 < N) = true := by simpa using hm
    have d2 : decide ((N : Int) > 24) = true := by simp; omega
    have HV : Hid (torV N = .tuple #[.int .i64 (0), .int .i64 (4)]) := Lib.hid (by unfold torV; rw [if_pos hm])
    go_enter Try.func28, Try.ntmps28
    (go_wp2_with fail; refine (HR.out _ (HI.out.below (by repeat (first | exact Below.refl _ _ | refine Below.drew ?_ | refine below_drewN ?_ _ | refine Below.alloc ?_ (by first | exact Nat.le_refl _ | (simp; done) | (simp; omega) | omega) _ | refine Below.setCell ?_ (by first | exact Nat.le_refl _ | (simp; done) | (simp; omega) | omega) _ | refine bExtW ?_ (by first | exact Nat.le_refl _ | (simp; done) | (simp; omega) | omega) | refine Below.trans ?_ (Below.mono (by assumption) (by first | exact Nat.le_refl _ | (simp; done) | (simp; omega) | omega)))))).mono ?_; rintro r w1 ⟨rfl, hb⟩; obtain ⟨E, d, rfl⟩ := bExt hb; clear hb)
    go_wp2_with fail
    (refine wp_region_ext (by kernel_rfl) (by kernel_rfl) ?_; (repeat (first | ((with_reducible refine ext_step (fun K hK => ?_)); go_simp; first | (refine hK _ ?_; clear hK K) | (apply Exists.intro; refine ⟨fun _ _ => ?_, hK _ ?_⟩; (go_at_call 76; exact extOf (HG.out _)); clear hK K)))); refine wpQuiet_nil ?_; intro E d)
    go_wp2
    go_ret2
    exact ⟨by rw [HV.out]; rfl, (by repeat (first | exact Below.refl _ _ | refine Below.drew ?_ | refine below_drewN ?_ _ | refine Below.alloc ?_ (by first | exact Nat.le_refl _ | (simp; done) | (simp; omega) | omega) _ | refine Below.setCell ?_ (by first | exact Nat.le_refl _ | (simp; done) | (simp; omega) | omega) _ | refine bExtW ?_ (by first | exact Nat.le_refl _ | (simp; done) | (simp; omega) | omega) | refine Below.trans ?_ (Below.mono (by assumption) (by first | exact Nat.le_refl _ | (simp; done) | (simp; omega) | omega))))⟩
  · have d1 : decide (24 < N) = false := by simpa using hm
    have d2 : decide ((N : Int) > 24) = false := by simp; omega
    have HV : Hid (torV N = .tuple #[.int .i64 (N), .int .i64 (0)]) := Lib.hid (by unfold torV; rw [if_neg hm])
    go_enter Try.func28, Try.ntmps28
    (go_wp2_with fail; refine (HR.out _ (HI.out.below (by repeat (first | exact Below.refl _ _ | refine Below.drew ?_ | refine below_drewN ?_ _ | refine Below.alloc ?_ (by first | exact Nat.le_refl _ | (simp; done) | (simp; omega) | omega) _ | refine Below.setCell ?_ (by first | exact Nat.le_refl _ | (simp; done) | (simp; omega) | omega) _ | refine bExtW ?_ (by first | exact Nat.le_refl _ | (simp; done) | (simp; omega) | omega) | refine Below.trans ?_ (Below.mono (by assumption) (by first | exact Nat.le_refl _ | (simp; done) | (simp; omega) | omega)))))).mono ?_; rintro r w1 ⟨rfl, hb⟩; obtain ⟨E, d, rfl⟩ := bExt hb; clear hb)
    go_wp2_with fail
    (refine wp_region_ext (by kernel_rfl) (by kernel_rfl) ?_; (repeat (first | ((with_reducible refine ext_step (fun K hK => ?_)); go_simp; first | (refine hK _ ?_; clear hK K) | (apply Exists.intro; refine ⟨fun _ _ => ?_, hK _ ?_⟩; (go_at_call 76; exact extOf (HG.out _)); clear hK K)))); refine wpQuiet_nil ?_; intro E d)
    go_wp2
    go_ret2
    exact ⟨by rw [HV.out]; rfl, (by repeat (first | exact Below.refl _ _ | refine Below.drew ?_ | refine below_drewN ?_ _ | refine Below.alloc ?_ (by first | exact Nat.le_refl _ | (simp; done) | (simp; omega) | omega) _ | refine Below.setCell ?_ (by first | exact Nat.le_refl _ | (simp; done) | (simp; omega) | omega) _ | refine bExtW ?_ (by first | exact Nat.le_refl _ | (simp; done) | (simp; omega) | omega) | refine Below.trans ?_ (Below.mono (by assumption) (by first | exact Nat.le_refl _ | (simp; done) | (simp; omega) | omega))))⟩
end Go.Proofs.Ytdaacjaibfcacaa

namespace Go.Proofs.Ytdaacjaibfcacaa
open Go.RowKit
set_option linter.unusedVariables false
set_option linter.unusedSimpArgs false
def rtY (g x y : Int) : Int := if g = 4 then x else x + y
set_option maxRecDepth 100000 in
set_option maxHeartbeats 400000 in
theorem rTurned_any (g x y : Int) (w : World) (b1 : -1152921504606846976 ≤ x ∧ x ≤ 1152921504606846976) (b2 : -1152921504606846976 ≤ y ∧ y ≤ 1152921504606846976) :
    Calls Try.prog 81 #[.int .i64 (g), .agg #[.int .i64 (x), .int .i64 (y)]] w fun e w' => e = .returned (.agg #[.int .i64 (-y), .int .i64 (rtY g x y)]) ∧ Below w.heap.size w w' := by
  rcases Decidable.em (g = 4) with h6 | h6
  · have HE := Lib.hid (show rtY g x y = x by rw [rtY, if_pos h6])
    subst h6
    go_enter Try.func81, Try.ntmps81
    go_wp2
    refine bodyPost_ret (v := .agg #[.int .i64 (-y), .int .i64 (x)]) (by simp [results, Try.results81, go_sem]) rfl ⟨by rw [HE.out], (by repeat (first | exact Below.refl _ _ | refine Below.drew ?_ | refine below_drewN ?_ _ | refine Below.alloc ?_ (by first | exact Nat.le_refl _ | (simp; done) | (simp; omega) | omega) _ | refine Below.setCell ?_ (by first | exact Nat.le_refl _ | (simp; done) | (simp; omega) | omega) _ | refine bExtW ?_ (by first | exact Nat.le_refl _ | (simp; done) | (simp; omega) | omega) | refine Below.trans ?_ (Below.mono (by assumption) (by first | exact Nat.le_refl _ | (simp; done) | (simp; omega) | omega))))⟩
  · have e2 : (g == 4) = false := by simpa using h6
    have HE := Lib.hid (show rtY g x y = x + y by rw [rtY, if_neg h6])
    clear h6
    go_enter Try.func81, Try.ntmps81
    go_wp2
    refine bodyPost_ret (v := .agg #[.int .i64 (-y), .int .i64 (x+y)]) (by simp [results, Try.results81, go_sem]) rfl ⟨by rw [HE.out], (by repeat (first | exact Below.refl _ _ | refine Below.drew ?_ | refine below_drewN ?_ _ | refine Below.alloc ?_ (by first | exact Nat.le_refl _ | (simp; done) | (simp; omega) | omega) _ | refine Below.setCell ?_ (by first | exact Nat.le_refl _ | (simp; done) | (simp; omega) | omega) _ | refine bExtW ?_ (by first | exact Nat.le_refl _ | (simp; done) | (simp; omega) | omega) | refine Below.trans ?_ (Below.mono (by assumption) (by first | exact Nat.le_refl _ | (simp; done) | (simp; omega) | omega))))⟩
set_option maxRecDepth 100000 in
set_option maxHeartbeats 400000 in
theorem rMirrored_any (g x y : Int) (w : World) (hg : g = 4 ∨ g = 6) (b1 : -1152921504606846976 ≤ x ∧ x ≤ 1152921504606846976) (b2 : -1152921504606846976 ≤ y ∧ y ≤ 1152921504606846976) :
    Calls Try.prog 80 #[.int .i64 (g), .agg #[.int .i64 (x), .int .i64 (y)]] w fun e w' => e = .returned (.agg #[.int .i64 (miX g x y), .int .i64 (-y)]) ∧ Below w.heap.size w w' := by
  rcases hg with rfl | rfl
  · have HE := Lib.hid (show miX 4 x y = x by simp [miX])
    go_enter Try.func80, Try.ntmps80
    go_wp2
    refine bodyPost_ret (v := .agg #[.int .i64 (x), .int .i64 (-y)]) (by simp [results, Try.results80, go_sem]) rfl ⟨by rw [HE.out], (by repeat (first | exact Below.refl _ _ | refine Below.drew ?_ | refine below_drewN ?_ _ | refine Below.alloc ?_ (by first | exact Nat.le_refl _ | (simp; done) | (simp; omega) | omega) _ | refine Below.setCell ?_ (by first | exact Nat.le_refl _ | (simp; done) | (simp; omega) | omega) _ | refine bExtW ?_ (by first | exact Nat.le_refl _ | (simp; done) | (simp; omega) | omega) | refine Below.trans ?_ (Below.mono (by assumption) (by first | exact Nat.le_refl _ | (simp; done) | (simp; omega) | omega))))⟩
  · have HE := Lib.hid (show miX 6 x y = x + y by simp [miX])
    go_enter Try.func80, Try.ntmps80
    go_wp2
    refine bodyPost_ret (v := .agg #[.int .i64 (x+y), .int .i64 (-y)]) (by simp [results, Try.results80, go_sem]) rfl ⟨by rw [HE.out], (by repeat (first | exact Below.refl _ _ | refine Below.drew ?_ | refine below_drewN ?_ _ | refine Below.alloc ?_ (by first | exact Nat.le_refl _ | (simp; done) | (simp; omega) | omega) _ | refine Below.setCell ?_ (by first | exact Nat.le_refl _ | (simp; done) | (simp; omega) | omega) _ | refine bExtW ?_ (by first | exact Nat.le_refl _ | (simp; done) | (simp; omega) | omega) | refine Below.trans ?_ (Below.mono (by assumption) (by first | exact Nat.le_refl _ | (simp; done) | (simp; omega) | omega))))⟩
set_option maxRecDepth 100000 in
set_option maxHeartbeats 400000 in
theorem rplus_any (x y a b : Int) (w : World) (h1 : (-9223372036854775808 ≤ x+a ∧ x+a ≤ 9223372036854775807)) (h2 : (-9223372036854775808 ≤ y+b ∧ y+b ≤ 9223372036854775807)) :
    Calls Try.prog 82 #[.agg #[.int .i64 (x), .int .i64 (y)], .agg #[.int .i64 (a), .int .i64 (b)]] w fun e w' => e = .returned (.agg #[.int .i64 (x+a), .int .i64 (y+b)]) ∧ Below w.heap.size w w' := by
  go_enter Try.func82, Try.ntmps82
  go_wp2
  refine bodyPost_ret (v := .agg #[.int .i64 (x+a), .int .i64 (y+b)]) (by simp [results, Try.results82, go_sem]) rfl ⟨rfl, (by repeat (first | exact Below.refl _ _ | refine Below.drew ?_ | refine below_drewN ?_ _ | refine Below.alloc ?_ (by first | exact Nat.le_refl _ | (simp; done) | (simp; omega) | omega) _ | refine Below.setCell ?_ (by first | exact Nat.le_refl _ | (simp; done) | (simp; omega) | omega) _ | refine bExtW ?_ (by first | exact Nat.le_refl _ | (simp; done) | (simp; omega) | omega) | refine Below.trans ?_ (Below.mono (by assumption) (by first | exact Nat.le_refl _ | (simp; done) | (simp; omega) | omega))))⟩
end Go.Proofs.Ytdaacjaibfcacaa

namespace Go.Proofs.Ytdaacjaibfcacaa
open Go.RowKit
set_option linter.unusedVariables false
set_option linter.unusedSimpArgs false
theorem near_t (n m : Int) (hm : 0 < m) (h : n < 0) : (n.tmod m < 0 → n / m = n.tdiv m - 1) ∧ (¬ n.tmod m < 0 → n / m = n.tdiv m) := by
  have e1 := Int.mul_tdiv_add_tmod n m
  have e2 := Int.mul_ediv_add_emod n m
  have b1 := Int.emod_nonneg n (show m ≠ 0 by omega)
  have b2 := Int.emod_lt_of_pos n hm
  have b3 : -m < n.tmod m := by have := Int.lt_tmod_of_pos n hm; omega
  have b4 : n.tmod m ≤ 0 := by
    have := Int.tmod_nonneg (a := -n) m (by omega)
    rw [Int.neg_tmod] at this; omega
  generalize n.tdiv m = q at *
  generalize n.tmod m = r at *
  generalize n / m = q' at *
  generalize n % m = r' at *
  have key : m * (q - q') = r' - r := by rw [Int.mul_sub]; omega
  constructor
  · intro hr
    have h1 : m * (q - q') < m * 2 := by omega
    have h2 : m * 0 < m * (q - q') := by omega
    have := Int.lt_of_mul_lt_mul_left h1 (by omega)
    have := Int.lt_of_mul_lt_mul_left h2 (by omega)
    omega
  · intro hr
    have h1 : m * (q - q') < m * 1 := by omega
    have h2 : m * (-1) < m * (q - q') := by omega
    have := Int.lt_of_mul_lt_mul_left h1 (by omega)
    have := Int.lt_of_mul_lt_mul_left h2 (by omega)
    omega
theorem tdiv_le (n m : Int) (hm : 0 < m) (h : n < 0) (hb : -4611686018427387904 ≤ n) : -4611686018427387904 ≤ n.tdiv m ∧ n.tdiv m ≤ 0 := by
  have e1 := Int.mul_tdiv_add_tmod n m
  have h1 : n.tdiv m = -((-n) / m) := by rw [← Int.tdiv_eq_ediv_of_nonneg (by omega), Int.neg_tdiv]; omega
  have h2 := Int.ediv_nonneg (show 0 ≤ -n by omega) (show 0 ≤ m by omega)
  have h3 := Int.ediv_le_self m (show 0 ≤ -n by omega)
  omega
end Go.Proofs.Ytdaacjaibfcacaa

namespace Go.Proofs.Ytdaacjaibfcacaa
open Go.RowKit
set_option linter.unusedVariables false
set_option linter.unusedSimpArgs false
theorem allocPt (w : World) : Sem.run Try.prog (Instr.alloc 38 true (.tuple #[])) w = .ok (.pointer (some ⟨w.heap.size, 0, none⟩)) (w.alloc (.cells #[.int .i64 (0), .int .i64 (0)] 38)) := by kernel_rfl
theorem tmY_one (g x y : Int) (hg : g = 4 ∨ g = 6) : tmX x y 0 1 = (Z.turn g (x,y)).1 ∧ tmY g x y 0 1 = (Z.turn g (x,y)).2 := by
  rcases hg with rfl | rfl <;> simp [tmX, tmY, Z.turn]
/-- How large a point is behind so many turns. -/
theorem tn_bd (g : Int) (n : Nat) (p : Z.Pt) (B : Int) (h1 : -B ≤ p.1 ∧ p.1 ≤ B) (h2 : -B ≤ p.2 ∧ p.2 ≤ B) : (-(2^n * B) ≤ (Z.tn g n p).1 ∧ (Z.tn g n p).1 ≤ 2^n * B) ∧ (-(2^n * B) ≤ (Z.tn g n p).2 ∧ (Z.tn g n p).2 ≤ 2^n * B) := by
  induction n with
  | zero => simp [Z.tn]; omega
  | succ n ih =>
    have e : (2:Int)^(n+1) * B = 2 * (2^n * B) := by rw [Int.pow_succ]; grind
    have hB : 0 ≤ 2^n * B := by omega
    rw [e]
    simp only [Z.tn, Z.turn]
    split <;> omega
set_option maxRecDepth 100000 in
set_option maxHeartbeats 8000000 in
theorem turned_any (g x y : Int) (n : Nat) (w : World) (hg : g = 4 ∨ g = 6) (hn : n ≤ 6) (b1 : -10000000 ≤ x ∧ x ≤ 10000000) (b2 : -10000000 ≤ y ∧ y ≤ 10000000) :
    Calls Try.prog 113 #[.int .i64 (g), .agg #[.int .i64 (x), .int .i64 (y)], .int .i64 (n)] w fun e w' => e = .returned (.agg #[.int .i64 ((Z.tn g n (x,y)).1), .int .i64 ((Z.tn g n (x,y)).2)]) ∧ Below w.heap.size w w' := by
  have hbd : ∀ k : Nat, k ≤ n → (-1073741824 ≤ (Z.tn g k (x,y)).1 ∧ (Z.tn g k (x,y)).1 ≤ 1073741824) ∧ (-1073741824 ≤ (Z.tn g k (x,y)).2 ∧ (Z.tn g k (x,y)).2 ≤ 1073741824) := by
    intro k hk
    have h := tn_bd g k (x,y) 10000000 b1 b2
    have h2 : (2:Int)^k ≤ 64 := by
      have : k = 0 ∨ k = 1 ∨ k = 2 ∨ k = 3 ∨ k = 4 ∨ k = 5 ∨ k = 6 := by omega
      rcases this with rfl | rfl | rfl | rfl | rfl | rfl | rfl <;> decide
    omega
  have HB := Lib.hid hbd
  clear hbd
  go_enter Try.func113, Try.ntmps113
  go_wp2_with fail
  go_loopw [8] (fun i wr => ∃ (k : Nat) (E : Array Obj) (d : Nat), k ≤ n ∧ i = .int .i64 k ∧ wr = extW ((w.alloc (.cells #[.int .i64 ((Z.tn g k (x,y)).1), .int .i64 ((Z.tn g k (x,y)).2)] 38)).alloc (.cells #[.int .i64 (0), .int .i64 (0)] 38)) E d) (fun i _ => n - (intOf i).toNat)
  case atStart => exact ⟨0, #[], _, Nat.zero_le _, rfl, extW_zero _⟩
  case round =>
    obtain ⟨k, E, d, hk, rfl, rfl⟩ := hrel
    obtain ⟨hb1, hb2⟩ := HB.out k hk
    have H1 := Lib.hid (tmY_one g (Z.tn g k (x,y)).1 (Z.tn g k (x,y)).2 hg)
    have HT : Hid (Z.tn g (k+1) (x,y) = Z.turn g (Z.tn g k (x,y))) := Lib.hid rfl
    generalize hp : Z.tn g k (x,y) = p at *
    have HP := Lib.hid hp
    clear hp
    by_cases hlt : k < n
    · go_wp2_with fail
      refine (times_any g p.1 p.2 0 1 _ (by omega) (by omega) (by omega) (by omega)).mono ?_
      rintro r w1 ⟨rfl, hb⟩
      obtain ⟨E', d', rfl⟩ := bExt hb
      clear hb
      rw [H1.out.1, H1.out.2]
      go_wp2
      go_roundw
      case rel => exact ⟨k + 1, E ++ E', d', by omega, by go_num, by rw [HT.out, extW_extW]⟩
      case measure => simp [intOf]; omega
    · have hkn : k = n := by omega
      subst hkn
      go_wp2
      refine bodyPost_ret (v := .agg #[.int .i64 (p.1), .int .i64 (p.2)]) (by simp [results, Try.results113, go_sem]) rfl ⟨by rw [HP.out], (by repeat (first | exact Below.refl _ _ | refine Below.drew ?_ | refine below_drewN ?_ _ | refine Below.alloc ?_ (by first | exact Nat.le_refl _ | (simp; done) | (simp; omega) | omega) _ | refine Below.setCell ?_ (by first | exact Nat.le_refl _ | (simp; done) | (simp; omega) | omega) _ | refine bExtW ?_ (by first | exact Nat.le_refl _ | (simp; done) | (simp; omega) | omega) | refine Below.trans ?_ (Below.mono (by assumption) (by first | exact Nat.le_refl _ | (simp; done) | (simp; omega) | omega))))⟩
theorem turned1_any (g x y : Int) (w : World) (hg : g = 4 ∨ g = 6) (b1 : -10000000 ≤ x ∧ x ≤ 10000000) (b2 : -10000000 ≤ y ∧ y ≤ 10000000) :
    Calls Try.prog 113 #[.int .i64 (g), .agg #[.int .i64 (x), .int .i64 (y)], .int .i64 1] w fun e w' => e = .returned (.agg #[.int .i64 ((Z.turn g (x,y)).1), .int .i64 ((Z.turn g (x,y)).2)]) ∧ Below w.heap.size w w' :=
  turned_any g x y 1 w hg (by omega) b1 b2
end Go.Proofs.Ytdaacjaibfcacaa

namespace Go.Proofs.Ytdaacjaibfcacaa
open Go.RowKit
set_option linter.unusedVariables false
set_option linter.unusedSimpArgs false
open Z (IsGcd Normal nrm)
def GcdPost (g : Int) (a b : Z.Pt) (w : World) (r : Ending) (w' : World) : Prop :=
  ∃ d : Z.Pt, r = .returned (.tuple #[.agg #[.int .i64 (d.1), .int .i64 (d.2)], .int .i64 0]) ∧ IsGcd g a b d ∧ Normal d ∧ nrm g d ≤ 3 * (1048576 * 1048576) ∧ Below w.heap.size w w'
def gcdW (w : World) (p q : Z.Pt) : World := ((w.alloc (.cells #[.int .i64 (p.1), .int .i64 (p.2)] 38)).alloc (.cells #[.int .i64 (q.1), .int .i64 (q.2)] 38)).alloc (.cells #[.int .i64 (0), .int .i64 (0)] 38)
def ptB (p : Z.Pt) : Prop := (-2097152 ≤ p.1 ∧ p.1 ≤ 2097152) ∧ (-2097152 ≤ p.2 ∧ p.2 ≤ 2097152)
theorem ptB_of {g : Int} (hg : Z.G g) {p : Z.Pt} (h : nrm g p ≤ 3 * (1048576 * 1048576)) : ptB p := Z.part_bd hg (by omega) (by omega)
theorem turn_back {g : Int} (hg : Z.G g) (p : Z.Pt) : Z.Dvd g (Z.turn g p) p := by
  have h : Z.tn g 6 (Z.tn g 6 p) = p := by
    rcases hg with rfl | rfl <;> apply Z.ext2 <;> simp [Z.tn, Z.turn] <;> omega
  have h2 : Z.Dvd g (Z.turn g p) (Z.tn g 11 (Z.turn g p)) := Z.dvd_tn hg 11 _
  have h3 : Z.tn g 11 (Z.turn g p) = p := h
  rwa [h3] at h2
end Go.Proofs.Ytdaacjaibfcacaa

namespace Go.Proofs.Ytdaacjaibfcacaa
open Go.RowKit
set_option linter.unusedVariables false
set_option linter.unusedSimpArgs false
open Z (IsGcd Normal nrm)
end Go.Proofs.Ytdaacjaibfcacaa
