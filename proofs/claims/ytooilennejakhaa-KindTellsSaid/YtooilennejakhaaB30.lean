/- Lemmas and contracts of functions (what each call returns, and that it changes nothing that was there) that the proof of a law of this seat uses; each lemma states its own conditions. -/
import Derived.Test.YtooilennejakhaaB29
import Derived.Test.YtooilennejakhaaB19
import Derived.Test.YtooilennejakhaaB03
namespace Go.Proofs.Ytooilennejakhaa
open Go.RowKit
set_option linter.unusedVariables false
set_option linter.unusedSimpArgs false
open Z (bsP bsB keP keB bandP bandV smZ)
theorem keB_succ {W H : Nat} {cs : List Int} {back over : Bool} (t : Nat) : keB W H cs back over 0 (t + 1) = (keB W H cs back over 0 t || bsB W H cs back over t) := by
  rw [Bool.eq_iff_iff, Bool.or_eq_true]
  unfold keB bsB
  rw [decide_eq_true_iff, decide_eq_true_iff, decide_eq_true_iff]
  unfold keP
  constructor
  · rintro ⟨u, h1, h2, h3⟩
    by_cases e : u = t
    · subst e; exact .inr h3
    · exact .inl ⟨u, by omega, h2, h3⟩
  · rintro (⟨u, h1, h2, h3⟩ | h3)
    · exact ⟨u, by omega, h2, h3⟩
    · exact ⟨t, by omega, by omega, h3⟩
theorem keB_zero {W H : Nat} {cs : List Int} {back over : Bool} : keB W H cs back over 0 0 = false := by
  unfold keB
  rw [decide_eq_false_iff_not]
  rintro ⟨u, h, _⟩
  omega
/-- The document's order of asking. -/
def rbV (up ro sl le : Bool) : Int := if up && ro && le then 7 else if up && ro then 6 else if ro then 5 else if up then 4 else if le then 3 else if sl then 2 else 1
theorem rbV_bool : ∀ b1 b2 b3 b4 b5 : Bool, (b1 = true → b5 = true → b2 = true) → (b5 = false → b3 = b4) → rbV b1 b2 b3 b5 = bandV b1 b2 b5 b4 := by decide
theorem rbV_eq {W H : Nat} {cs : List Int} (hW : 0 < W) : rbV (keB W H cs true false 0 W) (keB W H cs true true 0 W) (keB W H cs false true 0 W) (bsB W H cs false true 0) = bandP W H cs := by
  have h1 : keB W H cs false true 0 1 = bsB W H cs false true 0 := by rw [keB_succ, keB_zero, Bool.false_or]
  have h2 : keB W H cs true false 0 W = true → bsB W H cs false true 0 = true → keB W H cs true true 0 W = true := fun e1 e2 => by
    unfold keB at e1 ⊢
    unfold bsB at e2
    rw [decide_eq_true_iff] at e1 e2 ⊢
    rw [Z.ke_any hW] at e1 ⊢
    rw [Z.bsP_iff hW] at e2
    obtain ⟨t, h⟩ := e1
    refine ⟨t, fun y hy x => ?_⟩
    have a1 := h y hy x
    have a2 := e2 y hy (Z.bxZ true t x)
    simp only [Z.byN, Z.bxZ, if_true, Bool.false_eq_true, if_false] at a1 a2 ⊢
    rw [a1, a2]
    simp
  have h3 : bsB W H cs false true 0 = false → keB W H cs false true 0 W = keB W H cs false true 1 W := fun e => by
    unfold keB
    rw [decide_eq_decide]
    unfold bsB at e
    rw [decide_eq_false_iff_not] at e
    constructor
    · rintro ⟨u, q1, q2, q3⟩
      refine ⟨u, q1, ?_, q3⟩
      rcases Nat.eq_zero_or_pos u with rfl | q
      · exact absurd q3 e
      · omega
    · rintro ⟨u, q1, q2, q3⟩
      exact ⟨u, q1, by omega, q3⟩
  unfold bandP
  rw [h1]
  exact rbV_bool _ _ _ _ _ h2 h3
set_option maxRecDepth 100000 in
set_option maxHeartbeats 8000000 in
theorem rBand_wrong (G W H : Int) (a : Option Addr) (n c : Nat) (cs : List Int) (w : World) (hI : IsInts w a n cs) (h0 : (-9223372036854775808 ≤ G ∧ G ≤ 9223372036854775807)) (h1 : (-9223372036854775808 ≤ W ∧ W ≤ 9223372036854775807)) (h2 : (-9223372036854775808 ≤ H ∧ H ≤ 9223372036854775807)) (h3 : n ≤ 9223372036854775807) (he : chE G W H n cs ≠ 0) :
    Calls Try.prog 17 #[.agg #[.int .i64 (G), .int .i64 (W), .int .i64 (H), .slice a n c]] w fun r w' => r = .returned (.tuple #[.int .i64 (0), .int .i64 (chE G W H n cs)]) ∧ Below w.heap.size w w' := by
  have hb : (chE G W H n cs != 0) = true := by simpa using he
  have HW := Lib.hid (fun w hI => r2Wrong_any G W H a n c cs w hI h0 h1 h2 h3)
  have HI := Lib.hid hI
  generalize chE G W H n cs = e at *
  clear hI h0 h1 h2 h3 he
  go_enter Try.func17, Try.ntmps17
  (go_wp2_with fail; refine (HW.out _ (HI.out.below (by repeat (first | exact Below.refl _ _ | refine Below.drew ?_ | refine below_drewN ?_ _ | refine Below.alloc ?_ (by first | exact Nat.le_refl _ | (simp; done) | (simp; omega) | omega) _ | refine Below.setCell ?_ (by first | exact Nat.le_refl _ | (simp; done) | (simp; omega) | omega) _ | refine bExtW ?_ (by first | exact Nat.le_refl _ | (simp; done) | (simp; omega) | omega) | refine Below.trans ?_ (Below.mono (by assumption) (by first | exact Nat.le_refl _ | (simp; done) | (simp; omega) | omega)))))).mono ?_; rintro r w1 ⟨rfl, hb⟩; obtain ⟨E, d, rfl⟩ := bExt hb; clear hb)
  go_wp2
  refine bodyPost_ret (v := .tuple #[.int .i64 (0), .int .i64 (e)]) (by simp [results, Try.results17, go_sem]) rfl ⟨rfl, (by repeat (first | exact Below.refl _ _ | refine Below.drew ?_ | refine below_drewN ?_ _ | refine Below.alloc ?_ (by first | exact Nat.le_refl _ | (simp; done) | (simp; omega) | omega) _ | refine Below.setCell ?_ (by first | exact Nat.le_refl _ | (simp; done) | (simp; omega) | omega) _ | refine bExtW ?_ (by first | exact Nat.le_refl _ | (simp; done) | (simp; omega) | omega) | refine Below.trans ?_ (Below.mono (by assumption) (by first | exact Nat.le_refl _ | (simp; done) | (simp; omega) | omega))))⟩
set_option maxRecDepth 100000 in
set_option maxHeartbeats 8000000 in
theorem rBand_hex (W H n : Nat) (a : Option Addr) (c : Nat) (cs : List Int) (w : World) (hI : IsInts w a n cs) (h : ChOk 6 W H n cs) :
    Calls Try.prog 17 #[.agg #[.int .i64 (6), .int .i64 (W), .int .i64 (H), .slice a n c]] w fun r w' => r = .returned (.tuple #[.int .i64 (0), .int .i64 (8)]) ∧ Below w.heap.size w w' := by
  have hn4 := h.n4
  have HW := Lib.hid (fun w hI => r2Wrong_any 6 W H a n c cs w hI (by omega) (by have := h.w2; omega) (by have := h.h2; omega) (by omega))
  have he : chE 6 W H n cs = 0 := h.e
  rw [he] at HW
  have HI := Lib.hid hI
  clear hI h he
  go_enter Try.func17, Try.ntmps17
  (go_wp2_with fail; refine (HW.out _ (HI.out.below (by repeat (first | exact Below.refl _ _ | refine Below.drew ?_ | refine below_drewN ?_ _ | refine Below.alloc ?_ (by first | exact Nat.le_refl _ | (simp; done) | (simp; omega) | omega) _ | refine Below.setCell ?_ (by first | exact Nat.le_refl _ | (simp; done) | (simp; omega) | omega) _ | refine bExtW ?_ (by first | exact Nat.le_refl _ | (simp; done) | (simp; omega) | omega) | refine Below.trans ?_ (Below.mono (by assumption) (by first | exact Nat.le_refl _ | (simp; done) | (simp; omega) | omega)))))).mono ?_; rintro r w1 ⟨rfl, hb⟩; obtain ⟨E, d, rfl⟩ := bExt hb; clear hb)
  go_wp2
  refine bodyPost_ret (v := .tuple #[.int .i64 (0), .int .i64 (8)]) (by simp [results, Try.results17, go_sem]) rfl ⟨rfl, (by repeat (first | exact Below.refl _ _ | refine Below.drew ?_ | refine below_drewN ?_ _ | refine Below.alloc ?_ (by first | exact Nat.le_refl _ | (simp; done) | (simp; omega) | omega) _ | refine Below.setCell ?_ (by first | exact Nat.le_refl _ | (simp; done) | (simp; omega) | omega) _ | refine bExtW ?_ (by first | exact Nat.le_refl _ | (simp; done) | (simp; omega) | omega) | refine Below.trans ?_ (Below.mono (by assumption) (by first | exact Nat.le_refl _ | (simp; done) | (simp; omega) | omega))))⟩
set_option maxRecDepth 100000 in
set_option maxHeartbeats 8000000 in
theorem rBand_ok (W H n : Nat) (a : Option Addr) (c : Nat) (cs : List Int) (w : World) (hI : IsInts w a n cs) (h : ChOk 4 W H n cs) :
    Calls Try.prog 17 #[.agg #[.int .i64 (4), .int .i64 (W), .int .i64 (H), .slice a n c]] w fun r w' => r = .returned (.tuple #[.int .i64 (bandP W H cs), .int .i64 (0)]) ∧ Below w.heap.size w w' := by
  have hn4 := h.n4
  have hw1 := h.w1; have hw2 := h.w2
  have HW := Lib.hid (fun w hI => r2Wrong_any 4 W H a n c cs w hI (by omega) (by omega) (by have := h.h2; omega) (by omega))
  have he : chE 4 W H n cs = 0 := h.e
  rw [he] at HW
  have HKP := Lib.hid (fun (t : Nat) (back over : Bool) w (ht : t ≤ 64) hI => rKept4_ok 4 W H n t back over a c cs w hI h ht)
  have HI := Lib.hid hI
  rw [← rbV_eq hw1]
  have HS1 := Lib.hid (fun t => keB_succ (W := W) (H := H) (cs := cs) (back := true) (over := false) t)
  have HS2 := Lib.hid (fun t => keB_succ (W := W) (H := H) (cs := cs) (back := true) (over := true) t)
  have HS3 := Lib.hid (fun t => keB_succ (W := W) (H := H) (cs := cs) (back := false) (over := true) t)
  have HZ1 := Lib.hid (keB_zero (W := W) (H := H) (cs := cs) (back := true) (over := false))
  have HZ2 := Lib.hid (keB_zero (W := W) (H := H) (cs := cs) (back := true) (over := true))
  have HZ3 := Lib.hid (keB_zero (W := W) (H := H) (cs := cs) (back := false) (over := true))
  have HK0 := Lib.hid (fun w hI => HKP.out 0 false true w (by omega) hI)
  generalize keB W H cs true false 0 = K1 at *
  generalize keB W H cs true true 0 = K2 at *
  generalize keB W H cs false true 0 = K3 at *
  obtain ⟨R1, hR1⟩ : ∃ R, K1 W = R := ⟨_, rfl⟩
  obtain ⟨R2, hR2⟩ : ∃ R, K2 W = R := ⟨_, rfl⟩
  obtain ⟨R3, hR3⟩ : ∃ R, K3 W = R := ⟨_, rfl⟩
  rw [hR1, hR2, hR3]
  have HR1 := Lib.hid hR1; have HR2 := Lib.hid hR2; have HR3 := Lib.hid hR3
  generalize bsB W H cs false true 0 = q at HK0 ⊢
  clear hI h he hR1 hR2 hR3
  go_enter Try.func17, Try.ntmps17
  (go_wp2_with fail; refine (HW.out _ (HI.out.below (by repeat (first | exact Below.refl _ _ | refine Below.drew ?_ | refine below_drewN ?_ _ | refine Below.alloc ?_ (by first | exact Nat.le_refl _ | (simp; done) | (simp; omega) | omega) _ | refine Below.setCell ?_ (by first | exact Nat.le_refl _ | (simp; done) | (simp; omega) | omega) _ | refine bExtW ?_ (by first | exact Nat.le_refl _ | (simp; done) | (simp; omega) | omega) | refine Below.trans ?_ (Below.mono (by assumption) (by first | exact Nat.le_refl _ | (simp; done) | (simp; omega) | omega)))))).mono ?_; rintro r w1 ⟨rfl, hb⟩; obtain ⟨E, d, rfl⟩ := bExt hb; clear hb)
  clear HW
  go_wp2_with fail
  go_loopw [5, 6, 7, 8] (fun v5 v6 v7 tv wr => ∃ (t : Nat) (p5 p6 p7 : Bool) (E : Array Obj) (d : Nat), t ≤ W ∧ v5 = .bool p5 ∧ v6 = .bool p6 ∧ v7 = .bool p7 ∧ tv = .int .i64 t ∧ Hid (p5 = K1 t) ∧ Hid (p6 = K2 t) ∧ Hid (p7 = K3 t) ∧ wr = extW (w.alloc (.cells #[.int .i64 4, .int .i64 W, .int .i64 H, .slice a n c] 24)) E d) (fun _ _ _ tv _ => W - (intOf tv).toNat)
  case atStart =>
    exact ⟨0, false, false, false, E, d, by omega, rfl, rfl, rfl, rfl, Lib.hid HZ1.out.symm, Lib.hid HZ2.out.symm, Lib.hid HZ3.out.symm, rfl⟩
  case round =>
    clear HZ1 HZ2 HZ3
    obtain ⟨t, p5, p6, p7, E, d, ht, rfl, rfl, rfl, rfl, H5, H6, H7, rfl⟩ := hrel
    by_cases htW : t < W
    · have dt : decide ((t : Int) < (W : Int)) = true := by simpa using htW
      have vt : IntKind.i64.wrap ((t : Int) + 1) = (t : Int) + 1 := IntWalk.i64_in _ (by omega)
      have HA := Lib.hid (fun w hI => HKP.out t true false w (by omega) hI)
      have HB := Lib.hid (fun w hI => HKP.out t true true w (by omega) hI)
      have HC := Lib.hid (fun w hI => HKP.out t false true w (by omega) hI)
      have C5 := Lib.hid (HS1.out t); have C6 := Lib.hid (HS2.out t); have C7 := Lib.hid (HS3.out t)
      rw [← H5.out] at C5; rw [← H6.out] at C6; rw [← H7.out] at C7
      generalize bsB W H cs true false t = q5 at *
      generalize bsB W H cs true true t = q6 at *
      generalize bsB W H cs false true t = q7 at *
      clear H5 H6 H7 HS1 HS2 HS3 HKP HK0
      cases p5 <;> cases p6 <;> cases p7
      · skip
        (go_wp2_with fail; refine (HA.out _ (HI.out.below (by repeat (first | exact Below.refl _ _ | refine Below.drew ?_ | refine below_drewN ?_ _ | refine Below.alloc ?_ (by first | exact Nat.le_refl _ | (simp; done) | (simp; omega) | omega) _ | refine Below.setCell ?_ (by first | exact Nat.le_refl _ | (simp; done) | (simp; omega) | omega) _ | refine bExtW ?_ (by first | exact Nat.le_refl _ | (simp; done) | (simp; omega) | omega) | refine Below.trans ?_ (Below.mono (by assumption) (by first | exact Nat.le_refl _ | (simp; done) | (simp; omega) | omega)))))).mono ?_; rintro r w1 ⟨rfl, hb⟩; obtain ⟨E, d, rfl⟩ := bExt hb; clear hb)
        (go_wp2_with fail; refine (HB.out _ (HI.out.below (by repeat (first | exact Below.refl _ _ | refine Below.drew ?_ | refine below_drewN ?_ _ | refine Below.alloc ?_ (by first | exact Nat.le_refl _ | (simp; done) | (simp; omega) | omega) _ | refine Below.setCell ?_ (by first | exact Nat.le_refl _ | (simp; done) | (simp; omega) | omega) _ | refine bExtW ?_ (by first | exact Nat.le_refl _ | (simp; done) | (simp; omega) | omega) | refine Below.trans ?_ (Below.mono (by assumption) (by first | exact Nat.le_refl _ | (simp; done) | (simp; omega) | omega)))))).mono ?_; rintro r w1 ⟨rfl, hb⟩; obtain ⟨E, d, rfl⟩ := bExt hb; clear hb)
        (go_wp2_with fail; refine (HC.out _ (HI.out.below (by repeat (first | exact Below.refl _ _ | refine Below.drew ?_ | refine below_drewN ?_ _ | refine Below.alloc ?_ (by first | exact Nat.le_refl _ | (simp; done) | (simp; omega) | omega) _ | refine Below.setCell ?_ (by first | exact Nat.le_refl _ | (simp; done) | (simp; omega) | omega) _ | refine bExtW ?_ (by first | exact Nat.le_refl _ | (simp; done) | (simp; omega) | omega) | refine Below.trans ?_ (Below.mono (by assumption) (by first | exact Nat.le_refl _ | (simp; done) | (simp; omega) | omega)))))).mono ?_; rintro r w1 ⟨rfl, hb⟩; obtain ⟨E, d, rfl⟩ := bExt hb; clear hb)
        go_wp2
        go_roundw
        case rel => exact ⟨t + 1, _, _, _, _, _, by omega, rfl, rfl, rfl, by go_num, Lib.hid (by have h := C5.out; simp only [Bool.true_or, Bool.false_or] at h; exact h.symm), Lib.hid (by have h := C6.out; simp only [Bool.true_or, Bool.false_or] at h; exact h.symm), Lib.hid (by have h := C7.out; simp only [Bool.true_or, Bool.false_or] at h; exact h.symm), by first | (simp only [extW_extW]; rfl) | rfl⟩
        case measure => simp [intOf]; omega
      · skip
        (go_wp2_with fail; refine (HA.out _ (HI.out.below (by repeat (first | exact Below.refl _ _ | refine Below.drew ?_ | refine below_drewN ?_ _ | refine Below.alloc ?_ (by first | exact Nat.le_refl _ | (simp; done) | (simp; omega) | omega) _ | refine Below.setCell ?_ (by first | exact Nat.le_refl _ | (simp; done) | (simp; omega) | omega) _ | refine bExtW ?_ (by first | exact Nat.le_refl _ | (simp; done) | (simp; omega) | omega) | refine Below.trans ?_ (Below.mono (by assumption) (by first | exact Nat.le_refl _ | (simp; done) | (simp; omega) | omega)))))).mono ?_; rintro r w1 ⟨rfl, hb⟩; obtain ⟨E, d, rfl⟩ := bExt hb; clear hb)
        (go_wp2_with fail; refine (HB.out _ (HI.out.below (by repeat (first | exact Below.refl _ _ | refine Below.drew ?_ | refine below_drewN ?_ _ | refine Below.alloc ?_ (by first | exact Nat.le_refl _ | (simp; done) | (simp; omega) | omega) _ | refine Below.setCell ?_ (by first | exact Nat.le_refl _ | (simp; done) | (simp; omega) | omega) _ | refine bExtW ?_ (by first | exact Nat.le_refl _ | (simp; done) | (simp; omega) | omega) | refine Below.trans ?_ (Below.mono (by assumption) (by first | exact Nat.le_refl _ | (simp; done) | (simp; omega) | omega)))))).mono ?_; rintro r w1 ⟨rfl, hb⟩; obtain ⟨E, d, rfl⟩ := bExt hb; clear hb)
        go_wp2
        go_roundw
        case rel => exact ⟨t + 1, _, _, _, _, _, by omega, rfl, rfl, rfl, by go_num, Lib.hid (by have h := C5.out; simp only [Bool.true_or, Bool.false_or] at h; exact h.symm), Lib.hid (by have h := C6.out; simp only [Bool.true_or, Bool.false_or] at h; exact h.symm), Lib.hid (by have h := C7.out; simp only [Bool.true_or, Bool.false_or] at h; exact h.symm), by first | (simp only [extW_extW]; rfl) | rfl⟩
        case measure => simp [intOf]; omega
      · skip
        (go_wp2_with fail; refine (HA.out _ (HI.out.below (by repeat (first | exact Below.refl _ _ | refine Below.drew ?_ | refine below_drewN ?_ _ | refine Below.alloc ?_ (by first | exact Nat.le_refl _ | (simp; done) | (simp; omega) | omega) _ | refine Below.setCell ?_ (by first | exact Nat.le_refl _ | (simp; done) | (simp; omega) | omega) _ | refine bExtW ?_ (by first | exact Nat.le_refl _ | (simp; done) | (simp; omega) | omega) | refine Below.trans ?_ (Below.mono (by assumption) (by first | exact Nat.le_refl _ | (simp; done) | (simp; omega) | omega)))))).mono ?_; rintro r w1 ⟨rfl, hb⟩; obtain ⟨E, d, rfl⟩ := bExt hb; clear hb)
        (go_wp2_with fail; refine (HC.out _ (HI.out.below (by repeat (first | exact Below.refl _ _ | refine Below.drew ?_ | refine below_drewN ?_ _ | refine Below.alloc ?_ (by first | exact Nat.le_refl _ | (simp; done) | (simp; omega) | omega) _ | refine Below.setCell ?_ (by first | exact Nat.le_refl _ | (simp; done) | (simp; omega) | omega) _ | refine bExtW ?_ (by first | exact Nat.le_refl _ | (simp; done) | (simp; omega) | omega) | refine Below.trans ?_ (Below.mono (by assumption) (by first | exact Nat.le_refl _ | (simp; done) | (simp; omega) | omega)))))).mono ?_; rintro r w1 ⟨rfl, hb⟩; obtain ⟨E, d, rfl⟩ := bExt hb; clear hb)
        go_wp2
        go_roundw
        case rel => exact ⟨t + 1, _, _, _, _, _, by omega, rfl, rfl, rfl, by go_num, Lib.hid (by have h := C5.out; simp only [Bool.true_or, Bool.false_or] at h; exact h.symm), Lib.hid (by have h := C6.out; simp only [Bool.true_or, Bool.false_or] at h; exact h.symm), Lib.hid (by have h := C7.out; simp only [Bool.true_or, Bool.false_or] at h; exact h.symm), by first | (simp only [extW_extW]; rfl) | rfl⟩
        case measure => simp [intOf]; omega
      · skip
        (go_wp2_with fail; refine (HA.out _ (HI.out.below (by repeat (first | exact Below.refl _ _ | refine Below.drew ?_ | refine below_drewN ?_ _ | refine Below.alloc ?_ (by first | exact Nat.le_refl _ | (simp; done) | (simp; omega) | omega) _ | refine Below.setCell ?_ (by first | exact Nat.le_refl _ | (simp; done) | (simp; omega) | omega) _ | refine bExtW ?_ (by first | exact Nat.le_refl _ | (simp; done) | (simp; omega) | omega) | refine Below.trans ?_ (Below.mono (by assumption) (by first | exact Nat.le_refl _ | (simp; done) | (simp; omega) | omega)))))).mono ?_; rintro r w1 ⟨rfl, hb⟩; obtain ⟨E, d, rfl⟩ := bExt hb; clear hb)
        go_wp2
        go_roundw
        case rel => exact ⟨t + 1, _, _, _, _, _, by omega, rfl, rfl, rfl, by go_num, Lib.hid (by have h := C5.out; simp only [Bool.true_or, Bool.false_or] at h; exact h.symm), Lib.hid (by have h := C6.out; simp only [Bool.true_or, Bool.false_or] at h; exact h.symm), Lib.hid (by have h := C7.out; simp only [Bool.true_or, Bool.false_or] at h; exact h.symm), by first | (simp only [extW_extW]; rfl) | rfl⟩
        case measure => simp [intOf]; omega
      · skip
        (go_wp2_with fail; refine (HB.out _ (HI.out.below (by repeat (first | exact Below.refl _ _ | refine Below.drew ?_ | refine below_drewN ?_ _ | refine Below.alloc ?_ (by first | exact Nat.le_refl _ | (simp; done) | (simp; omega) | omega) _ | refine Below.setCell ?_ (by first | exact Nat.le_refl _ | (simp; done) | (simp; omega) | omega) _ | refine bExtW ?_ (by first | exact Nat.le_refl _ | (simp; done) | (simp; omega) | omega) | refine Below.trans ?_ (Below.mono (by assumption) (by first | exact Nat.le_refl _ | (simp; done) | (simp; omega) | omega)))))).mono ?_; rintro r w1 ⟨rfl, hb⟩; obtain ⟨E, d, rfl⟩ := bExt hb; clear hb)
        (go_wp2_with fail; refine (HC.out _ (HI.out.below (by repeat (first | exact Below.refl _ _ | refine Below.drew ?_ | refine below_drewN ?_ _ | refine Below.alloc ?_ (by first | exact Nat.le_refl _ | (simp; done) | (simp; omega) | omega) _ | refine Below.setCell ?_ (by first | exact Nat.le_refl _ | (simp; done) | (simp; omega) | omega) _ | refine bExtW ?_ (by first | exact Nat.le_refl _ | (simp; done) | (simp; omega) | omega) | refine Below.trans ?_ (Below.mono (by assumption) (by first | exact Nat.le_refl _ | (simp; done) | (simp; omega) | omega)))))).mono ?_; rintro r w1 ⟨rfl, hb⟩; obtain ⟨E, d, rfl⟩ := bExt hb; clear hb)
        go_wp2
        go_roundw
        case rel => exact ⟨t + 1, _, _, _, _, _, by omega, rfl, rfl, rfl, by go_num, Lib.hid (by have h := C5.out; simp only [Bool.true_or, Bool.false_or] at h; exact h.symm), Lib.hid (by have h := C6.out; simp only [Bool.true_or, Bool.false_or] at h; exact h.symm), Lib.hid (by have h := C7.out; simp only [Bool.true_or, Bool.false_or] at h; exact h.symm), by first | (simp only [extW_extW]; rfl) | rfl⟩
        case measure => simp [intOf]; omega
      · skip
        (go_wp2_with fail; refine (HB.out _ (HI.out.below (by repeat (first | exact Below.refl _ _ | refine Below.drew ?_ | refine below_drewN ?_ _ | refine Below.alloc ?_ (by first | exact Nat.le_refl _ | (simp; done) | (simp; omega) | omega) _ | refine Below.setCell ?_ (by first | exact Nat.le_refl _ | (simp; done) | (simp; omega) | omega) _ | refine bExtW ?_ (by first | exact Nat.le_refl _ | (simp; done) | (simp; omega) | omega) | refine Below.trans ?_ (Below.mono (by assumption) (by first | exact Nat.le_refl _ | (simp; done) | (simp; omega) | omega)))))).mono ?_; rintro r w1 ⟨rfl, hb⟩; obtain ⟨E, d, rfl⟩ := bExt hb; clear hb)
        go_wp2
        go_roundw
        case rel => exact ⟨t + 1, _, _, _, _, _, by omega, rfl, rfl, rfl, by go_num, Lib.hid (by have h := C5.out; simp only [Bool.true_or, Bool.false_or] at h; exact h.symm), Lib.hid (by have h := C6.out; simp only [Bool.true_or, Bool.false_or] at h; exact h.symm), Lib.hid (by have h := C7.out; simp only [Bool.true_or, Bool.false_or] at h; exact h.symm), by first | (simp only [extW_extW]; rfl) | rfl⟩
        case measure => simp [intOf]; omega
      · skip
        (go_wp2_with fail; refine (HC.out _ (HI.out.below (by repeat (first | exact Below.refl _ _ | refine Below.drew ?_ | refine below_drewN ?_ _ | refine Below.alloc ?_ (by first | exact Nat.le_refl _ | (simp; done) | (simp; omega) | omega) _ | refine Below.setCell ?_ (by first | exact Nat.le_refl _ | (simp; done) | (simp; omega) | omega) _ | refine bExtW ?_ (by first | exact Nat.le_refl _ | (simp; done) | (simp; omega) | omega) | refine Below.trans ?_ (Below.mono (by assumption) (by first | exact Nat.le_refl _ | (simp; done) | (simp; omega) | omega)))))).mono ?_; rintro r w1 ⟨rfl, hb⟩; obtain ⟨E, d, rfl⟩ := bExt hb; clear hb)
        go_wp2
        go_roundw
        case rel => exact ⟨t + 1, _, _, _, _, _, by omega, rfl, rfl, rfl, by go_num, Lib.hid (by have h := C5.out; simp only [Bool.true_or, Bool.false_or] at h; exact h.symm), Lib.hid (by have h := C6.out; simp only [Bool.true_or, Bool.false_or] at h; exact h.symm), Lib.hid (by have h := C7.out; simp only [Bool.true_or, Bool.false_or] at h; exact h.symm), by first | (simp only [extW_extW]; rfl) | rfl⟩
        case measure => simp [intOf]; omega
      · skip
        go_wp2
        go_roundw
        case rel => exact ⟨t + 1, _, _, _, _, _, by omega, rfl, rfl, rfl, by go_num, Lib.hid (by have h := C5.out; simp only [Bool.true_or, Bool.false_or] at h; exact h.symm), Lib.hid (by have h := C6.out; simp only [Bool.true_or, Bool.false_or] at h; exact h.symm), Lib.hid (by have h := C7.out; simp only [Bool.true_or, Bool.false_or] at h; exact h.symm), by first | (simp only [extW_extW]; rfl) | rfl⟩
        case measure => simp [intOf]; omega
    · obtain rfl : t = W := by omega
      have dt : decide ((t : Int) < (t : Int)) = false := by simp
      obtain rfl : p5 = R1 := H5.out.trans HR1.out
      obtain rfl : p6 = R2 := H6.out.trans HR2.out
      obtain rfl : p7 = R3 := H7.out.trans HR3.out
      clear H5 H6 H7 HR1 HR2 HR3 HS1 HS2 HS3 HKP
      (go_wp2_with fail; refine (HK0.out _ (HI.out.below (by repeat (first | exact Below.refl _ _ | refine Below.drew ?_ | refine below_drewN ?_ _ | refine Below.alloc ?_ (by first | exact Nat.le_refl _ | (simp; done) | (simp; omega) | omega) _ | refine Below.setCell ?_ (by first | exact Nat.le_refl _ | (simp; done) | (simp; omega) | omega) _ | refine bExtW ?_ (by first | exact Nat.le_refl _ | (simp; done) | (simp; omega) | omega) | refine Below.trans ?_ (Below.mono (by assumption) (by first | exact Nat.le_refl _ | (simp; done) | (simp; omega) | omega)))))).mono ?_; rintro r w1 ⟨rfl, hb⟩; obtain ⟨E, d, rfl⟩ := bExt hb; clear hb)
      clear HK0 HI
      cases p5 <;> cases p6 <;> cases p7 <;> cases q
      all_goals
        go_wp2
        refine bodyPost_ret (v := _) (by simp [results, Try.results17, go_sem, rbV]) rfl ⟨rfl, (by repeat (first | exact Below.refl _ _ | refine Below.drew ?_ | refine below_drewN ?_ _ | refine Below.alloc ?_ (by first | exact Nat.le_refl _ | (simp; done) | (simp; omega) | omega) _ | refine Below.setCell ?_ (by first | exact Nat.le_refl _ | (simp; done) | (simp; omega) | omega) _ | refine bExtW ?_ (by first | exact Nat.le_refl _ | (simp; done) | (simp; omega) | omega) | refine Below.trans ?_ (Below.mono (by assumption) (by first | exact Nat.le_refl _ | (simp; done) | (simp; omega) | omega))))⟩
end Go.Proofs.Ytooilennejakhaa

namespace Go.Proofs.Ytooilennejakhaa.Z
set_option linter.unusedVariables false
set_option linter.unusedSimpArgs false
theorem mem_turnsF (L : List Mv) : ∀ (T : List Nat) (t : Nat), t ∈ L.foldl turnS T ↔ t ∈ T ∨ ∃ m ∈ L, m.f = false ∧ m.t = t := by
  induction L with
  | nil => intro T t; simp
  | cons a L ih =>
    intro T t
    rw [List.foldl_cons, ih]
    have e : t ∈ turnS T a ↔ t ∈ T ∨ (a.f = false ∧ a.t = t) := by
      unfold turnS
      split
      · rename_i h
        constructor
        · exact .inl
        · rintro (h2 | ⟨h2, h3⟩)
          · exact h2
          · rcases h with h | h
            · rw [h] at h2; cases h2
            · rw [← h3]; exact h
      · rename_i h
        rw [List.mem_append, List.mem_singleton]
        have hf : a.f = false := by
          cases h9 : a.f
          · rfl
          · exact absurd (.inl h9) h
        constructor
        · rintro (h2 | h2)
          · exact .inl h2
          · exact .inr ⟨hf, h2.symm⟩
        · rintro (h2 | h2)
          · exact .inl h2
          · exact .inr h2.2.symm
    rw [e]
    constructor
    · rintro ((h | h) | ⟨m, hm, h⟩)
      · exact .inl h
      · exact .inr ⟨a, List.mem_cons_self .., h⟩
      · exact .inr ⟨m, List.mem_cons_of_mem _ hm, h⟩
    · rintro (h | ⟨m, hm, h⟩)
      · exact .inl (.inl h)
      · rcases List.mem_cons.1 hm with rfl | hm
        · exact .inl (.inr h)
        · exact .inr ⟨m, hm, h⟩
theorem nodup_turnsF (L : List Mv) : ∀ (T : List Nat), T.Nodup → (L.foldl turnS T).Nodup := by
  induction L with
  | nil => intro T h; exact h
  | cons a L ih => intro T h; exact ih _ (turnS_nodup h a)
theorem any_keys {E : List (Nat × Bool × Bool)} {t : Nat} : (E.any fun e => e.1 == t) = true ↔ t ∈ E.map (·.1) := by
  rw [List.any_eq_true, List.mem_map]
  constructor
  · rintro ⟨e, he, h⟩
    exact ⟨e, he, eq_of_beq h⟩
  · rintro ⟨e, he, h⟩
    exact ⟨e, he, by rw [h]; exact beq_self_eq_true _⟩
theorem mem_waysF (g a b c : Int) (L : List Mv) : ∀ (E : List (Nat × Bool × Bool)) (t : Nat), t ∈ (L.foldl (wayS g a b c) E).map (·.1) ↔ t ∈ E.map (·.1) ∨ ∃ m ∈ L, m.f = true ∧ m.t = t := by
  induction L with
  | nil => intro T t; simp
  | cons x L ih =>
    intro T t
    rw [List.foldl_cons, ih]
    have e : t ∈ (wayS g a b c T x).map (·.1) ↔ t ∈ T.map (·.1) ∨ (x.f = true ∧ x.t = t) := by
      unfold wayS
      split
      · rename_i h
        constructor
        · exact .inl
        · rintro (h2 | ⟨h2, h3⟩)
          · exact h2
          · rcases h with h | h
            · rw [h] at h2; cases h2
            · rw [← h3]; exact any_keys.1 h
      · rename_i h
        rw [List.map_append, List.mem_append, List.map_singleton, List.mem_singleton]
        have hf : x.f = true := by
          cases h9 : x.f
          · exact absurd (.inl h9) h
          · rfl
        constructor
        · rintro (h2 | h2)
          · exact .inl h2
          · exact .inr ⟨hf, h2.symm⟩
        · rintro (h2 | h2)
          · exact .inl h2
          · exact .inr h2.2.symm
    rw [e]
    constructor
    · rintro ((h | h) | ⟨m, hm, h⟩)
      · exact .inl h
      · exact .inr ⟨x, List.mem_cons_self .., h⟩
      · exact .inr ⟨m, List.mem_cons_of_mem _ hm, h⟩
    · rintro (h | ⟨m, hm, h⟩)
      · exact .inl (.inl h)
      · rcases List.mem_cons.1 hm with rfl | hm
        · exact .inl (.inr h)
        · exact .inr ⟨m, hm, h⟩
theorem mem_turns {L : List Mv} {t : Nat} : t ∈ turnsF L ↔ ∃ m ∈ L, m.f = false ∧ m.t = t := by
  unfold turnsF
  rw [mem_turnsF]
  simp
theorem mem_ways {g a b c : Int} {L : List Mv} {t : Nat} : t ∈ (waysF g a b c L).map (·.1) ↔ ∃ m ∈ L, m.f = true ∧ m.t = t := by
  unfold waysF
  rw [mem_waysF]
  simp
theorem waysF_nil {g a b c : Int} {L : List Mv} : waysF g a b c L = [] ↔ ∀ m ∈ L, m.f = false := by
  constructor
  · intro h m hm
    cases h9 : m.f
    · rfl
    · have : m.t ∈ (waysF g a b c L).map (·.1) := mem_ways.2 ⟨m, hm, h9, rfl⟩
      rw [h] at this
      simp at this
  · intro h
    cases h9 : waysF g a b c L with
    | nil => rfl
    | cons e E =>
      have : e.1 ∈ (waysF g a b c L).map (·.1) := by rw [h9]; simp
      obtain ⟨m, hm, h1, _⟩ := mem_ways.1 this
      rw [h m hm] at h1
      cases h1
theorem nod_length {T : List Nat} {g : Nat} (hn : T.Nodup) (hb : ∀ t ∈ T, t < g) : T.length = (List.range g).countP fun v => decide (v ∈ T) := by
  rw [List.countP_eq_length_filter]
  refine List.Perm.length_eq ?_
  rw [List.perm_ext_iff_of_nodup hn (List.Pairwise.filter _ List.nodup_range)]
  intro t
  rw [List.mem_filter, List.mem_range, decide_eq_true_eq]
  exact ⟨fun h => ⟨hb t h, h⟩, fun h => h.2⟩
section
variable {g : Nat} {n : Nat} {col : Pt → Int} {L : List Mv}
/-- Is there one of that turn? -/
def hasT (L : List Mv) (f : Bool) (t : Nat) : Bool := L.any (keyB t f)
theorem hasT_iff {L : List Mv} {f : Bool} {t : Nat} : hasT L f t = true ↔ ∃ m ∈ L, m.f = f ∧ m.t = t := by
  unfold hasT
  rw [List.any_eq_true]
  exact ⟨fun ⟨m, h, k⟩ => ⟨m, h, (keyB_iff.1 k).2, (keyB_iff.1 k).1⟩, fun ⟨m, h, k1, k2⟩ => ⟨m, h, keyB_iff.2 ⟨k2, k1⟩⟩⟩
theorem turns_len (h : Grp (g : Int) n col L) : (turnsF L).length = (List.range g).countP (hasT L false) := by
  rw [nod_length (g := g) (T := turnsF L) (nodup_turnsF L [] List.nodup_nil) (fun t ht => by
    obtain ⟨m, hm, _, rfl⟩ := mem_turns.1 ht
    have := h.ok hm; unfold okT at this; omega)]
  refine List.countP_congr fun v _ => ?_
  rw [decide_eq_true_eq, mem_turns, hasT_iff]
/-- As many moves of a sort as turns of it, times the steps. -/
theorem sort_count (h : Grp (g : Int) n col L) (hg : G (g : Int)) (hn : 0 < n) (hp : Per n col) (f : Bool) : L.countP (fun m => m.f == f) = (List.range g).countP (hasT L f) * (torusL n).countP (stepB L) := by
  rw [← sumL_countP, List.countP_eq_length_filter, length_by g (fun m => m.t) g (L.filter fun m => m.f == f) (fun x hx => by
    have := h.ok (List.mem_filter.1 hx).1; unfold okT at this; omega)]
  refine sumL_congr fun v _ => ?_
  rw [List.countP_filter]
  have e : L.countP (fun a => a.t == v && a.f == f) = L.countP (keyB v f) := List.countP_congr fun x _ => by
    rw [keyB_iff, Bool.and_eq_true, beq_iff_eq, beq_iff_eq]
  rw [e]
  cases hv : hasT L f v with
  | false =>
    rw [if_neg (by simp), List.countP_eq_zero]
    intro x hx e
    have : hasT L f v = true := hasT_iff.2 ⟨x, hx, (keyB_iff.1 e).2, (keyB_iff.1 e).1⟩
    rw [hv] at this
    cases this
  | true =>
    rw [if_pos rfl]
    obtain ⟨m, hm, rfl, rfl⟩ := hasT_iff.1 hv
    exact block_count h hg hn hp hm
theorem hasT_mul (h : Grp (g : Int) n col L) (hg : G (g : Int)) (hn : 0 < n) (hp : Per n col) {p q : Bool} {i j : Nat} (hi : hasT L p i = true) (hj : hasT L q j = true) : hasT L (p ^^ q) ((if p then i + (g - j) else i + j) % g) = true := by
  obtain ⟨x, hx, rfl, rfl⟩ := hasT_iff.1 hi
  obtain ⟨y, hy, rfl, rfl⟩ := hasT_iff.1 hj
  refine hasT_iff.2 ⟨_, h.mul hg (by omega) hp hx hy, rfl, ?_⟩
  show bothT g x y = _
  unfold bothT
  split <;> simp
end
/-- What sets of turns can be. -/
def clB (g : Nat) (bs cs : List Bool) : Bool :=
  bs.getD 0 false && (List.range g).all fun i => (List.range g).all fun j =>
    (!(bs.getD i false && bs.getD j false) || bs.getD ((i + j) % g) false) && (!(bs.getD i false && cs.getD j false) || cs.getD ((i + j) % g) false) &&
    (!(cs.getD i false && cs.getD j false) || bs.getD ((i + (g - j)) % g) false) && (!(cs.getD i false && bs.getD j false) || cs.getD ((i + (g - j)) % g) false)
def gdB (g : Nat) (bs cs : List Bool) : Bool :=
  let t := bs.countP id
  let f := cs.countP id
  (if g == 4 then t == 1 || t == 2 || t == 4 else t == 1 || t == 2 || t == 3 || t == 6) && (f == 0 || f == t)
theorem cl4 : ∀ b1 b2 b3 c0 c1 c2 c3 : Bool, clB 4 [true, b1, b2, b3] [c0, c1, c2, c3] = true → gdB 4 [true, b1, b2, b3] [c0, c1, c2, c3] = true := by decide +kernel
theorem cl6 : ∀ b1 b2 b3 b4 b5 c0 c1 c2 c3 c4 c5 : Bool, clB 6 [true, b1, b2, b3, b4, b5] [c0, c1, c2, c3, c4, c5] = true → gdB 6 [true, b1, b2, b3, b4, b5] [c0, c1, c2, c3, c4, c5] = true := by decide +kernel
section
variable {g : Nat} {n : Nat} {col : Pt → Int} {L : List Mv}
theorem sorts (h : Grp (g : Int) n col L) (hg : G (g : Int)) (hn : 0 < n) (hp : Per n col) : gdB g ((List.range g).map (hasT L false)) ((List.range g).map (hasT L true)) = true := by
  have h0 : hasT L false 0 = true := hasT_iff.2 ⟨idm, h.one hg (by omega), rfl, rfl⟩
  have hget : ∀ (p : Bool) i, i < g → ((List.range g).map (hasT L p)).getD i false = hasT L p i := fun p i hi => by
    rw [List.getD_eq_getElem?_getD, List.getElem?_map, List.getElem?_range hi]
    rfl
  have hg0 : 0 < g := by rcases hg with e | e <;> omega
  have hcl : clB g ((List.range g).map (hasT L false)) ((List.range g).map (hasT L true)) = true := by
    unfold clB
    rw [Bool.and_eq_true, hget _ _ hg0]
    refine ⟨h0, ?_⟩
    rw [List.all_eq_true]
    intro i hi
    rw [List.all_eq_true]
    intro j hj
    rw [List.mem_range] at hi hj
    rw [hget _ _ hi, hget _ _ hi, hget _ _ hj, hget _ _ hj, hget _ _ (Nat.mod_lt _ hg0), hget _ _ (Nat.mod_lt _ hg0), hget _ _ (Nat.mod_lt _ hg0), hget _ _ (Nat.mod_lt _ hg0)]
    have m1 := fun a b => hasT_mul (p := false) (q := false) (i := i) (j := j) h hg hn hp a b
    have m2 := fun a b => hasT_mul (p := false) (q := true) (i := i) (j := j) h hg hn hp a b
    have m3 := fun a b => hasT_mul (p := true) (q := true) (i := i) (j := j) h hg hn hp a b
    have m4 := fun a b => hasT_mul (p := true) (q := false) (i := i) (j := j) h hg hn hp a b
    simp only [Bool.xor_self, Bool.false_xor, Bool.true_xor, Bool.not_false, Bool.not_true, if_true, if_false, Bool.false_eq_true] at m1 m2 m3 m4
    generalize hasT L false ((i + j) % g) = x1 at *
    generalize hasT L true ((i + j) % g) = x2 at *
    generalize hasT L false ((i + (g - j)) % g) = x3 at *
    generalize hasT L true ((i + (g - j)) % g) = x4 at *
    generalize hasT L false i = y1 at *
    generalize hasT L true i = y2 at *
    generalize hasT L false j = y3 at *
    generalize hasT L true j = y4 at *
    cases x1 <;> cases x2 <;> cases x3 <;> cases x4 <;> cases y1 <;> cases y2 <;> cases y3 <;> cases y4 <;> simp_all
  rcases hg with e | e
  · obtain rfl : g = 4 := by omega
    have e1 : (List.range 4).map (hasT L false) = [true, hasT L false 1, hasT L false 2, hasT L false 3] := by rw [← h0]; rfl
    have e2 : (List.range 4).map (hasT L true) = [hasT L true 0, hasT L true 1, hasT L true 2, hasT L true 3] := rfl
    rw [e1, e2] at hcl ⊢
    exact cl4 _ _ _ _ _ _ _ hcl
  · obtain rfl : g = 6 := by omega
    have e1 : (List.range 6).map (hasT L false) = [true, hasT L false 1, hasT L false 2, hasT L false 3, hasT L false 4, hasT L false 5] := by rw [← h0]; rfl
    have e2 : (List.range 6).map (hasT L true) = [hasT L true 0, hasT L true 1, hasT L true 2, hasT L true 3, hasT L true 4, hasT L true 5] := rfl
    rw [e1, e2] at hcl ⊢
    exact cl6 _ _ _ _ _ _ _ _ _ _ _ hcl
end
/-- How often a pattern of a kind can be turned, flipped. -/
def tnK (k : Int) : Int := ([1, 2, 1, 1, 1, 2, 2, 2, 2, 4, 4, 4, 3, 3, 3, 6, 6] : List Int).getD (k.toNat - 1) 0
def flK (k : Int) : Int := if k = 1 ∨ k = 2 ∨ k = 10 ∨ k = 13 ∨ k = 16 then 0 else tnK k
theorem kind_turns {tn : Nat} (h : tn = 1 ∨ tn = 2 ∨ tn = 3 ∨ tn = 4 ∨ tn = 6) (al9 : Bool) (E : List (Nat × Bool × Bool)) : 1 ≤ kindP tn al9 E ∧ kindP tn al9 E ≤ 17 ∧ tnK (kindP tn al9 E) = tn ∧ flK (kindP tn al9 E) = if E = [] then 0 else tn := by
  unfold kindP
  rcases h with rfl | rfl | rfl | rfl | rfl <;> simp only [if_true, if_false, Nat.reduceEqDiff] <;> (by_cases hE : E = []) <;> simp only [hE, if_true, if_false] <;> (repeat' split) <;> (refine ⟨by decide, by decide, by rfl, by rfl⟩)
/-- What is said of a kind is so. -/
theorem counts_ok {g W H n : Nat} {cs : List Int} (hg : G (g : Int)) (hn : 0 < n) (hW : W ∣ n) (hH : H ∣ n) {a b : Nat} {c : Int} (hf : Fine (Stp (colP W H cs)) a b c) (al9 : Bool) {K : Int}
    (hK : kindP (turnsF (movesL W H cs g n)).length al9 (waysF g a b c (movesL W H cs g n)) = K) :
    1 ≤ K ∧ K ≤ 17 ∧ (g = 4 → tnK K ≠ 3 ∧ tnK K ≠ 6) ∧ (g = 6 → tnK K ≠ 4) ∧
    ∃ S : Nat, Int.tdiv ((n : Int) * n) ((a : Int) * b) = S ∧ ((movesL W H cs g n).countP (fun m => m.f == false) : Int) = tnK K * S ∧ ((movesL W H cs g n).countP (fun m => m.f == true) : Int) = flK K * S := by
  have grp := movesL_grp (cs := cs) (g := (g : Int)) hn hW hH
  have per := colP_per cs hW hH
  have hst := steps_count grp hg hn per hf
  have hT := turns_len grp
  have h1 := sort_count grp hg hn per false
  have h2 := sort_count grp hg hn per true
  have hs := sorts grp hg hn per
  have hE : waysF g a b c (movesL W H cs g n) = [] ↔ (List.range g).countP (hasT (movesL W H cs g n) true) = 0 := by
    rw [waysF_nil, List.countP_eq_zero]
    constructor
    · intro h v _ e
      obtain ⟨m, hm, h3, _⟩ := hasT_iff.1 e
      rw [h m hm] at h3
      cases h3
    · intro h m hm
      cases h9 : m.f
      · rfl
      · have := grp.ok hm
        unfold okT at this
        exact absurd (hasT_iff.2 ⟨m, hm, h9, rfl⟩) (h m.t (List.mem_range.2 (by omega)))
  generalize waysF g a b c (movesL W H cs g n) = E at *
  generalize (torusL n).countP (stepB (movesL W H cs g n)) = S at *
  have hab : 0 < a * b := by have := hf.a0; have := hf.b0; exact Nat.mul_pos (by omega) (by omega)
  have hdv : Int.tdiv ((n : Int) * n) ((a : Int) * b) = S := by
    rw [← Int.natCast_mul, ← Int.natCast_mul, ← hst]
    show ((S * (a * b) / (a * b) : Nat) : Int) = _
    rw [Nat.mul_div_cancel _ hab]
  unfold gdB at hs
  simp only [List.countP_map, Function.id_comp] at hs
  rw [← hT] at hs h1
  generalize (List.range g).countP (hasT (movesL W H cs g n) true) = f at *
  generalize (turnsF (movesL W H cs g n)).length = tn at *
  rw [Bool.and_eq_true] at hs
  obtain ⟨hs1, hs2⟩ := hs
  have hf2 : f = 0 ∨ f = tn := by simpa using hs2
  have htn : (g = 4 → tn = 1 ∨ tn = 2 ∨ tn = 4) ∧ (g = 6 → tn = 1 ∨ tn = 2 ∨ tn = 3 ∨ tn = 6) := by
    constructor
    · rintro rfl
      have : (tn = 1 ∨ tn = 2) ∨ tn = 4 := by simpa using hs1
      omega
    · rintro rfl
      have : ((tn = 1 ∨ tn = 2) ∨ tn = 3) ∨ tn = 6 := by simpa using hs1
      omega
  have hg2 : g = 4 ∨ g = 6 := by rcases hg with e | e <;> omega
  obtain ⟨k1, k2, k3, k4⟩ := kind_turns (tn := tn) (by rcases hg2 with e | e; (· have := htn.1 e; omega); (· have := htn.2 e; omega)) al9 E
  rw [hK] at k1 k2 k3 k4
  refine ⟨k1, k2, fun e => ?_, fun e => ?_, S, hdv, ?_, ?_⟩
  · rw [k3]; have := htn.1 e; omega
  · rw [k3]; have := htn.2 e; omega
  · rw [k3, h1]; push_cast; rfl
  · rw [k4, h2]
    rcases hf2 with e | e
    · rw [if_pos (hE.2 e), e]; simp
    · by_cases h0 : E = []
      · have := hE.1 h0
        rw [if_pos h0, this]; simp
      · rw [if_neg h0, e]; push_cast; rfl
end Go.Proofs.Ytooilennejakhaa.Z
