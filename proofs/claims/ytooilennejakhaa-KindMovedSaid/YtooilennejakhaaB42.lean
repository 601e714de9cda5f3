/- Lemmas and contracts of functions (what each call returns, and that it changes nothing that was there) that the proof of a law of this seat uses; each lemma states its own conditions. -/
import Derived.Test.YtooilennejakhaaB41
import Derived.Test.YtooilennejakhaaB37
namespace Go.Proofs.Ytooilennejakhaa
open Go.RowKit
set_option linter.unusedVariables false
set_option linter.unusedSimpArgs false
open Z (bandP bandV wayL wxN wyN)
set_option maxRecDepth 100000 in
set_option maxHeartbeats 8000000 in
theorem bands_bad (G W H at_ e : Int) (a : Option Addr) (n c : Nat) (cs : List Int) (w : World) (hI : IsInts w a n cs) (he : e ≠ 0) (hB : ∀ w, IsInts w a n cs → Calls Try.prog 13 #[.agg #[.int .i64 (G), .int .i64 (W), .int .i64 (H), .slice a n c]] w fun r w' => r = .returned (.tuple #[.int .i64 (0), .int .i64 (e)]) ∧ Below w.heap.size w w') :
    Calls Try.prog 4 #[.agg #[.int .i64 (G), .int .i64 (W), .int .i64 (H), .slice a n c], .int .i64 (at_)] w fun r w' => r = .returned (.bool true) ∧ Below w.heap.size w w' := by
  have hb : (e != 0) = true := by simpa using he
  have HB := Lib.hid hB
  have HI := Lib.hid hI
  clear hI he hB
  go_enter Try.func4, Try.ntmps4
  (go_wp2_with fail; refine (alive4_any _).mono ?_; rintro r w1 ⟨rfl, hb⟩; obtain ⟨E, d, rfl⟩ := bExt hb; clear hb)
  (go_wp2_with fail; refine (HB.out _ (HI.out.below (by repeat (first | exact Below.refl _ _ | refine Below.drew ?_ | refine below_drewN ?_ _ | refine Below.alloc ?_ (by first | exact Nat.le_refl _ | (simp; done) | (simp; omega) | omega) _ | refine Below.setCell ?_ (by first | exact Nat.le_refl _ | (simp; done) | (simp; omega) | omega) _ | refine bExtW ?_ (by first | exact Nat.le_refl _ | (simp; done) | (simp; omega) | omega) | refine Below.trans ?_ (Below.mono (by assumption) (by first | exact Nat.le_refl _ | (simp; done) | (simp; omega) | omega)))))).mono ?_; rintro r w1 ⟨rfl, hb⟩; obtain ⟨E, d, rfl⟩ := bExt hb; clear hb)
  go_wp2
  go_ret
  exact ⟨rfl, (by repeat (first | exact Below.refl _ _ | refine Below.drew ?_ | refine below_drewN ?_ _ | refine Below.alloc ?_ (by first | exact Nat.le_refl _ | (simp; done) | (simp; omega) | omega) _ | refine Below.setCell ?_ (by first | exact Nat.le_refl _ | (simp; done) | (simp; omega) | omega) _ | refine bExtW ?_ (by first | exact Nat.le_refl _ | (simp; done) | (simp; omega) | omega) | refine Below.trans ?_ (Below.mono (by assumption) (by first | exact Nat.le_refl _ | (simp; done) | (simp; omega) | omega))))⟩
set_option maxRecDepth 100000 in
set_option maxHeartbeats 8000000 in
theorem bands_neg (W H n : Nat) (at_ : Int) (a : Option Addr) (c : Nat) (cs : List Int) (w : World) (hI : IsInts w a n cs) (h : ChOk 4 W H n cs) (ha : at_ < 0) :
    Calls Try.prog 4 #[.agg #[.int .i64 (4), .int .i64 (W), .int .i64 (H), .slice a n c], .int .i64 (at_)] w fun r w' => r = .returned (.bool true) ∧ Below w.heap.size w w' := by
  have HB := Lib.hid (fun w hI => Band_ok W H n a c cs w hI h)
  have hk : 1 ≤ bandP W H cs ∧ bandP W H cs ≤ 7 := Z.bandV_bd _ _ _ _
  have HI := Lib.hid hI
  generalize bandP W H cs = K at *
  have q1 : decide (K < 1) = false := by simp; omega
  have q2 : decide (7 < K) = false := by simp; omega
  have q3 : decide (1 ≤ K) = true := by simp; omega
  have q4 : decide (K ≤ 7) = true := by simp; omega
  have q5 : decide (at_ < 0) = true := by simpa using ha
  clear hI h ha hk
  go_enter Try.func4, Try.ntmps4
  (go_wp2_with fail; refine (alive4_any _).mono ?_; rintro r w1 ⟨rfl, hb⟩; obtain ⟨E, d, rfl⟩ := bExt hb; clear hb)
  (go_wp2_with fail; refine (HB.out _ (HI.out.below (by repeat (first | exact Below.refl _ _ | refine Below.drew ?_ | refine below_drewN ?_ _ | refine Below.alloc ?_ (by first | exact Nat.le_refl _ | (simp; done) | (simp; omega) | omega) _ | refine Below.setCell ?_ (by first | exact Nat.le_refl _ | (simp; done) | (simp; omega) | omega) _ | refine bExtW ?_ (by first | exact Nat.le_refl _ | (simp; done) | (simp; omega) | omega) | refine Below.trans ?_ (Below.mono (by assumption) (by first | exact Nat.le_refl _ | (simp; done) | (simp; omega) | omega)))))).mono ?_; rintro r w1 ⟨rfl, hb⟩; obtain ⟨E, d, rfl⟩ := bExt hb; clear hb)
  go_wp2
  go_ret
  exact ⟨rfl, (by repeat (first | exact Below.refl _ _ | refine Below.drew ?_ | refine below_drewN ?_ _ | refine Below.alloc ?_ (by first | exact Nat.le_refl _ | (simp; done) | (simp; omega) | omega) _ | refine Below.setCell ?_ (by first | exact Nat.le_refl _ | (simp; done) | (simp; omega) | omega) _ | refine bExtW ?_ (by first | exact Nat.le_refl _ | (simp; done) | (simp; omega) | omega) | refine Below.trans ?_ (Below.mono (by assumption) (by first | exact Nat.le_refl _ | (simp; done) | (simp; omega) | omega))))⟩
theorem chG_set {G W H : Int} {v v' : Value} : ∀ i, i < 4 → (if i = 3 then v' else chG G W H v i) = chG G W H v' i := fun i hi => by
  have h4 : i = 0 ∨ i = 1 ∨ i = 2 ∨ i = 3 := by omega
  rcases h4 with rfl | rfl | rfl | rfl <;> rfl
set_option maxRecDepth 100000 in
set_option maxHeartbeats 8000000 in
theorem bands_ok (W H n : Nat) (at_ : Int) (a : Option Addr) (c : Nat) (cs : List Int) (w : World) (hI : IsInts w a n cs) (h : ChOk 4 W H n cs) (ha : 0 ≤ at_) (haw : at_ ≤ 9223372036854775807) :
    Calls Try.prog 4 #[.agg #[.int .i64 (4), .int .i64 (W), .int .i64 (H), .slice a n c], .int .i64 (at_)] w fun r w' => r = .returned (.bool true) ∧ Below w.heap.size w w' := by
  have hn4 := h.n4
  have hw1 := h.w1; have hw2 := h.w2; have hh1 := h.h1; have hh2 := h.h2
  have HN := Lib.hid h.hn
  have HB := Lib.hid (fun w hI => Band_ok W H n a c cs w hI h)
  have hk : 1 ≤ bandP W H cs ∧ bandP W H cs ≤ 7 := Z.bandV_bd _ _ _ _
  obtain ⟨am, ham⟩ : ∃ am : Nat, at_.tmod (W : Int) = am := by
    have h1 := Int.tmod_nonneg (W : Int) ha
    exact ⟨(at_.tmod (W : Int)).toNat, by omega⟩
  have hamW : am < W := by
    have := Int.tmod_lt_of_pos at_ (show (0 : Int) < W by omega)
    omega
  have HBD : Hid (∀ way A C w, way < 3 → IsInts w A n (wayL W H way am cs) → Calls Try.prog 13 #[.agg #[.int .i64 (4), .int .i64 (W), .int .i64 (H), .slice A n C]] w fun r w' => r = .returned (.tuple #[.int .i64 (bandP W H cs), .int .i64 (0)]) ∧ Below w.heap.size w w') := Lib.hid fun way A C w hw hI => by
    have := Band_ok W H n A C (wayL W H way am cs) w hI ⟨h.g, h.w1, h.w2, h.h1, h.h2, h.hn, Z.wayL_mem (P := fun x => 0 ≤ x ∧ x < 62) (by omega) h.cr⟩
    rw [Z.wayL_band h.w1 hw] at this
    exact this
  have HI := Lib.hid hI
  have HLL : Hid (∀ way, (wayL W H way am cs).length = n) := Lib.hid fun way => by rw [Z.wayL_len, h.hn]
  generalize bandP W H cs = K at *
  have k1 : decide (K < 1) = false := by simp; omega
  have k2 : decide (7 < K) = false := by simp; omega
  have k5 : decide (at_ < 0) = false := by simp; omega
  have k6 : (K != K) = false := by simp
  have k7 : IntKind.i64.wrap (am : Int) = (am : Int) := IntWalk.i64_in _ (by omega)
  have bW : ((W : Int) == 0) = false := by simp; omega
  have bW2 : (W : Int) ≠ 0 := by omega
  have bW3 : ¬ W = 0 := by omega
  obtain ⟨q, hq⟩ : ∃ q, w.heap.size = q := ⟨_, rfl⟩
  have hr0 := row4 w (.int .i64 (4)) (.int .i64 (W)) (.int .i64 (H)) (.slice a n c) 24
  have hb00 : Below w.heap.size w (w.alloc (.cells #[.int .i64 (4), .int .i64 (W), .int .i64 (H), .slice a n c] 24)) := (by repeat (first | exact Below.refl _ _ | refine Below.drew ?_ | refine below_drewN ?_ _ | refine Below.alloc ?_ (by first | exact Nat.le_refl _ | (simp; done) | (simp; omega) | omega) _ | refine Below.setCell ?_ (by first | exact Nat.le_refl _ | (simp; done) | (simp; omega) | omega) _ | refine bExtW ?_ (by first | exact Nat.le_refl _ | (simp; done) | (simp; omega) | omega) | refine Below.trans ?_ (Below.mono (by assumption) (by first | exact Nat.le_refl _ | (simp; done) | (simp; omega) | omega))))
  have hz0 : (w.alloc (.cells #[.int .i64 (4), .int .i64 (W), .int .i64 (H), .slice a n c] 24)).heap.size = q + 1 := by simp [hq]
  rw [hq] at hr0 hb00
  have HR0 := Lib.hid hr0; have HB0 := Lib.hid hb00; have HQ := Lib.hid hq; have HZ0 := Lib.hid hz0
  clear hI h ha haw hk hr0 hb00 hz0
  go_enter Try.func4, Try.ntmps4
  (go_wp2_with fail; refine (alive4_any _).mono ?_; rintro r w1 ⟨rfl, hb⟩; obtain ⟨E, d, rfl⟩ := bExt hb; clear hb)
  try rw [hq]
  clear hq
  have HI0 : Hid (IsInts (extW (w.alloc (.cells #[.int .i64 (4), .int .i64 (W), .int .i64 (H), .slice a n c] 24)) E d) a n cs) := Lib.hid (HI.out.below (bExtW (by repeat (first | exact Below.refl _ _ | refine Below.drew ?_ | refine below_drewN ?_ _ | refine Below.alloc ?_ (by first | exact Nat.le_refl _ | (simp; done) | (simp; omega) | omega) _ | refine Below.setCell ?_ (by first | exact Nat.le_refl _ | (simp; done) | (simp; omega) | omega) _ | refine bExtW ?_ (by first | exact Nat.le_refl _ | (simp; done) | (simp; omega) | omega) | refine Below.trans ?_ (Below.mono (by assumption) (by first | exact Nat.le_refl _ | (simp; done) | (simp; omega) | omega)))) (by simp)))
  generalize w.alloc (.cells #[.int .i64 (4), .int .i64 (W), .int .i64 (H), .slice a n c] 24) = W0 at *
  have hr1 := rowBelow HR0.out (w' := extW W0 E d) (bExtW (Below.refl _ _) (Nat.le_refl _)) HR0.out.lt
  have HB1 : Hid (Below q w (extW W0 E d)) := Lib.hid (bExtW HB0.out (by have := HZ0.out; omega))
  generalize extW W0 E d = W1 at *
  have q0 : (W1).cell? ⟨q, 0, none⟩ = some (.int .i64 (4)) := (hr1).cell (i := 0) (by omega)
  have q1 : (W1).cell? ⟨q, 1, none⟩ = some (.int .i64 (W)) := (hr1).cell (i := 1) (by omega)
  have q2 : (W1).cell? ⟨q, 2, none⟩ = some (.int .i64 (H)) := (hr1).cell (i := 2) (by omega)
  have q3 : (W1).cell? ⟨q, 3, none⟩ = some (.slice a n c) := (hr1).cell (i := 3) (by omega)
  have lq : LtW q W1 := (hr1).lt
  have HR1 := Lib.hid hr1
  clear hr1
  go_wp2_with fail
  refine (HB.out _ HI0.out).mono ?_
  rintro r w1 ⟨rfl, hb⟩
  have hr2 := rowBelow HR1.out hb HR1.out.lt
  have HB2 : Hid (Below q w w1) := Lib.hid (HB1.out.trans (hb.mono (Nat.le_of_lt HR1.out.lt)))
  have HI2 := Lib.hid (HI0.out.below hb)
  clear q0 q1 q2 q3 lq hb HB HB1 HI0 HR0 HB0 HR1
  have q0 : (w1).cell? ⟨q, 0, none⟩ = some (.int .i64 (4)) := (hr2).cell (i := 0) (by omega)
  have q1 : (w1).cell? ⟨q, 1, none⟩ = some (.int .i64 (W)) := (hr2).cell (i := 1) (by omega)
  have q2 : (w1).cell? ⟨q, 2, none⟩ = some (.int .i64 (H)) := (hr2).cell (i := 2) (by omega)
  have q3 : (w1).cell? ⟨q, 3, none⟩ = some (.slice a n c) := (hr2).cell (i := 3) (by omega)
  have lq : LtW q w1 := (hr2).lt
  have HR2 := Lib.hid hr2
  have hq1 : q < w1.heap.size := hr2.lt
  clear hr2
  go_wp2_with fail
  go_loopw [7] (fun pv wr => ∃ (way : Nat), way ≤ 3 ∧ pv = .int .i64 way ∧ Hid (Below w1.heap.size w1 wr)) (fun pv _ => 3 - (intOf pv).toNat)
  case atStart => exact ⟨0, by omega, rfl, Lib.hid (Below.refl _ _)⟩
  case round =>
    clear q0 q1 q2 q3 lq
    obtain ⟨way, hway, rfl, HBW⟩ := hrel
    have hr3 := rowBelow HR2.out HBW.out HR2.out.lt
    have q0 : (wr).cell? ⟨q, 0, none⟩ = some (.int .i64 (4)) := (hr3).cell (i := 0) (by omega)
    have q1 : (wr).cell? ⟨q, 1, none⟩ = some (.int .i64 (W)) := (hr3).cell (i := 1) (by omega)
    have q2 : (wr).cell? ⟨q, 2, none⟩ = some (.int .i64 (H)) := (hr3).cell (i := 2) (by omega)
    have q3 : (wr).cell? ⟨q, 3, none⟩ = some (.slice a n c) := (hr3).cell (i := 3) (by omega)
    have lq : LtW q wr := (hr3).lt
    have HI3 := Lib.hid (HI2.out.below HBW.out)
    have HR3 := Lib.hid hr3
    have hqr : q < wr.heap.size := hr3.lt
    clear hr3
    by_cases hw3 : way < 3
    · have dw : decide ((way : Int) < 3) = true := by simp; omega
      have vw : IntKind.i64.wrap ((way : Int) + 1) = (way : Int) + 1 := IntWalk.i64_in _ (by omega)
      go_wp2_with fail
      have hbA : Below wr.heap.size wr (wr.alloc (.cells #[.int .i64 (4), .int .i64 (W), .int .i64 (H), .slice none 0 0] 24)) := (by repeat (first | exact Below.refl _ _ | refine Below.drew ?_ | refine below_drewN ?_ _ | refine Below.alloc ?_ (by first | exact Nat.le_refl _ | (simp; done) | (simp; omega) | omega) _ | refine Below.setCell ?_ (by first | exact Nat.le_refl _ | (simp; done) | (simp; omega) | omega) _ | refine bExtW ?_ (by first | exact Nat.le_refl _ | (simp; done) | (simp; omega) | omega) | refine Below.trans ?_ (Below.mono (by assumption) (by first | exact Nat.le_refl _ | (simp; done) | (simp; omega) | omega))))
      have HF0 : Hid (FM wr.heap.size 24 4 (chG 4 W H) 3 [] wr (.slice none 0 0) (wr.alloc (.cells #[.int .i64 (4), .int .i64 (W), .int .i64 (H), .slice none 0 0] 24))) := Lib.hid (FM.start (chG_alloc wr 4 W H (.slice none 0 0)) (World.ownsRow_nil _ _ _ _) (by simp [Value.ownBlock]) hbA (Nat.le_refl _))
      have HTK := Lib.hid (fun x y hx hy => Z.wayL_take (W := W) (H := H) (way := way) (at_ := am) (x := x) (y := y) (cs := cs) hx hy)
      have HBDw := Lib.hid (fun A C w hI => HBD.out way A C w hw3 hI)
      have HLn := HLL.out way
      generalize wayL W H way am cs = L at *
      clear q0 q1 q2 q3 lq hbA
      obtain ⟨wo, rfl⟩ : ∃ wo : World, wo = wr := ⟨_, rfl⟩
      obtain ⟨mb, hmb⟩ : ∃ mb, wo.heap.size = mb := ⟨_, rfl⟩
      have HMB := Lib.hid hmb
      have hq2 : q < mb := by omega
      have HF1 : Hid (FM mb 24 4 (chG 4 W H) 3 [] wo (.slice none 0 0) (wo.alloc (.cells #[.int .i64 (4), .int .i64 (W), .int .i64 (H), .slice none 0 0] 24))) := Lib.hid (by rw [← hmb]; exact HF0.out)
      have hro := rowBelow HR3.out HF1.out.bel HR3.out.lt
      have q0 : ((wo.alloc (.cells #[.int .i64 (4), .int .i64 (W), .int .i64 (H), .slice none 0 0] 24))).cell? ⟨q, 0, none⟩ = some (.int .i64 (4)) := (hro).cell (i := 0) (by omega)
      have q1 : ((wo.alloc (.cells #[.int .i64 (4), .int .i64 (W), .int .i64 (H), .slice none 0 0] 24))).cell? ⟨q, 1, none⟩ = some (.int .i64 (W)) := (hro).cell (i := 1) (by omega)
      have q2 : ((wo.alloc (.cells #[.int .i64 (4), .int .i64 (W), .int .i64 (H), .slice none 0 0] 24))).cell? ⟨q, 2, none⟩ = some (.int .i64 (H)) := (hro).cell (i := 2) (by omega)
      have q3 : ((wo.alloc (.cells #[.int .i64 (4), .int .i64 (W), .int .i64 (H), .slice none 0 0] 24))).cell? ⟨q, 3, none⟩ = some (.slice a n c) := (hro).cell (i := 3) (by omega)
      have lq : LtW q (wo.alloc (.cells #[.int .i64 (4), .int .i64 (W), .int .i64 (H), .slice none 0 0] 24)) := (hro).lt
      try rw [hmb]
      clear hmb HF0 hro
      go_loopw [9] (fun yv w5 => ∃ (y : Nat) (v : Value), y ≤ H ∧ yv = .int .i64 y ∧ Hid (FM mb 24 4 (chG 4 W H) 3 ((L.take (y * W)).map i64v) wo v w5)) (fun yv _ => H - (intOf yv).toNat)
      case atStart => exact ⟨0, _, by omega, rfl, Lib.hid (by rw [Nat.zero_mul]; exact HF1.out)⟩
      case round =>
        clear q0 q1 q2 q3 lq HF1
        obtain ⟨y, v, hy, rfl, HF⟩ := hrel
        have hr5 := rowBelow HR3.out HF.out.bel HR3.out.lt
        have q0 : (wr).cell? ⟨q, 0, none⟩ = some (.int .i64 (4)) := (hr5).cell (i := 0) (by omega)
        have q1 : (wr).cell? ⟨q, 1, none⟩ = some (.int .i64 (W)) := (hr5).cell (i := 1) (by omega)
        have q2 : (wr).cell? ⟨q, 2, none⟩ = some (.int .i64 (H)) := (hr5).cell (i := 2) (by omega)
        have q3 : (wr).cell? ⟨q, 3, none⟩ = some (.slice a n c) := (hr5).cell (i := 3) (by omega)
        have lq : LtW q wr := (hr5).lt
        clear hr5
        by_cases hyH : y < H
        · have dy : decide ((y : Int) < (H : Int)) = true := by simpa using hyH
          have vy : IntKind.i64.wrap ((y : Int) + 1) = (y : Int) + 1 := IntWalk.i64_in _ (by omega)
          go_wp2_with fail
          clear q0 q1 q2 q3 lq
          obtain ⟨w6, rfl⟩ : ∃ w6 : World, w6 = wr := ⟨_, rfl⟩
          go_loopw [10] (fun xv w5 => ∃ (x : Nat) (v : Value), x ≤ W ∧ xv = .int .i64 x ∧ Hid (FM mb 24 4 (chG 4 W H) 3 ((L.take (y * W + x)).map i64v) wo v w5)) (fun xv _ => W - (intOf xv).toNat)
          case atStart => exact ⟨0, _, by omega, rfl, HF⟩
          case round =>
            clear HF
            obtain ⟨x, v, hx, rfl, HF⟩ := hrel
            have hr5 := rowBelow HR3.out HF.out.bel HR3.out.lt
            have q0 : (wr).cell? ⟨q, 0, none⟩ = some (.int .i64 (4)) := (hr5).cell (i := 0) (by omega)
            have q1 : (wr).cell? ⟨q, 1, none⟩ = some (.int .i64 (W)) := (hr5).cell (i := 1) (by omega)
            have q2 : (wr).cell? ⟨q, 2, none⟩ = some (.int .i64 (H)) := (hr5).cell (i := 2) (by omega)
            have q3 : (wr).cell? ⟨q, 3, none⟩ = some (.slice a n c) := (hr5).cell (i := 3) (by omega)
            have lq : LtW q wr := (hr5).lt
            clear hr5
            by_cases hxW : x < W
            · have dx : decide ((x : Int) < (W : Int)) = true := by simpa using hxW
              have vx : IntKind.i64.wrap ((x : Int) + 1) = (x : Int) + 1 := IntWalk.i64_in _ (by omega)
              have HS := Lib.hid (HTK.out x y hxW hyH)
              obtain ⟨k, hkk⟩ : ∃ k, wyN H way y = k := ⟨_, rfl⟩
              obtain ⟨i, hii⟩ : ∃ i, wxN W way am x = i := ⟨_, rfl⟩
              have hkH : k < H := by rw [← hkk]; exact Z.wy_lt hyH
              have hiW : i < W := by rw [← hii]; exact Z.wx_lt hxW
              obtain ⟨Q, hQ⟩ : ∃ Q, k * W = Q := ⟨_, rfl⟩
              obtain ⟨p, hp⟩ : ∃ p, Q + i = p := ⟨_, rfl⟩
              have hpn : p < n := by
                have := Z.bpl_lt hiW hkH
                have := HN.out
                omega
              have t3 : (k : Int) * (W : Int) = (Q : Int) := by rw [← hQ]; push_cast; rfl
              have t4 : (Q : Int) + (i : Int) = (p : Int) := by rw [← hp]; push_cast; rfl
              have u3 : IntKind.i64.wrap (Q : Int) = (Q : Int) := IntWalk.i64_in _ (by omega)
              have u4 : IntKind.i64.wrap (p : Int) = (p : Int) := IntWalk.i64_in _ (by omega)
              rw [hkk, hii, hQ, hp] at HS
              have HIw := HI3.out.below HF.out.bel
              obtain ⟨bb, bo, rfl, hb, hc⟩ := HIw.2 (by omega)
              have c0 := hc p hpn
              have lb : LtW bb wr := hb
              obtain ⟨X, hX⟩ : ∃ X, cs.getD p 0 = X := ⟨_, rfl⟩
              rw [hX] at c0 HS
              have hlen : (L.take (y * W + x)).length ≤ 4096 := by rw [List.length_take]; omega
              have HSM : Hid ((L.take (y * W + (x + 1))).map i64v = (L.take (y * W + x)).map i64v ++ [.int .i64 X]) := Lib.hid (by rw [← Nat.add_assoc, HS.out, List.map_append]; rfl)
              have hml : ((L.take (y * W + x)).map i64v).length ≤ 4096 := by rw [List.length_map]; exact hlen
              generalize (L.take (y * W + x)).map i64v = M at *
              obtain ⟨Av, cv, rfl⟩ := own_form HF.out.own
              have m3 : wr.cell? ⟨mb, 3, none⟩ = some (.slice Av M.length cv) := HF.out.row.cell (i := 3) (by omega)
              have lmb : LtW mb wr := HF.out.row.lt
              clear hX hb hc HIw hQ hp HS HBDw HBD HLL HTK hlen HLn
              unfold wyN at hkk
              unfold wxN at hii
              have h3 : way = 0 ∨ way = 1 ∨ way = 2 := by omega
              rcases h3 with e | e | e
              · have d0 : ((way : Int) == 0) = true := by simp [e]
                rw [if_neg (by omega)] at hkk
                rw [if_pos e] at hii
                subst hkk
                clear e
                obtain ⟨xa, hxa⟩ : ∃ xa, x + am = xa := ⟨_, rfl⟩
                rw [hxa] at hii
                have s1 : IntKind.i64.wrap ((x : Int) + (am : Int)) = (xa : Int) := by rw [IntWalk.i64_in _ (by omega)]; omega
                have s2 : (xa : Int).tmod (W : Int) = (i : Int) := by rw [← hii]; rfl
                have s3 : IntKind.i64.wrap (i : Int) = (i : Int) := IntWalk.i64_in _ (by omega)
                clear hii hxa
                go_wp2_with fail
                (refine wp_region_ext_build 12 _ mkOne (.cells #[.int .i64 X] 3) (by kernel_rfl) (by kernel_rfl) rfl rfl ?_; simp only [List.take_succ_cons, List.take_zero, List.drop_succ_cons, List.drop_zero]; (repeat (first | ((with_reducible refine wpV_step (fun K hK => ?_)); go_simp; first | (refine hK _ ?_; clear hK K) | (apply Exists.intro; refine ⟨fun _ _ => ?_, hK _ ?_⟩; fail; clear hK K)))); refine wpV_nil ?_; refine ⟨fun W => by go_simp; rfl, fun E d E' d' => ?_⟩)
                have hbE := built_below wr E d (.cells #[.int .i64 X] 3) E' d'
                have HCS := Lib.hid (built_cell wr E d #[.int .i64 X] 3 E' d')
                have HFE := Lib.hid (HF.out.below hbE)
                clear hbE q0 q1 q2 q3 lq m3 lmb c0 lb HF
                generalize extW ((extW wr E d).alloc (.cells #[.int .i64 X] 3)) E' d' = WE at *
                generalize (extW wr E d).heap.size = BB at *
                go_wp2_with (at_builtin; refine wpAppK okI8 rfl (.tmp 90) (.tmp 101) rfl wo.heap.size _ _ _ (.int .i64 X) BB rfl HFE.out.own rfl (HCS.out 0 _ rfl) rfl (by omega) (by omega) HFE.out.bel.size ?_)
                intro v' w2 hown2 hg2 hat2
                obtain ⟨A', cp', rfl⟩ := own_form hown2
                have hr2 := HFE.out.mid hg2
                have cM2 : w2.cell? ⟨mb, 3, none⟩ = some (.slice Av M.length cv) := hr2.cell (i := 3) (by omega)
                have fM2 : w2.frozen? ⟨mb, 3, none⟩ = false := hr2.frozen 3
                have lM2 : LtW mb w2 := hr2.lt
                have HNW := Lib.hid (FM.app (k := 3) HFE.out (Below.refl _ _) hown2 hg2 hat2 chG_set)
                clear hown2 hg2 hat2 hr2 HCS HFE
                go_wp2
                go_roundw
                case rel => exact ⟨x + 1, _, by omega, by go_num, by rw [HSM.out]; exact HNW⟩
                case measure => simp [intOf]; omega
              · have d0 : ((way : Int) == 0) = false := by simp [e]
                have d1 : ((way : Int) == 1) = true := by simp [e]
                rw [if_pos e] at hkk
                rw [if_neg (by omega), if_pos e] at hii
                subst hii
                clear e
                have s2 : IntKind.i64.wrap ((H : Int) - 1) = (H : Int) - 1 := IntWalk.i64_in _ (by omega)
                have s3 : IntKind.i64.wrap ((H : Int) - 1 - (y : Int)) = (k : Int) := by rw [IntWalk.i64_in _ (by omega)]; omega
                clear hkk
                go_wp2_with fail
                (refine wp_region_ext_build 12 _ mkOne (.cells #[.int .i64 X] 3) (by kernel_rfl) (by kernel_rfl) rfl rfl ?_; simp only [List.take_succ_cons, List.take_zero, List.drop_succ_cons, List.drop_zero]; (repeat (first | ((with_reducible refine wpV_step (fun K hK => ?_)); go_simp; first | (refine hK _ ?_; clear hK K) | (apply Exists.intro; refine ⟨fun _ _ => ?_, hK _ ?_⟩; fail; clear hK K)))); refine wpV_nil ?_; refine ⟨fun W => by go_simp; rfl, fun E d E' d' => ?_⟩)
                have hbE := built_below wr E d (.cells #[.int .i64 X] 3) E' d'
                have HCS := Lib.hid (built_cell wr E d #[.int .i64 X] 3 E' d')
                have HFE := Lib.hid (HF.out.below hbE)
                clear hbE q0 q1 q2 q3 lq m3 lmb c0 lb HF
                generalize extW ((extW wr E d).alloc (.cells #[.int .i64 X] 3)) E' d' = WE at *
                generalize (extW wr E d).heap.size = BB at *
                go_wp2_with (at_builtin; refine wpAppK okI8 rfl (.tmp 90) (.tmp 101) rfl wo.heap.size _ _ _ (.int .i64 X) BB rfl HFE.out.own rfl (HCS.out 0 _ rfl) rfl (by omega) (by omega) HFE.out.bel.size ?_)
                intro v' w2 hown2 hg2 hat2
                obtain ⟨A', cp', rfl⟩ := own_form hown2
                have hr2 := HFE.out.mid hg2
                have cM2 : w2.cell? ⟨mb, 3, none⟩ = some (.slice Av M.length cv) := hr2.cell (i := 3) (by omega)
                have fM2 : w2.frozen? ⟨mb, 3, none⟩ = false := hr2.frozen 3
                have lM2 : LtW mb w2 := hr2.lt
                have HNW := Lib.hid (FM.app (k := 3) HFE.out (Below.refl _ _) hown2 hg2 hat2 chG_set)
                clear hown2 hg2 hat2 hr2 HCS HFE
                go_wp2
                go_roundw
                case rel => exact ⟨x + 1, _, by omega, by go_num, by rw [HSM.out]; exact HNW⟩
                case measure => simp [intOf]; omega
              · have d0 : ((way : Int) == 0) = false := by simp [e]
                have d1 : ((way : Int) == 1) = false := by simp [e]
                rw [if_neg (by omega)] at hkk
                rw [if_neg (by omega), if_neg (by omega)] at hii
                subst hkk
                clear e
                have s2 : IntKind.i64.wrap ((W : Int) - 1) = (W : Int) - 1 := IntWalk.i64_in _ (by omega)
                have s3 : IntKind.i64.wrap ((W : Int) - 1 - (x : Int)) = (i : Int) := by rw [IntWalk.i64_in _ (by omega)]; omega
                clear hii
                go_wp2_with fail
                (refine wp_region_ext_build 12 _ mkOne (.cells #[.int .i64 X] 3) (by kernel_rfl) (by kernel_rfl) rfl rfl ?_; simp only [List.take_succ_cons, List.take_zero, List.drop_succ_cons, List.drop_zero]; (repeat (first | ((with_reducible refine wpV_step (fun K hK => ?_)); go_simp; first | (refine hK _ ?_; clear hK K) | (apply Exists.intro; refine ⟨fun _ _ => ?_, hK _ ?_⟩; fail; clear hK K)))); refine wpV_nil ?_; refine ⟨fun W => by go_simp; rfl, fun E d E' d' => ?_⟩)
                have hbE := built_below wr E d (.cells #[.int .i64 X] 3) E' d'
                have HCS := Lib.hid (built_cell wr E d #[.int .i64 X] 3 E' d')
                have HFE := Lib.hid (HF.out.below hbE)
                clear hbE q0 q1 q2 q3 lq m3 lmb c0 lb HF
                generalize extW ((extW wr E d).alloc (.cells #[.int .i64 X] 3)) E' d' = WE at *
                generalize (extW wr E d).heap.size = BB at *
                go_wp2_with (at_builtin; refine wpAppK okI8 rfl (.tmp 90) (.tmp 101) rfl wo.heap.size _ _ _ (.int .i64 X) BB rfl HFE.out.own rfl (HCS.out 0 _ rfl) rfl (by omega) (by omega) HFE.out.bel.size ?_)
                intro v' w2 hown2 hg2 hat2
                obtain ⟨A', cp', rfl⟩ := own_form hown2
                have hr2 := HFE.out.mid hg2
                have cM2 : w2.cell? ⟨mb, 3, none⟩ = some (.slice Av M.length cv) := hr2.cell (i := 3) (by omega)
                have fM2 : w2.frozen? ⟨mb, 3, none⟩ = false := hr2.frozen 3
                have lM2 : LtW mb w2 := hr2.lt
                have HNW := Lib.hid (FM.app (k := 3) HFE.out (Below.refl _ _) hown2 hg2 hat2 chG_set)
                clear hown2 hg2 hat2 hr2 HCS HFE
                go_wp2
                go_roundw
                case rel => exact ⟨x + 1, _, by omega, by go_num, by rw [HSM.out]; exact HNW⟩
                case measure => simp [intOf]; omega
            · obtain rfl : x = W := by omega
              have dx : decide ((x : Int) < (x : Int)) = false := by simp
              rw [← Nat.succ_mul] at HF
              go_wp2
              go_roundw
              case rel => exact ⟨y + 1, v, by omega, by go_num, HF⟩
              case measure => simp [intOf]; omega
        · obtain rfl : y = H := by omega
          have dy : decide ((y : Int) < (y : Int)) = false := by simp
          have hall : L.take (y * W) = L := List.take_of_length_le (by rw [HLn, HN.out, Nat.mul_comm]; exact Nat.le_refl _)
          rw [hall] at HF
          have ho := HF.out.own
          rw [List.length_map, HLn] at ho
          obtain ⟨A, C, rfl⟩ := own_form ho
          have HID : Hid (IsInts wr A n L) := Lib.hid (OwnI.ints (base := wo.heap.size) ⟨HLn, ho⟩)
          have m0 : wr.cell? ⟨mb, 0, none⟩ = some (.int .i64 (4)) := HF.out.row.cell (i := 0) (by omega)
          have m1 : wr.cell? ⟨mb, 1, none⟩ = some (.int .i64 (W)) := HF.out.row.cell (i := 1) (by omega)
          have m2 : wr.cell? ⟨mb, 2, none⟩ = some (.int .i64 (y)) := HF.out.row.cell (i := 2) (by omega)
          have m3 : wr.cell? ⟨mb, 3, none⟩ = some (.slice A n C) := HF.out.row.cell (i := 3) (by omega)
          have lmb : LtW mb wr := HF.out.row.lt
          have HBE : Hid (Below w1.heap.size w1 wr) := Lib.hid (HBW.out.trans (HF.out.bel.mono HBW.out.size))
          clear ho hall HF HTK HBW
          go_wp2_with fail
          refine (HBDw.out A C _ HID.out).mono ?_
          rintro r w8 ⟨rfl, hb8⟩
          have HB8 := Lib.hid (HBE.out.trans (hb8.mono HBE.out.size))
          clear hb8 m0 m1 m2 m3 lmb q0 q1 q2 q3 lq
          go_wp2
          go_roundw
          case rel => exact ⟨way + 1, by omega, by go_num, HB8⟩
          case measure => simp [intOf]; omega
    · have dw : decide ((way : Int) < 3) = false := by simp; omega
      go_wp2
      go_ret
      exact ⟨rfl, by rw [HQ.out]; exact HB2.out.trans (HBW.out.mono (Nat.le_of_lt hq1))⟩
theorem bands_walk (G W H at_ : Int) (a : Option Addr) (n c : Nat) (cs : List Int) (w : World) (hI : IsInts w a n cs) (h0 : (-9223372036854775808 ≤ G ∧ G ≤ 9223372036854775807)) (h1 : (-9223372036854775808 ≤ W ∧ W ≤ 9223372036854775807)) (h2 : (-9223372036854775808 ≤ H ∧ H ≤ 9223372036854775807)) (h3 : n ≤ 9223372036854775807) (h4 : (-9223372036854775808 ≤ at_ ∧ at_ ≤ 9223372036854775807)) :
    Calls Try.prog 4 #[.agg #[.int .i64 (G), .int .i64 (W), .int .i64 (H), .slice a n c], .int .i64 (at_)] w fun r w' => r = .returned (.bool true) ∧ Below w.heap.size w w' := by
  by_cases he : chE G W H n cs = 0
  · obtain ⟨G', W', H', rfl, rfl, rfl, h⟩ := ChOk.of he
    rcases h.g with rfl | rfl
    · by_cases ha : at_ < 0
      · exact bands_neg W' H' n at_ a c cs w hI h ha
      · exact bands_ok W' H' n at_ a c cs w hI h (by omega) h4.2
    · exact bands_bad _ W' H' at_ 8 a n c cs w hI (by omega) (fun w hI => Band_hex W' H' n a c cs w hI h)
  · exact bands_bad G W H at_ _ a n c cs w hI he (fun w hI => Band_wrong G W H a n c cs w hI h0 h1 h2 h3 he)
end Go.Proofs.Ytooilennejakhaa
