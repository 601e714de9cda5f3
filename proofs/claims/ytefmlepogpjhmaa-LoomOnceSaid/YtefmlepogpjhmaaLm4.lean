/- Chapter 10: a loom is told an event: those of which a word is written. -/
import Derived.Test.YtefmlepogpjhmaaLm3
namespace Go.Proofs.Ytefmlepogpjhmaa
open Go.RowKit
set_option linter.unusedVariables false
set_option linter.unusedSimpArgs false
open Lm
set_option maxRecDepth 100000 in
set_option maxHeartbeats 8000000 in
theorem Do_out (a b g cp W H : Nat) (bv : Value) (ev : Int) (l : St) (D : Dk) (w : World) (hm : LMr a b W H bv l w) (h : DK b g cp D w) (hev : ev < 1 ∨ 9 < ev) :
    Calls Try.prog 13 #[.pointer (some ⟨a, 0, none⟩), .int .i64 (ev)] w (DoPost a b g cp W H bv (tell H ev l D) w) := by
  have hv : tell H ev l D = (0, 1, l, D) := by unfold tell; rw [if_pos hev]
  have HM := Lib.hid hm
  have HD := Lib.hid h
  rw [hv]
  clear hm h hv
  by_cases h1 : ev < 1
  · have b1 : decide (ev < 1) = true := by simpa using h1
    clear hev h1
    go_enter Try.func13, Try.ntmps13
    go_wp2
    refine wp_scope_fwd ?_
    go_wp2
    go_ret2
    exact ⟨rfl, LMk HM.out (by repeat (first | exact Below.refl _ _ | refine Below.drew ?_ | refine below_drewN ?_ _ | refine Below.alloc ?_ (by first | exact Nat.le_refl _ | (simp; done) | (simp; omega) | omega) _ | refine Below.setCell ?_ (by first | exact Nat.le_refl _ | (simp; done) | (simp; omega) | omega) _ | refine bExtW ?_ (by first | exact Nat.le_refl _ | (simp; done) | (simp; omega) | omega) | refine Below.trans ?_ (Below.mono (by assumption) (by first | exact Nat.le_refl _ | (simp; done) | (simp; omega) | omega)))), HD.out.keep (a1 := 0) (by repeat (first | exact Below.refl _ _ | refine Below.drew ?_ | refine below_drewN ?_ _ | refine Below.alloc ?_ (by first | exact Nat.le_refl _ | (simp; done) | (simp; omega) | omega) _ | refine Below.setCell ?_ (by first | exact Nat.le_refl _ | (simp; done) | (simp; omega) | omega) _ | refine bExtW ?_ (by first | exact Nat.le_refl _ | (simp; done) | (simp; omega) | omega) | refine Below.trans ?_ (Below.mono (by assumption) (by first | exact Nat.le_refl _ | (simp; done) | (simp; omega) | omega)))), Keep3.below (by repeat (first | exact Below.refl _ _ | refine Below.drew ?_ | refine below_drewN ?_ _ | refine Below.alloc ?_ (by first | exact Nat.le_refl _ | (simp; done) | (simp; omega) | omega) _ | refine Below.setCell ?_ (by first | exact Nat.le_refl _ | (simp; done) | (simp; omega) | omega) _ | refine bExtW ?_ (by first | exact Nat.le_refl _ | (simp; done) | (simp; omega) | omega) | refine Below.trans ?_ (Below.mono (by assumption) (by first | exact Nat.le_refl _ | (simp; done) | (simp; omega) | omega))))⟩
  · have b1 : decide (ev < 1) = false := by simpa using h1
    have b2 : decide (ev > 9) = true := by simp; omega
    have b3 : decide (9 < ev) = true := by simp; omega
    clear hev h1
    go_enter Try.func13, Try.ntmps13
    go_wp2
    refine wp_scope_fwd ?_
    go_wp2
    go_ret2
    exact ⟨rfl, LMk HM.out (by repeat (first | exact Below.refl _ _ | refine Below.drew ?_ | refine below_drewN ?_ _ | refine Below.alloc ?_ (by first | exact Nat.le_refl _ | (simp; done) | (simp; omega) | omega) _ | refine Below.setCell ?_ (by first | exact Nat.le_refl _ | (simp; done) | (simp; omega) | omega) _ | refine bExtW ?_ (by first | exact Nat.le_refl _ | (simp; done) | (simp; omega) | omega) | refine Below.trans ?_ (Below.mono (by assumption) (by first | exact Nat.le_refl _ | (simp; done) | (simp; omega) | omega)))), HD.out.keep (a1 := 0) (by repeat (first | exact Below.refl _ _ | refine Below.drew ?_ | refine below_drewN ?_ _ | refine Below.alloc ?_ (by first | exact Nat.le_refl _ | (simp; done) | (simp; omega) | omega) _ | refine Below.setCell ?_ (by first | exact Nat.le_refl _ | (simp; done) | (simp; omega) | omega) _ | refine bExtW ?_ (by first | exact Nat.le_refl _ | (simp; done) | (simp; omega) | omega) | refine Below.trans ?_ (Below.mono (by assumption) (by first | exact Nat.le_refl _ | (simp; done) | (simp; omega) | omega)))), Keep3.below (by repeat (first | exact Below.refl _ _ | refine Below.drew ?_ | refine below_drewN ?_ _ | refine Below.alloc ?_ (by first | exact Nat.le_refl _ | (simp; done) | (simp; omega) | omega) _ | refine Below.setCell ?_ (by first | exact Nat.le_refl _ | (simp; done) | (simp; omega) | omega) _ | refine bExtW ?_ (by first | exact Nat.le_refl _ | (simp; done) | (simp; omega) | omega) | refine Below.trans ?_ (Below.mono (by assumption) (by first | exact Nat.le_refl _ | (simp; done) | (simp; omega) | omega))))⟩
set_option maxRecDepth 100000 in
set_option maxHeartbeats 8000000 in
theorem Do_dead (a b g cp W H : Nat) (bv : Value) (ev : Int) (l : St) (D : Dk) (w : World) (hm : LMr a b W H bv l w) (h : DK b g cp D w) (hev : 1 ≤ ev ∧ ev ≤ 9) (hd : l.dead = true) :
    Calls Try.prog 13 #[.pointer (some ⟨a, 0, none⟩), .int .i64 (ev)] w (DoPost a b g cp W H bv (tell H ev l D) w) := by
  have hv : tell H ev l D = (0, 9, l, D) := tell_bad hev (.inl hd)
  obtain ⟨m0, m1, m2, m3, m4, m5, m6, m7⟩ := LMr.cells hm
  have lm := (hm).lt
  have fm4 := (hm).frozen 4; have fm5 := (hm).frozen 5; have fm6 := (hm).frozen 6; have fm7 := (hm).frozen 7
  have lm2 : LtW a w := lm
  have HM := Lib.hid hm
  have HD := Lib.hid h
  rw [hv]
  rw [hd] at m7
  have b1 : decide (ev < 1) = false := by simp; omega
  have b2 : decide (ev > 9) = false := by simp; omega
  have b3 : decide (9 < ev) = false := by simp; omega
  clear hm h hv hev hd lm
  go_enter Try.func13, Try.ntmps13
  go_wp2
  refine wp_scope_fwd ?_
  go_wp2
  go_ret2
  exact ⟨rfl, LMk HM.out (by repeat (first | exact Below.refl _ _ | refine Below.drew ?_ | refine below_drewN ?_ _ | refine Below.alloc ?_ (by first | exact Nat.le_refl _ | (simp; done) | (simp; omega) | omega) _ | refine Below.setCell ?_ (by first | exact Nat.le_refl _ | (simp; done) | (simp; omega) | omega) _ | refine bExtW ?_ (by first | exact Nat.le_refl _ | (simp; done) | (simp; omega) | omega) | refine Below.trans ?_ (Below.mono (by assumption) (by first | exact Nat.le_refl _ | (simp; done) | (simp; omega) | omega)))), HD.out.keep (a1 := 0) (by repeat (first | exact Below.refl _ _ | refine Below.drew ?_ | refine below_drewN ?_ _ | refine Below.alloc ?_ (by first | exact Nat.le_refl _ | (simp; done) | (simp; omega) | omega) _ | refine Below.setCell ?_ (by first | exact Nat.le_refl _ | (simp; done) | (simp; omega) | omega) _ | refine bExtW ?_ (by first | exact Nat.le_refl _ | (simp; done) | (simp; omega) | omega) | refine Below.trans ?_ (Below.mono (by assumption) (by first | exact Nat.le_refl _ | (simp; done) | (simp; omega) | omega)))), Keep3.below (by repeat (first | exact Below.refl _ _ | refine Below.drew ?_ | refine below_drewN ?_ _ | refine Below.alloc ?_ (by first | exact Nat.le_refl _ | (simp; done) | (simp; omega) | omega) _ | refine Below.setCell ?_ (by first | exact Nat.le_refl _ | (simp; done) | (simp; omega) | omega) _ | refine bExtW ?_ (by first | exact Nat.le_refl _ | (simp; done) | (simp; omega) | omega) | refine Below.trans ?_ (Below.mono (by assumption) (by first | exact Nat.le_refl _ | (simp; done) | (simp; omega) | omega))))⟩
set_option maxRecDepth 100000 in
set_option maxHeartbeats 8000000 in
theorem Do_7 (a b g cp W H : Nat) (bv : Value) (wv at_ : Nat) (stop : Bool) (D : Dk) (w : World) (hm : LMr a b W H bv ⟨wv, at_, stop, false⟩ w) (h : DK b g cp D w) :
    Calls Try.prog 13 #[.pointer (some ⟨a, 0, none⟩), .int .i64 (7)] w (DoPost a b g cp W H bv (tell H 7 ⟨wv, at_, stop, false⟩ D) w) := by
  obtain ⟨hab, hag⟩ := do_ne hm h
  obtain ⟨m0, m1, m2, m3, m4, m5, m6, m7⟩ := LMr.cells hm
  have lm := (hm).lt
  have fm4 := (hm).frozen 4; have fm5 := (hm).frozen 5; have fm6 := (hm).frozen 6; have fm7 := (hm).frozen 7
  have lm2 : LtW a w := lm
  have HM := Lib.hid hm
  have HD := Lib.hid h
  clear hm h lm
  simp only at m4 m5 m6 m7
  by_cases h0 : at_ = 0
  · subst h0
    have hv : tell H 7 ⟨wv, 0, stop, false⟩ D = (0, 9, ⟨wv, 0, stop, false⟩, D) := tell_bad (by omega) (.inr (by unfold may; first | (simp; done) | (simp; omega)))
    rw [hv]
    clear hv
    have HP := Lib.hid (fun w => plain_ok 7 w)
    go_enter Try.func13, Try.ntmps13
    go_wp2
    refine wp_scope_fwd ?_
    go_wp2_with fail
    refine (HP.out _).mono ?_
    rintro r w1 ⟨rfl, hb⟩
    obtain ⟨E, dd, rfl⟩ := bExt hb
    clear hb HP
    simp only [plainV]
    go_wp2
    go_step3
    go_wp2
    go_ret2
    exact ⟨rfl, LMk HM.out (by repeat (first | exact Below.refl _ _ | refine Below.drew ?_ | refine below_drewN ?_ _ | refine Below.alloc ?_ (by first | exact Nat.le_refl _ | (simp; done) | (simp; omega) | omega) _ | refine Below.setCell ?_ (by first | exact Nat.le_refl _ | (simp; done) | (simp; omega) | omega) _ | refine bExtW ?_ (by first | exact Nat.le_refl _ | (simp; done) | (simp; omega) | omega) | refine Below.trans ?_ (Below.mono (by assumption) (by first | exact Nat.le_refl _ | (simp; done) | (simp; omega) | omega)))), HD.out.keep (a1 := 0) (by repeat (first | exact Below.refl _ _ | refine Below.drew ?_ | refine below_drewN ?_ _ | refine Below.alloc ?_ (by first | exact Nat.le_refl _ | (simp; done) | (simp; omega) | omega) _ | refine Below.setCell ?_ (by first | exact Nat.le_refl _ | (simp; done) | (simp; omega) | omega) _ | refine bExtW ?_ (by first | exact Nat.le_refl _ | (simp; done) | (simp; omega) | omega) | refine Below.trans ?_ (Below.mono (by assumption) (by first | exact Nat.le_refl _ | (simp; done) | (simp; omega) | omega)))), Keep3.below (by repeat (first | exact Below.refl _ _ | refine Below.drew ?_ | refine below_drewN ?_ _ | refine Below.alloc ?_ (by first | exact Nat.le_refl _ | (simp; done) | (simp; omega) | omega) _ | refine Below.setCell ?_ (by first | exact Nat.le_refl _ | (simp; done) | (simp; omega) | omega) _ | refine bExtW ?_ (by first | exact Nat.le_refl _ | (simp; done) | (simp; omega) | omega) | refine Below.trans ?_ (Below.mono (by assumption) (by first | exact Nat.le_refl _ | (simp; done) | (simp; omega) | omega))))⟩
  · have b1 : decide ((at_ : Int) > 0) = true := by simp; omega
    have b2 : decide ((0 : Int) < (at_ : Int)) = true := by simp; omega
    have b2' : decide (0 < at_) = true := by simp; omega
    by_cases h5 : at_ < 5
    · have b3 : decide ((at_ : Int) < 5) = true := by simp; omega
      have b4 : decide (at_ < 5) = true := by simp; omega
      have hv : tell H 7 ⟨wv, at_, stop, false⟩ D = (0, 0, ⟨wv, at_, true, false⟩, D) := by rw [tell_in (by omega) rfl (by unfold may; simp; omega)]; simp
      rw [hv]
      clear hv h0 h5
      have HP := Lib.hid (fun w => plain_ok 7 w)
      go_enter Try.func13, Try.ntmps13
      go_wp2
      refine wp_scope_fwd ?_
      go_wp2_with fail
      refine (HP.out _).mono ?_
      rintro r w1 ⟨rfl, hb⟩
      obtain ⟨E, dd, rfl⟩ := bExt hb
      clear hb HP
      simp only [plainV]
      go_wp2
      go_ret2
      have hA : LMr a b W H bv ⟨wv, at_, true, false⟩ (w.setCell ⟨a, 6, none⟩ (.bool true)) := LMr.setS HM.out true
      have hB : DK b g cp D (w.setCell ⟨a, 6, none⟩ (.bool true)) := DK.ofSet HD.out hab hag
      have hC : Keep3 a b g w (w.setCell ⟨a, 6, none⟩ (.bool true)) := (Keep3.refl a b g w).set _ _ _ (.inl rfl)
      exact ⟨rfl, LMk hA (by repeat (first | exact Below.refl _ _ | refine Below.drew ?_ | refine below_drewN ?_ _ | refine Below.alloc ?_ (by first | exact Nat.le_refl _ | (simp; done) | (simp; omega) | omega) _ | refine Below.setCell ?_ (by first | exact Nat.le_refl _ | (simp; done) | (simp; omega) | omega) _ | refine bExtW ?_ (by first | exact Nat.le_refl _ | (simp; done) | (simp; omega) | omega) | refine Below.trans ?_ (Below.mono (by assumption) (by first | exact Nat.le_refl _ | (simp; done) | (simp; omega) | omega)))), hB.keep (a1 := 0) (by repeat (first | exact Below.refl _ _ | refine Below.drew ?_ | refine below_drewN ?_ _ | refine Below.alloc ?_ (by first | exact Nat.le_refl _ | (simp; done) | (simp; omega) | omega) _ | refine Below.setCell ?_ (by first | exact Nat.le_refl _ | (simp; done) | (simp; omega) | omega) _ | refine bExtW ?_ (by first | exact Nat.le_refl _ | (simp; done) | (simp; omega) | omega) | refine Below.trans ?_ (Below.mono (by assumption) (by first | exact Nat.le_refl _ | (simp; done) | (simp; omega) | omega)))), hC.trans (Keep3.below (by repeat (first | exact Below.refl _ _ | refine Below.drew ?_ | refine below_drewN ?_ _ | refine Below.alloc ?_ (by first | exact Nat.le_refl _ | (simp; done) | (simp; omega) | omega) _ | refine Below.setCell ?_ (by first | exact Nat.le_refl _ | (simp; done) | (simp; omega) | omega) _ | refine bExtW ?_ (by first | exact Nat.le_refl _ | (simp; done) | (simp; omega) | omega) | refine Below.trans ?_ (Below.mono (by assumption) (by first | exact Nat.le_refl _ | (simp; done) | (simp; omega) | omega)))))⟩
    · have b3 : decide ((at_ : Int) < 5) = false := by simp; omega
      have b4 : decide (at_ < 5) = false := by simp; omega
      have hv : tell H 7 ⟨wv, at_, stop, false⟩ D = (0, 9, ⟨wv, at_, stop, false⟩, D) := tell_bad (by omega) (.inr (by unfold may; first | (simp; done) | (simp; omega)))
      rw [hv]
      clear hv
      have HP := Lib.hid (fun w => plain_ok 7 w)
      go_enter Try.func13, Try.ntmps13
      go_wp2
      refine wp_scope_fwd ?_
      go_wp2_with fail
      refine (HP.out _).mono ?_
      rintro r w1 ⟨rfl, hb⟩
      obtain ⟨E, dd, rfl⟩ := bExt hb
      clear hb HP
      simp only [plainV]
      go_wp2
      go_step3
      go_wp2
      go_ret2
      exact ⟨rfl, LMk HM.out (by repeat (first | exact Below.refl _ _ | refine Below.drew ?_ | refine below_drewN ?_ _ | refine Below.alloc ?_ (by first | exact Nat.le_refl _ | (simp; done) | (simp; omega) | omega) _ | refine Below.setCell ?_ (by first | exact Nat.le_refl _ | (simp; done) | (simp; omega) | omega) _ | refine bExtW ?_ (by first | exact Nat.le_refl _ | (simp; done) | (simp; omega) | omega) | refine Below.trans ?_ (Below.mono (by assumption) (by first | exact Nat.le_refl _ | (simp; done) | (simp; omega) | omega)))), HD.out.keep (a1 := 0) (by repeat (first | exact Below.refl _ _ | refine Below.drew ?_ | refine below_drewN ?_ _ | refine Below.alloc ?_ (by first | exact Nat.le_refl _ | (simp; done) | (simp; omega) | omega) _ | refine Below.setCell ?_ (by first | exact Nat.le_refl _ | (simp; done) | (simp; omega) | omega) _ | refine bExtW ?_ (by first | exact Nat.le_refl _ | (simp; done) | (simp; omega) | omega) | refine Below.trans ?_ (Below.mono (by assumption) (by first | exact Nat.le_refl _ | (simp; done) | (simp; omega) | omega)))), Keep3.below (by repeat (first | exact Below.refl _ _ | refine Below.drew ?_ | refine below_drewN ?_ _ | refine Below.alloc ?_ (by first | exact Nat.le_refl _ | (simp; done) | (simp; omega) | omega) _ | refine Below.setCell ?_ (by first | exact Nat.le_refl _ | (simp; done) | (simp; omega) | omega) _ | refine bExtW ?_ (by first | exact Nat.le_refl _ | (simp; done) | (simp; omega) | omega) | refine Below.trans ?_ (Below.mono (by assumption) (by first | exact Nat.le_refl _ | (simp; done) | (simp; omega) | omega))))⟩
set_option maxRecDepth 100000 in
set_option maxHeartbeats 8000000 in
theorem Do_3 (a b g cp W H : Nat) (bv : Value) (wv at_ : Nat) (stop : Bool) (D : Dk) (w : World) (hm : LMr a b W H bv ⟨wv, at_, stop, false⟩ w) (h : DK b g cp D w) (h2 : 2 ≤ D.ws.length) (hl : D.ws.length ≤ 9223372036854775807) (hw : wv ≤ 64) :
    Calls Try.prog 13 #[.pointer (some ⟨a, 0, none⟩), .int .i64 (3)] w (DoPost a b g cp W H bv (tell H 3 ⟨wv, at_, stop, false⟩ D) w) := by
  obtain ⟨hab, hag⟩ := do_ne hm h
  obtain ⟨m0, m1, m2, m3, m4, m5, m6, m7⟩ := LMr.cells hm
  have lm := (hm).lt
  have fm4 := (hm).frozen 4; have fm5 := (hm).frozen 5; have fm6 := (hm).frozen 6; have fm7 := (hm).frozen 7
  have lm2 : LtW a w := lm
  have HM := Lib.hid hm
  have HD := Lib.hid h
  clear hm h lm
  simp only at m4 m5 m6 m7
  by_cases h0 : at_ = 2
  · subst h0
    have v1 : IntKind.i64.wrap ((wv : Int) + 1) = (wv : Int) + 1 := IntWalk.i64_in _ (by omega)
    have HPUT := Lib.hid (fun w' (hm : LMr a b W H bv ⟨wv, 2, stop, false⟩ w') (hd : DK b g cp D w') => lput_ok a b g cp W H 1 bv ((wv : Int) + 1) ⟨wv, 2, stop, false⟩ D w' hm hd (by omega) hl (by omega))
    have htl := tell_in (H := H) (ev := 3) (l := ⟨wv, 2, stop, false⟩) (d := D) (by omega) rfl (by unfold may; simp)
    simp only [show (3 : Int) ≠ 1 by omega, show (3 : Int) ≠ 2 by omega, show (3 : Int) ≠ 4 by omega, show (3 : Int) ≠ 5 by omega, show (3 : Int) ≠ 7 by omega, if_false, if_true] at htl
    rw [htl]
    clear htl
    cases hp : put D 1 ((wv : Int) + 1) with
    | none =>
      simp only [hp] at HPUT ⊢
      clear hp
      have HP := Lib.hid (fun w => plain_ok 3 w)
      go_enter Try.func13, Try.ntmps13
      go_wp2
      refine wp_scope_fwd ?_
      go_wp2_with fail
      refine (HP.out _).mono ?_
      rintro r w1 ⟨rfl, hb⟩
      obtain ⟨E, dd, rfl⟩ := bExt hb
      clear hb HP
      simp only [plainV]
      go_wp2_with fail
      refine (HPUT.out _ (LMk HM.out (by repeat (first | exact Below.refl _ _ | refine Below.drew ?_ | refine below_drewN ?_ _ | refine Below.alloc ?_ (by first | exact Nat.le_refl _ | (simp; done) | (simp; omega) | omega) _ | refine Below.setCell ?_ (by first | exact Nat.le_refl _ | (simp; done) | (simp; omega) | omega) _ | refine bExtW ?_ (by first | exact Nat.le_refl _ | (simp; done) | (simp; omega) | omega) | refine Below.trans ?_ (Below.mono (by assumption) (by first | exact Nat.le_refl _ | (simp; done) | (simp; omega) | omega))))) (HD.out.keep (a1 := 0) (by repeat (first | exact Below.refl _ _ | refine Below.drew ?_ | refine below_drewN ?_ _ | refine Below.alloc ?_ (by first | exact Nat.le_refl _ | (simp; done) | (simp; omega) | omega) _ | refine Below.setCell ?_ (by first | exact Nat.le_refl _ | (simp; done) | (simp; omega) | omega) _ | refine bExtW ?_ (by first | exact Nat.le_refl _ | (simp; done) | (simp; omega) | omega) | refine Below.trans ?_ (Below.mono (by assumption) (by first | exact Nat.le_refl _ | (simp; done) | (simp; omega) | omega)))))).mono ?_
      rintro r w2 ⟨rfl, hm2, hd2, hk2⟩
      have HM2 := Lib.hid hm2; have HD2 := Lib.hid hd2
      have hk3 : Keep3 a b g w w2 := (Keep3.below (by repeat (first | exact Below.refl _ _ | refine Below.drew ?_ | refine below_drewN ?_ _ | refine Below.alloc ?_ (by first | exact Nat.le_refl _ | (simp; done) | (simp; omega) | omega) _ | refine Below.setCell ?_ (by first | exact Nat.le_refl _ | (simp; done) | (simp; omega) | omega) _ | refine bExtW ?_ (by first | exact Nat.le_refl _ | (simp; done) | (simp; omega) | omega) | refine Below.trans ?_ (Below.mono (by assumption) (by first | exact Nat.le_refl _ | (simp; done) | (simp; omega) | omega))))).trans hk2
      have HK3 := Lib.hid hk3
      clear hm2 hd2 hk2 hk3
      go_wp2
      apply wp_goto
      refine ⟨_, rfl, ?_⟩
      go_wp2
      rw [Exit.noGoto_ret]
      go_ret2
      exact ⟨rfl, HM2.out, HD2.out, HK3.out⟩
    | some d' =>
      simp only [hp] at HPUT ⊢
      clear hp
      have HP := Lib.hid (fun w => plain_ok 3 w)
      go_enter Try.func13, Try.ntmps13
      go_wp2
      refine wp_scope_fwd ?_
      go_wp2_with fail
      refine (HP.out _).mono ?_
      rintro r w1 ⟨rfl, hb⟩
      obtain ⟨E, dd, rfl⟩ := bExt hb
      clear hb HP
      simp only [plainV]
      go_wp2_with fail
      refine (HPUT.out _ (LMk HM.out (by repeat (first | exact Below.refl _ _ | refine Below.drew ?_ | refine below_drewN ?_ _ | refine Below.alloc ?_ (by first | exact Nat.le_refl _ | (simp; done) | (simp; omega) | omega) _ | refine Below.setCell ?_ (by first | exact Nat.le_refl _ | (simp; done) | (simp; omega) | omega) _ | refine bExtW ?_ (by first | exact Nat.le_refl _ | (simp; done) | (simp; omega) | omega) | refine Below.trans ?_ (Below.mono (by assumption) (by first | exact Nat.le_refl _ | (simp; done) | (simp; omega) | omega))))) (HD.out.keep (a1 := 0) (by repeat (first | exact Below.refl _ _ | refine Below.drew ?_ | refine below_drewN ?_ _ | refine Below.alloc ?_ (by first | exact Nat.le_refl _ | (simp; done) | (simp; omega) | omega) _ | refine Below.setCell ?_ (by first | exact Nat.le_refl _ | (simp; done) | (simp; omega) | omega) _ | refine bExtW ?_ (by first | exact Nat.le_refl _ | (simp; done) | (simp; omega) | omega) | refine Below.trans ?_ (Below.mono (by assumption) (by first | exact Nat.le_refl _ | (simp; done) | (simp; omega) | omega)))))).mono ?_
      rintro r w2 ⟨rfl, hm2, hd2, hk2⟩
      have hk3 : Keep3 a b g w w2 := (Keep3.below (by repeat (first | exact Below.refl _ _ | refine Below.drew ?_ | refine below_drewN ?_ _ | refine Below.alloc ?_ (by first | exact Nat.le_refl _ | (simp; done) | (simp; omega) | omega) _ | refine Below.setCell ?_ (by first | exact Nat.le_refl _ | (simp; done) | (simp; omega) | omega) _ | refine bExtW ?_ (by first | exact Nat.le_refl _ | (simp; done) | (simp; omega) | omega) | refine Below.trans ?_ (Below.mono (by assumption) (by first | exact Nat.le_refl _ | (simp; done) | (simp; omega) | omega))))).trans hk2
      have HM2 := Lib.hid hm2; have HD2 := Lib.hid hd2
      have HK3 := Lib.hid hk3
      have l2 : LtW a w2 := hm2.lt
      have q5 := hm2.cell (i := 5) (by omega)
      have q5' : w2.cell? ⟨a, 5, none⟩ = some (.int .i64 (2)) := q5
      have g5 := hm2.frozen 5
      clear hm2 hd2 hk2 hk3 q5
      go_wp2
      go_ret2
      exact ⟨rfl, LMr.setA HM2.out 4, HD2.out.ofSet hab hag, HK3.out.set _ _ _ (.inl rfl)⟩
  · skip
    have b1 : ((at_ : Int) == 2) = false := by simp; omega
    have b2 : (at_ == 2) = false := by simp; omega
    have hv : tell H 3 ⟨wv, at_, stop, false⟩ D = (0, 9, ⟨wv, at_, stop, false⟩, D) := tell_bad (by omega) (.inr (by unfold may; first | (simp; done) | (simp; omega)))
    rw [hv]
    clear hv
    have HP := Lib.hid (fun w => plain_ok 3 w)
    go_enter Try.func13, Try.ntmps13
    go_wp2
    refine wp_scope_fwd ?_
    go_wp2_with fail
    refine (HP.out _).mono ?_
    rintro r w1 ⟨rfl, hb⟩
    obtain ⟨E, dd, rfl⟩ := bExt hb
    clear hb HP
    simp only [plainV]
    go_wp2
    go_step3
    go_wp2
    go_ret2
    exact ⟨rfl, LMk HM.out (by repeat (first | exact Below.refl _ _ | refine Below.drew ?_ | refine below_drewN ?_ _ | refine Below.alloc ?_ (by first | exact Nat.le_refl _ | (simp; done) | (simp; omega) | omega) _ | refine Below.setCell ?_ (by first | exact Nat.le_refl _ | (simp; done) | (simp; omega) | omega) _ | refine bExtW ?_ (by first | exact Nat.le_refl _ | (simp; done) | (simp; omega) | omega) | refine Below.trans ?_ (Below.mono (by assumption) (by first | exact Nat.le_refl _ | (simp; done) | (simp; omega) | omega)))), HD.out.keep (a1 := 0) (by repeat (first | exact Below.refl _ _ | refine Below.drew ?_ | refine below_drewN ?_ _ | refine Below.alloc ?_ (by first | exact Nat.le_refl _ | (simp; done) | (simp; omega) | omega) _ | refine Below.setCell ?_ (by first | exact Nat.le_refl _ | (simp; done) | (simp; omega) | omega) _ | refine bExtW ?_ (by first | exact Nat.le_refl _ | (simp; done) | (simp; omega) | omega) | refine Below.trans ?_ (Below.mono (by assumption) (by first | exact Nat.le_refl _ | (simp; done) | (simp; omega) | omega)))), Keep3.below (by repeat (first | exact Below.refl _ _ | refine Below.drew ?_ | refine below_drewN ?_ _ | refine Below.alloc ?_ (by first | exact Nat.le_refl _ | (simp; done) | (simp; omega) | omega) _ | refine Below.setCell ?_ (by first | exact Nat.le_refl _ | (simp; done) | (simp; omega) | omega) _ | refine bExtW ?_ (by first | exact Nat.le_refl _ | (simp; done) | (simp; omega) | omega) | refine Below.trans ?_ (Below.mono (by assumption) (by first | exact Nat.le_refl _ | (simp; done) | (simp; omega) | omega))))⟩
set_option maxRecDepth 100000 in
set_option maxHeartbeats 8000000 in
theorem Do_9 (a b g cp W H : Nat) (bv : Value) (wv at_ : Nat) (stop : Bool) (D : Dk) (w : World) (hm : LMr a b W H bv ⟨wv, at_, stop, false⟩ w) (h : DK b g cp D w) (h2 : 2 ≤ D.ws.length) (hl : D.ws.length ≤ 9223372036854775807) (hw : wv ≤ 64) :
    Calls Try.prog 13 #[.pointer (some ⟨a, 0, none⟩), .int .i64 (9)] w (DoPost a b g cp W H bv (tell H 9 ⟨wv, at_, stop, false⟩ D) w) := by
  obtain ⟨hab, hag⟩ := do_ne hm h
  obtain ⟨m0, m1, m2, m3, m4, m5, m6, m7⟩ := LMr.cells hm
  have lm := (hm).lt
  have fm4 := (hm).frozen 4; have fm5 := (hm).frozen 5; have fm6 := (hm).frozen 6; have fm7 := (hm).frozen 7
  have lm2 : LtW a w := lm
  have HM := Lib.hid hm
  have HD := Lib.hid h
  clear hm h lm
  simp only at m4 m5 m6 m7
  by_cases h0 : at_ = 5
  · subst h0
    have v1 : IntKind.i64.wrap ((wv : Int) + 1) = (wv : Int) + 1 := IntWalk.i64_in _ (by omega)
    have HPUT := Lib.hid (fun w' (hm : LMr a b W H bv ⟨wv, 5, stop, false⟩ w') (hd : DK b g cp D w') => lput_ok a b g cp W H 1 bv 0 ⟨wv, 5, stop, false⟩ D w' hm hd (by omega) hl (by omega))
    have htl := tell_in (H := H) (ev := 9) (l := ⟨wv, 5, stop, false⟩) (d := D) (by omega) rfl (by unfold may; simp)
    simp only [show (9 : Int) ≠ 1 by omega, show (9 : Int) ≠ 2 by omega, show (9 : Int) ≠ 3 by omega, show (9 : Int) ≠ 4 by omega, show (9 : Int) ≠ 5 by omega, show (9 : Int) ≠ 7 by omega, if_false, if_true] at htl
    rw [htl]
    clear htl
    cases hp : put D 1 0 with
    | none =>
      simp only [hp] at HPUT ⊢
      clear hp
      have HP := Lib.hid (fun w => plain_ok 9 w)
      go_enter Try.func13, Try.ntmps13
      go_wp2
      refine wp_scope_fwd ?_
      go_wp2_with fail
      refine (HP.out _).mono ?_
      rintro r w1 ⟨rfl, hb⟩
      obtain ⟨E, dd, rfl⟩ := bExt hb
      clear hb HP
      simp only [plainV]
      go_wp2_with fail
      refine (HPUT.out _ (LMk HM.out (by repeat (first | exact Below.refl _ _ | refine Below.drew ?_ | refine below_drewN ?_ _ | refine Below.alloc ?_ (by first | exact Nat.le_refl _ | (simp; done) | (simp; omega) | omega) _ | refine Below.setCell ?_ (by first | exact Nat.le_refl _ | (simp; done) | (simp; omega) | omega) _ | refine bExtW ?_ (by first | exact Nat.le_refl _ | (simp; done) | (simp; omega) | omega) | refine Below.trans ?_ (Below.mono (by assumption) (by first | exact Nat.le_refl _ | (simp; done) | (simp; omega) | omega))))) (HD.out.keep (a1 := 0) (by repeat (first | exact Below.refl _ _ | refine Below.drew ?_ | refine below_drewN ?_ _ | refine Below.alloc ?_ (by first | exact Nat.le_refl _ | (simp; done) | (simp; omega) | omega) _ | refine Below.setCell ?_ (by first | exact Nat.le_refl _ | (simp; done) | (simp; omega) | omega) _ | refine bExtW ?_ (by first | exact Nat.le_refl _ | (simp; done) | (simp; omega) | omega) | refine Below.trans ?_ (Below.mono (by assumption) (by first | exact Nat.le_refl _ | (simp; done) | (simp; omega) | omega)))))).mono ?_
      rintro r w2 ⟨rfl, hm2, hd2, hk2⟩
      have HM2 := Lib.hid hm2; have HD2 := Lib.hid hd2
      have hk3 : Keep3 a b g w w2 := (Keep3.below (by repeat (first | exact Below.refl _ _ | refine Below.drew ?_ | refine below_drewN ?_ _ | refine Below.alloc ?_ (by first | exact Nat.le_refl _ | (simp; done) | (simp; omega) | omega) _ | refine Below.setCell ?_ (by first | exact Nat.le_refl _ | (simp; done) | (simp; omega) | omega) _ | refine bExtW ?_ (by first | exact Nat.le_refl _ | (simp; done) | (simp; omega) | omega) | refine Below.trans ?_ (Below.mono (by assumption) (by first | exact Nat.le_refl _ | (simp; done) | (simp; omega) | omega))))).trans hk2
      have HK3 := Lib.hid hk3
      clear hm2 hd2 hk2 hk3
      go_wp2
      apply wp_goto
      refine ⟨_, rfl, ?_⟩
      go_wp2
      rw [Exit.noGoto_ret]
      go_ret2
      exact ⟨rfl, HM2.out, HD2.out, HK3.out⟩
    | some d' =>
      simp only [hp] at HPUT ⊢
      clear hp
      have HP := Lib.hid (fun w => plain_ok 9 w)
      go_enter Try.func13, Try.ntmps13
      go_wp2
      refine wp_scope_fwd ?_
      go_wp2_with fail
      refine (HP.out _).mono ?_
      rintro r w1 ⟨rfl, hb⟩
      obtain ⟨E, dd, rfl⟩ := bExt hb
      clear hb HP
      simp only [plainV]
      go_wp2_with fail
      refine (HPUT.out _ (LMk HM.out (by repeat (first | exact Below.refl _ _ | refine Below.drew ?_ | refine below_drewN ?_ _ | refine Below.alloc ?_ (by first | exact Nat.le_refl _ | (simp; done) | (simp; omega) | omega) _ | refine Below.setCell ?_ (by first | exact Nat.le_refl _ | (simp; done) | (simp; omega) | omega) _ | refine bExtW ?_ (by first | exact Nat.le_refl _ | (simp; done) | (simp; omega) | omega) | refine Below.trans ?_ (Below.mono (by assumption) (by first | exact Nat.le_refl _ | (simp; done) | (simp; omega) | omega))))) (HD.out.keep (a1 := 0) (by repeat (first | exact Below.refl _ _ | refine Below.drew ?_ | refine below_drewN ?_ _ | refine Below.alloc ?_ (by first | exact Nat.le_refl _ | (simp; done) | (simp; omega) | omega) _ | refine Below.setCell ?_ (by first | exact Nat.le_refl _ | (simp; done) | (simp; omega) | omega) _ | refine bExtW ?_ (by first | exact Nat.le_refl _ | (simp; done) | (simp; omega) | omega) | refine Below.trans ?_ (Below.mono (by assumption) (by first | exact Nat.le_refl _ | (simp; done) | (simp; omega) | omega)))))).mono ?_
      rintro r w2 ⟨rfl, hm2, hd2, hk2⟩
      have hk3 : Keep3 a b g w w2 := (Keep3.below (by repeat (first | exact Below.refl _ _ | refine Below.drew ?_ | refine below_drewN ?_ _ | refine Below.alloc ?_ (by first | exact Nat.le_refl _ | (simp; done) | (simp; omega) | omega) _ | refine Below.setCell ?_ (by first | exact Nat.le_refl _ | (simp; done) | (simp; omega) | omega) _ | refine bExtW ?_ (by first | exact Nat.le_refl _ | (simp; done) | (simp; omega) | omega) | refine Below.trans ?_ (Below.mono (by assumption) (by first | exact Nat.le_refl _ | (simp; done) | (simp; omega) | omega))))).trans hk2
      have HM2 := Lib.hid hm2; have HD2 := Lib.hid hd2
      have HK3 := Lib.hid hk3
      have l2 : LtW a w2 := hm2.lt
      have q5 := hm2.cell (i := 5) (by omega)
      have q5' : w2.cell? ⟨a, 5, none⟩ = some (.int .i64 (5)) := q5
      have g5 := hm2.frozen 5
      clear hm2 hd2 hk2 hk3 q5
      go_wp2
      go_ret2
      exact ⟨rfl, LMr.setA HM2.out 0, HD2.out.ofSet hab hag, HK3.out.set _ _ _ (.inl rfl)⟩
  · skip
    have b1 : ((at_ : Int) == 5) = false := by simp; omega
    have b2 : (at_ == 5) = false := by simp; omega
    have hv : tell H 9 ⟨wv, at_, stop, false⟩ D = (0, 9, ⟨wv, at_, stop, false⟩, D) := tell_bad (by omega) (.inr (by unfold may; first | (simp; done) | (simp; omega)))
    rw [hv]
    clear hv
    have HP := Lib.hid (fun w => plain_ok 9 w)
    go_enter Try.func13, Try.ntmps13
    go_wp2
    refine wp_scope_fwd ?_
    go_wp2_with fail
    refine (HP.out _).mono ?_
    rintro r w1 ⟨rfl, hb⟩
    obtain ⟨E, dd, rfl⟩ := bExt hb
    clear hb HP
    simp only [plainV]
    go_wp2
    go_step3
    go_wp2
    go_ret2
    exact ⟨rfl, LMk HM.out (by repeat (first | exact Below.refl _ _ | refine Below.drew ?_ | refine below_drewN ?_ _ | refine Below.alloc ?_ (by first | exact Nat.le_refl _ | (simp; done) | (simp; omega) | omega) _ | refine Below.setCell ?_ (by first | exact Nat.le_refl _ | (simp; done) | (simp; omega) | omega) _ | refine bExtW ?_ (by first | exact Nat.le_refl _ | (simp; done) | (simp; omega) | omega) | refine Below.trans ?_ (Below.mono (by assumption) (by first | exact Nat.le_refl _ | (simp; done) | (simp; omega) | omega)))), HD.out.keep (a1 := 0) (by repeat (first | exact Below.refl _ _ | refine Below.drew ?_ | refine below_drewN ?_ _ | refine Below.alloc ?_ (by first | exact Nat.le_refl _ | (simp; done) | (simp; omega) | omega) _ | refine Below.setCell ?_ (by first | exact Nat.le_refl _ | (simp; done) | (simp; omega) | omega) _ | refine bExtW ?_ (by first | exact Nat.le_refl _ | (simp; done) | (simp; omega) | omega) | refine Below.trans ?_ (Below.mono (by assumption) (by first | exact Nat.le_refl _ | (simp; done) | (simp; omega) | omega)))), Keep3.below (by repeat (first | exact Below.refl _ _ | refine Below.drew ?_ | refine below_drewN ?_ _ | refine Below.alloc ?_ (by first | exact Nat.le_refl _ | (simp; done) | (simp; omega) | omega) _ | refine Below.setCell ?_ (by first | exact Nat.le_refl _ | (simp; done) | (simp; omega) | omega) _ | refine bExtW ?_ (by first | exact Nat.le_refl _ | (simp; done) | (simp; omega) | omega) | refine Below.trans ?_ (Below.mono (by assumption) (by first | exact Nat.le_refl _ | (simp; done) | (simp; omega) | omega))))⟩
set_option maxRecDepth 100000 in
set_option maxHeartbeats 8000000 in
theorem Do_6 (a b g cp W H : Nat) (bv : Value) (wv at_ : Nat) (stop : Bool) (D : Dk) (w : World) (hm : LMr a b W H bv ⟨wv, at_, stop, false⟩ w) (h : DK b g cp D w) (h2 : 2 ≤ D.ws.length) (hl : D.ws.length ≤ 9223372036854775807) (hw : wv ≤ 64) :
    Calls Try.prog 13 #[.pointer (some ⟨a, 0, none⟩), .int .i64 (6)] w (DoPost a b g cp W H bv (tell H 6 ⟨wv, at_, stop, false⟩ D) w) := by
  obtain ⟨hab, hag⟩ := do_ne hm h
  obtain ⟨m0, m1, m2, m3, m4, m5, m6, m7⟩ := LMr.cells hm
  have lm := (hm).lt
  have fm4 := (hm).frozen 4; have fm5 := (hm).frozen 5; have fm6 := (hm).frozen 6; have fm7 := (hm).frozen 7
  have lm2 : LtW a w := lm
  have HM := Lib.hid hm
  have HD := Lib.hid h
  clear hm h lm
  simp only at m4 m5 m6 m7
  by_cases h0 : at_ = 4
  · subst h0
    have v1 : IntKind.i64.wrap ((wv : Int) + 1) = (wv : Int) + 1 := IntWalk.i64_in _ (by omega)
    have HPUT := Lib.hid (fun w' (hm : LMr a b W H bv ⟨wv, 4, stop, false⟩ w') (hd : DK b g cp D w') => lput_ok a b g cp W H 0 bv ((wv : Int) + 1) ⟨wv, 4, stop, false⟩ D w' hm hd (by omega) hl (by omega))
    have htl := tell_in (H := H) (ev := 6) (l := ⟨wv, 4, stop, false⟩) (d := D) (by omega) rfl (by unfold may; simp)
    simp only [show (6 : Int) ≠ 1 by omega, show (6 : Int) ≠ 2 by omega, show (6 : Int) ≠ 3 by omega, show (6 : Int) ≠ 4 by omega, show (6 : Int) ≠ 5 by omega, show (6 : Int) ≠ 7 by omega, show (6 : Int) ≠ 9 by omega, if_false, if_true] at htl
    rw [htl]
    clear htl
    cases hp : put D 0 ((wv : Int) + 1) with
    | none =>
      simp only [hp] at HPUT ⊢
      clear hp
      have HP := Lib.hid (fun w => plain_ok 6 w)
      go_enter Try.func13, Try.ntmps13
      go_wp2
      refine wp_scope_fwd ?_
      go_wp2_with fail
      refine (HP.out _).mono ?_
      rintro r w1 ⟨rfl, hb⟩
      obtain ⟨E, dd, rfl⟩ := bExt hb
      clear hb HP
      simp only [plainV]
      go_wp2_with fail
      refine (HPUT.out _ (LMk HM.out (by repeat (first | exact Below.refl _ _ | refine Below.drew ?_ | refine below_drewN ?_ _ | refine Below.alloc ?_ (by first | exact Nat.le_refl _ | (simp; done) | (simp; omega) | omega) _ | refine Below.setCell ?_ (by first | exact Nat.le_refl _ | (simp; done) | (simp; omega) | omega) _ | refine bExtW ?_ (by first | exact Nat.le_refl _ | (simp; done) | (simp; omega) | omega) | refine Below.trans ?_ (Below.mono (by assumption) (by first | exact Nat.le_refl _ | (simp; done) | (simp; omega) | omega))))) (HD.out.keep (a1 := 0) (by repeat (first | exact Below.refl _ _ | refine Below.drew ?_ | refine below_drewN ?_ _ | refine Below.alloc ?_ (by first | exact Nat.le_refl _ | (simp; done) | (simp; omega) | omega) _ | refine Below.setCell ?_ (by first | exact Nat.le_refl _ | (simp; done) | (simp; omega) | omega) _ | refine bExtW ?_ (by first | exact Nat.le_refl _ | (simp; done) | (simp; omega) | omega) | refine Below.trans ?_ (Below.mono (by assumption) (by first | exact Nat.le_refl _ | (simp; done) | (simp; omega) | omega)))))).mono ?_
      rintro r w2 ⟨rfl, hm2, hd2, hk2⟩
      have HM2 := Lib.hid hm2; have HD2 := Lib.hid hd2
      have hk3 : Keep3 a b g w w2 := (Keep3.below (by repeat (first | exact Below.refl _ _ | refine Below.drew ?_ | refine below_drewN ?_ _ | refine Below.alloc ?_ (by first | exact Nat.le_refl _ | (simp; done) | (simp; omega) | omega) _ | refine Below.setCell ?_ (by first | exact Nat.le_refl _ | (simp; done) | (simp; omega) | omega) _ | refine bExtW ?_ (by first | exact Nat.le_refl _ | (simp; done) | (simp; omega) | omega) | refine Below.trans ?_ (Below.mono (by assumption) (by first | exact Nat.le_refl _ | (simp; done) | (simp; omega) | omega))))).trans hk2
      have HK3 := Lib.hid hk3
      clear hm2 hd2 hk2 hk3
      go_wp2
      apply wp_goto
      refine ⟨_, rfl, ?_⟩
      go_wp2
      rw [Exit.noGoto_ret]
      go_ret2
      exact ⟨rfl, HM2.out, HD2.out, HK3.out⟩
    | some d' =>
      simp only [hp] at HPUT ⊢
      clear hp
      have HP := Lib.hid (fun w => plain_ok 6 w)
      go_enter Try.func13, Try.ntmps13
      go_wp2
      refine wp_scope_fwd ?_
      go_wp2_with fail
      refine (HP.out _).mono ?_
      rintro r w1 ⟨rfl, hb⟩
      obtain ⟨E, dd, rfl⟩ := bExt hb
      clear hb HP
      simp only [plainV]
      go_wp2_with fail
      refine (HPUT.out _ (LMk HM.out (by repeat (first | exact Below.refl _ _ | refine Below.drew ?_ | refine below_drewN ?_ _ | refine Below.alloc ?_ (by first | exact Nat.le_refl _ | (simp; done) | (simp; omega) | omega) _ | refine Below.setCell ?_ (by first | exact Nat.le_refl _ | (simp; done) | (simp; omega) | omega) _ | refine bExtW ?_ (by first | exact Nat.le_refl _ | (simp; done) | (simp; omega) | omega) | refine Below.trans ?_ (Below.mono (by assumption) (by first | exact Nat.le_refl _ | (simp; done) | (simp; omega) | omega))))) (HD.out.keep (a1 := 0) (by repeat (first | exact Below.refl _ _ | refine Below.drew ?_ | refine below_drewN ?_ _ | refine Below.alloc ?_ (by first | exact Nat.le_refl _ | (simp; done) | (simp; omega) | omega) _ | refine Below.setCell ?_ (by first | exact Nat.le_refl _ | (simp; done) | (simp; omega) | omega) _ | refine bExtW ?_ (by first | exact Nat.le_refl _ | (simp; done) | (simp; omega) | omega) | refine Below.trans ?_ (Below.mono (by assumption) (by first | exact Nat.le_refl _ | (simp; done) | (simp; omega) | omega)))))).mono ?_
      rintro r w2 ⟨rfl, hm2, hd2, hk2⟩
      have hk3 : Keep3 a b g w w2 := (Keep3.below (by repeat (first | exact Below.refl _ _ | refine Below.drew ?_ | refine below_drewN ?_ _ | refine Below.alloc ?_ (by first | exact Nat.le_refl _ | (simp; done) | (simp; omega) | omega) _ | refine Below.setCell ?_ (by first | exact Nat.le_refl _ | (simp; done) | (simp; omega) | omega) _ | refine bExtW ?_ (by first | exact Nat.le_refl _ | (simp; done) | (simp; omega) | omega) | refine Below.trans ?_ (Below.mono (by assumption) (by first | exact Nat.le_refl _ | (simp; done) | (simp; omega) | omega))))).trans hk2
      have HM2 := Lib.hid hm2; have HD2 := Lib.hid hd2
      have HK3 := Lib.hid hk3
      have l2 : LtW a w2 := hm2.lt
      have q4 := hm2.cell (i := 4) (by omega)
      have q4' : w2.cell? ⟨a, 4, none⟩ = some (.int .i64 (wv)) := q4
      have g4 := hm2.frozen 4
      have HM3 : Hid (LMr a b W H bv ⟨wv + 1, 4, stop, false⟩ (w2.setCell ⟨a, 4, none⟩ (.int .i64 ((wv : Int) + 1)))) := Lib.hid (LMr.setW hm2 (wv + 1))
      have HD3 : Hid (DK b g cp d' (w2.setCell ⟨a, 4, none⟩ (.int .i64 ((wv : Int) + 1)))) := Lib.hid (hd2.ofSet hab hag)
      have HK4 : Hid (Keep3 a b g w (w2.setCell ⟨a, 4, none⟩ (.int .i64 ((wv : Int) + 1)))) := Lib.hid (HK3.out.set _ _ _ (.inl rfl))
      clear hm2 hd2 hk2 hk3 q4
      go_wp2_with fail
      generalize w2.setCell ⟨a, 4, none⟩ (.int .i64 ((wv : Int) + 1)) = w3 at *
      rw [next_eq]
      refine (lnext_ok a b g W H bv ⟨wv + 1, 4, stop, false⟩ w3 HM3.out).mono ?_
      rintro r w4 ⟨rfl, hm4, hk4⟩
      have hab2 := hab; have hag2 := hag
      have hd4 : DK b g cp d' w4 := ⟨hk4.rowIs0 HD3.out.row hab, own_keep HD3.out.own (hk4.block0 (own_lt HD3.out.own) hag), HD3.out.ne, HD3.out.wf, HD3.out.lf⟩
      have HM5 := Lib.hid hm4; have HD5 := Lib.hid hd4; have HK5 := Lib.hid (HK4.out.trans hk4.1)
      clear hm4 hd4 hk4
      go_wp2
      go_ret2
      exact ⟨rfl, HM5.out, HD5.out, HK5.out⟩
  · skip
    have b1 : ((at_ : Int) == 4) = false := by simp; omega
    have b2 : (at_ == 4) = false := by simp; omega
    have hv : tell H 6 ⟨wv, at_, stop, false⟩ D = (0, 9, ⟨wv, at_, stop, false⟩, D) := tell_bad (by omega) (.inr (by unfold may; first | (simp; done) | (simp; omega)))
    rw [hv]
    clear hv
    have HP := Lib.hid (fun w => plain_ok 6 w)
    go_enter Try.func13, Try.ntmps13
    go_wp2
    refine wp_scope_fwd ?_
    go_wp2_with fail
    refine (HP.out _).mono ?_
    rintro r w1 ⟨rfl, hb⟩
    obtain ⟨E, dd, rfl⟩ := bExt hb
    clear hb HP
    simp only [plainV]
    go_wp2
    go_step3
    go_wp2
    go_ret2
    exact ⟨rfl, LMk HM.out (by repeat (first | exact Below.refl _ _ | refine Below.drew ?_ | refine below_drewN ?_ _ | refine Below.alloc ?_ (by first | exact Nat.le_refl _ | (simp; done) | (simp; omega) | omega) _ | refine Below.setCell ?_ (by first | exact Nat.le_refl _ | (simp; done) | (simp; omega) | omega) _ | refine bExtW ?_ (by first | exact Nat.le_refl _ | (simp; done) | (simp; omega) | omega) | refine Below.trans ?_ (Below.mono (by assumption) (by first | exact Nat.le_refl _ | (simp; done) | (simp; omega) | omega)))), HD.out.keep (a1 := 0) (by repeat (first | exact Below.refl _ _ | refine Below.drew ?_ | refine below_drewN ?_ _ | refine Below.alloc ?_ (by first | exact Nat.le_refl _ | (simp; done) | (simp; omega) | omega) _ | refine Below.setCell ?_ (by first | exact Nat.le_refl _ | (simp; done) | (simp; omega) | omega) _ | refine bExtW ?_ (by first | exact Nat.le_refl _ | (simp; done) | (simp; omega) | omega) | refine Below.trans ?_ (Below.mono (by assumption) (by first | exact Nat.le_refl _ | (simp; done) | (simp; omega) | omega)))), Keep3.below (by repeat (first | exact Below.refl _ _ | refine Below.drew ?_ | refine below_drewN ?_ _ | refine Below.alloc ?_ (by first | exact Nat.le_refl _ | (simp; done) | (simp; omega) | omega) _ | refine Below.setCell ?_ (by first | exact Nat.le_refl _ | (simp; done) | (simp; omega) | omega) _ | refine bExtW ?_ (by first | exact Nat.le_refl _ | (simp; done) | (simp; omega) | omega) | refine Below.trans ?_ (Below.mono (by assumption) (by first | exact Nat.le_refl _ | (simp; done) | (simp; omega) | omega))))⟩
set_option maxRecDepth 100000 in
set_option maxHeartbeats 8000000 in
theorem Do_8 (a b g cp W H : Nat) (bv : Value) (wv at_ : Nat) (stop : Bool) (D : Dk) (w : World) (hm : LMr a b W H bv ⟨wv, at_, stop, false⟩ w) (h : DK b g cp D w) (h2 : 2 ≤ D.ws.length) (hl : D.ws.length ≤ 9223372036854775807) (hw : wv ≤ 64) :
    Calls Try.prog 13 #[.pointer (some ⟨a, 0, none⟩), .int .i64 (8)] w (DoPost a b g cp W H bv (tell H 8 ⟨wv, at_, stop, false⟩ D) w) := by
  obtain ⟨hab, hag⟩ := do_ne hm h
  obtain ⟨m0, m1, m2, m3, m4, m5, m6, m7⟩ := LMr.cells hm
  have lm := (hm).lt
  have fm4 := (hm).frozen 4; have fm5 := (hm).frozen 5; have fm6 := (hm).frozen 6; have fm7 := (hm).frozen 7
  have lm2 : LtW a w := lm
  have HM := Lib.hid hm
  have HD := Lib.hid h
  clear hm h lm
  simp only at m4 m5 m6 m7
  by_cases h0 : at_ = 5
  · subst h0
    have v1 : IntKind.i64.wrap ((wv : Int) + 1) = (wv : Int) + 1 := IntWalk.i64_in _ (by omega)
    have HPUT := Lib.hid (fun w' (hm : LMr a b W H bv ⟨wv, 5, stop, false⟩ w') (hd : DK b g cp D w') => lput_ok a b g cp W H 0 bv ((wv : Int) + 1) ⟨wv, 5, stop, false⟩ D w' hm hd (by omega) hl (by omega))
    have htl := tell_in (H := H) (ev := 8) (l := ⟨wv, 5, stop, false⟩) (d := D) (by omega) rfl (by unfold may; simp)
    simp only [show (8 : Int) ≠ 1 by omega, show (8 : Int) ≠ 2 by omega, show (8 : Int) ≠ 3 by omega, show (8 : Int) ≠ 4 by omega, show (8 : Int) ≠ 5 by omega, show (8 : Int) ≠ 7 by omega, show (8 : Int) ≠ 9 by omega, if_false, if_true] at htl
    rw [htl]
    clear htl
    cases hp : put D 0 ((wv : Int) + 1) with
    | none =>
      simp only [hp] at HPUT ⊢
      clear hp
      have HP := Lib.hid (fun w => plain_ok 8 w)
      go_enter Try.func13, Try.ntmps13
      go_wp2
      refine wp_scope_fwd ?_
      go_wp2_with fail
      refine (HP.out _).mono ?_
      rintro r w1 ⟨rfl, hb⟩
      obtain ⟨E, dd, rfl⟩ := bExt hb
      clear hb HP
      simp only [plainV]
      go_wp2_with fail
      refine (HPUT.out _ (LMk HM.out (by repeat (first | exact Below.refl _ _ | refine Below.drew ?_ | refine below_drewN ?_ _ | refine Below.alloc ?_ (by first | exact Nat.le_refl _ | (simp; done) | (simp; omega) | omega) _ | refine Below.setCell ?_ (by first | exact Nat.le_refl _ | (simp; done) | (simp; omega) | omega) _ | refine bExtW ?_ (by first | exact Nat.le_refl _ | (simp; done) | (simp; omega) | omega) | refine Below.trans ?_ (Below.mono (by assumption) (by first | exact Nat.le_refl _ | (simp; done) | (simp; omega) | omega))))) (HD.out.keep (a1 := 0) (by repeat (first | exact Below.refl _ _ | refine Below.drew ?_ | refine below_drewN ?_ _ | refine Below.alloc ?_ (by first | exact Nat.le_refl _ | (simp; done) | (simp; omega) | omega) _ | refine Below.setCell ?_ (by first | exact Nat.le_refl _ | (simp; done) | (simp; omega) | omega) _ | refine bExtW ?_ (by first | exact Nat.le_refl _ | (simp; done) | (simp; omega) | omega) | refine Below.trans ?_ (Below.mono (by assumption) (by first | exact Nat.le_refl _ | (simp; done) | (simp; omega) | omega)))))).mono ?_
      rintro r w2 ⟨rfl, hm2, hd2, hk2⟩
      have HM2 := Lib.hid hm2; have HD2 := Lib.hid hd2
      have hk3 : Keep3 a b g w w2 := (Keep3.below (by repeat (first | exact Below.refl _ _ | refine Below.drew ?_ | refine below_drewN ?_ _ | refine Below.alloc ?_ (by first | exact Nat.le_refl _ | (simp; done) | (simp; omega) | omega) _ | refine Below.setCell ?_ (by first | exact Nat.le_refl _ | (simp; done) | (simp; omega) | omega) _ | refine bExtW ?_ (by first | exact Nat.le_refl _ | (simp; done) | (simp; omega) | omega) | refine Below.trans ?_ (Below.mono (by assumption) (by first | exact Nat.le_refl _ | (simp; done) | (simp; omega) | omega))))).trans hk2
      have HK3 := Lib.hid hk3
      clear hm2 hd2 hk2 hk3
      go_wp2
      apply wp_goto
      refine ⟨_, rfl, ?_⟩
      go_wp2
      rw [Exit.noGoto_ret]
      go_ret2
      exact ⟨rfl, HM2.out, HD2.out, HK3.out⟩
    | some d' =>
      simp only [hp] at HPUT ⊢
      clear hp
      have HP := Lib.hid (fun w => plain_ok 8 w)
      go_enter Try.func13, Try.ntmps13
      go_wp2
      refine wp_scope_fwd ?_
      go_wp2_with fail
      refine (HP.out _).mono ?_
      rintro r w1 ⟨rfl, hb⟩
      obtain ⟨E, dd, rfl⟩ := bExt hb
      clear hb HP
      simp only [plainV]
      go_wp2_with fail
      refine (HPUT.out _ (LMk HM.out (by repeat (first | exact Below.refl _ _ | refine Below.drew ?_ | refine below_drewN ?_ _ | refine Below.alloc ?_ (by first | exact Nat.le_refl _ | (simp; done) | (simp; omega) | omega) _ | refine Below.setCell ?_ (by first | exact Nat.le_refl _ | (simp; done) | (simp; omega) | omega) _ | refine bExtW ?_ (by first | exact Nat.le_refl _ | (simp; done) | (simp; omega) | omega) | refine Below.trans ?_ (Below.mono (by assumption) (by first | exact Nat.le_refl _ | (simp; done) | (simp; omega) | omega))))) (HD.out.keep (a1 := 0) (by repeat (first | exact Below.refl _ _ | refine Below.drew ?_ | refine below_drewN ?_ _ | refine Below.alloc ?_ (by first | exact Nat.le_refl _ | (simp; done) | (simp; omega) | omega) _ | refine Below.setCell ?_ (by first | exact Nat.le_refl _ | (simp; done) | (simp; omega) | omega) _ | refine bExtW ?_ (by first | exact Nat.le_refl _ | (simp; done) | (simp; omega) | omega) | refine Below.trans ?_ (Below.mono (by assumption) (by first | exact Nat.le_refl _ | (simp; done) | (simp; omega) | omega)))))).mono ?_
      rintro r w2 ⟨rfl, hm2, hd2, hk2⟩
      have hk3 : Keep3 a b g w w2 := (Keep3.below (by repeat (first | exact Below.refl _ _ | refine Below.drew ?_ | refine below_drewN ?_ _ | refine Below.alloc ?_ (by first | exact Nat.le_refl _ | (simp; done) | (simp; omega) | omega) _ | refine Below.setCell ?_ (by first | exact Nat.le_refl _ | (simp; done) | (simp; omega) | omega) _ | refine bExtW ?_ (by first | exact Nat.le_refl _ | (simp; done) | (simp; omega) | omega) | refine Below.trans ?_ (Below.mono (by assumption) (by first | exact Nat.le_refl _ | (simp; done) | (simp; omega) | omega))))).trans hk2
      have HM2 := Lib.hid hm2; have HD2 := Lib.hid hd2
      have HK3 := Lib.hid hk3
      have l2 : LtW a w2 := hm2.lt
      have q4 := hm2.cell (i := 4) (by omega)
      have q4' : w2.cell? ⟨a, 4, none⟩ = some (.int .i64 (wv)) := q4
      have g4 := hm2.frozen 4
      have HM3 : Hid (LMr a b W H bv ⟨wv + 1, 5, stop, false⟩ (w2.setCell ⟨a, 4, none⟩ (.int .i64 ((wv : Int) + 1)))) := Lib.hid (LMr.setW hm2 (wv + 1))
      have HD3 : Hid (DK b g cp d' (w2.setCell ⟨a, 4, none⟩ (.int .i64 ((wv : Int) + 1)))) := Lib.hid (hd2.ofSet hab hag)
      have HK4 : Hid (Keep3 a b g w (w2.setCell ⟨a, 4, none⟩ (.int .i64 ((wv : Int) + 1)))) := Lib.hid (HK3.out.set _ _ _ (.inl rfl))
      clear hm2 hd2 hk2 hk3 q4
      go_wp2_with fail
      generalize w2.setCell ⟨a, 4, none⟩ (.int .i64 ((wv : Int) + 1)) = w3 at *
      rw [next_eq]
      refine (lnext_ok a b g W H bv ⟨wv + 1, 5, stop, false⟩ w3 HM3.out).mono ?_
      rintro r w4 ⟨rfl, hm4, hk4⟩
      have hab2 := hab; have hag2 := hag
      have hd4 : DK b g cp d' w4 := ⟨hk4.rowIs0 HD3.out.row hab, own_keep HD3.out.own (hk4.block0 (own_lt HD3.out.own) hag), HD3.out.ne, HD3.out.wf, HD3.out.lf⟩
      have HM5 := Lib.hid hm4; have HD5 := Lib.hid hd4; have HK5 := Lib.hid (HK4.out.trans hk4.1)
      clear hm4 hd4 hk4
      go_wp2
      go_ret2
      exact ⟨rfl, HM5.out, HD5.out, HK5.out⟩
  · skip
    have b1 : ((at_ : Int) == 5) = false := by simp; omega
    have b2 : (at_ == 5) = false := by simp; omega
    have hv : tell H 8 ⟨wv, at_, stop, false⟩ D = (0, 9, ⟨wv, at_, stop, false⟩, D) := tell_bad (by omega) (.inr (by unfold may; first | (simp; done) | (simp; omega)))
    rw [hv]
    clear hv
    have HP := Lib.hid (fun w => plain_ok 8 w)
    go_enter Try.func13, Try.ntmps13
    go_wp2
    refine wp_scope_fwd ?_
    go_wp2_with fail
    refine (HP.out _).mono ?_
    rintro r w1 ⟨rfl, hb⟩
    obtain ⟨E, dd, rfl⟩ := bExt hb
    clear hb HP
    simp only [plainV]
    go_wp2
    go_step3
    go_wp2
    go_ret2
    exact ⟨rfl, LMk HM.out (by repeat (first | exact Below.refl _ _ | refine Below.drew ?_ | refine below_drewN ?_ _ | refine Below.alloc ?_ (by first | exact Nat.le_refl _ | (simp; done) | (simp; omega) | omega) _ | refine Below.setCell ?_ (by first | exact Nat.le_refl _ | (simp; done) | (simp; omega) | omega) _ | refine bExtW ?_ (by first | exact Nat.le_refl _ | (simp; done) | (simp; omega) | omega) | refine Below.trans ?_ (Below.mono (by assumption) (by first | exact Nat.le_refl _ | (simp; done) | (simp; omega) | omega)))), HD.out.keep (a1 := 0) (by repeat (first | exact Below.refl _ _ | refine Below.drew ?_ | refine below_drewN ?_ _ | refine Below.alloc ?_ (by first | exact Nat.le_refl _ | (simp; done) | (simp; omega) | omega) _ | refine Below.setCell ?_ (by first | exact Nat.le_refl _ | (simp; done) | (simp; omega) | omega) _ | refine bExtW ?_ (by first | exact Nat.le_refl _ | (simp; done) | (simp; omega) | omega) | refine Below.trans ?_ (Below.mono (by assumption) (by first | exact Nat.le_refl _ | (simp; done) | (simp; omega) | omega)))), Keep3.below (by repeat (first | exact Below.refl _ _ | refine Below.drew ?_ | refine below_drewN ?_ _ | refine Below.alloc ?_ (by first | exact Nat.le_refl _ | (simp; done) | (simp; omega) | omega) _ | refine Below.setCell ?_ (by first | exact Nat.le_refl _ | (simp; done) | (simp; omega) | omega) _ | refine bExtW ?_ (by first | exact Nat.le_refl _ | (simp; done) | (simp; omega) | omega) | refine Below.trans ?_ (Below.mono (by assumption) (by first | exact Nat.le_refl _ | (simp; done) | (simp; omega) | omega))))⟩
end Go.Proofs.Ytefmlepogpjhmaa
