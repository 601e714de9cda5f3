/- Lemmas and contracts of functions (what each call returns, and that it changes nothing that was there) that the proof of a law of this seat uses; each lemma states its own conditions. -/
import Derived.Test.YtpmecoojhjopcaaCd8
import Derived.Test.YtpmecoojhjopcaaCd5
namespace Go.Proofs.Ytpmecoojhjopcaa
open Go.RowKit
set_option linter.unusedVariables false
set_option linter.unusedSimpArgs false
theorem PkU (W H : Int) (a : Option Addr) (n c : Nat) (bs : List Bool) (hc : n ≤ c) (h1 : (-9223372036854775808 ≤ W ∧ W ≤ 9223372036854775807)) (h2 : (-9223372036854775808 ≤ H ∧ H ≤ 9223372036854775807)) (h3 : n ≤ 9223372036854775807) :
    ∃ (L : List Nat) (e : Int), (∀ w, OkT w a n c bs → Calls Try.prog 7 #[.agg #[.int .i64 (W), .int .i64 (H), .slice a n c]] w (StrPost L e w)) ∧ (∀ w, OkT w a n c bs → Calls Try.prog 8 #[.agg #[.int .i64 (W), .int .i64 (H), .slice a n c]] w (StrPost L e w)) := by
  by_cases hw : wrT W H n = 0
  · obtain ⟨W', H', rfl, rfl, hW, hH, hn⟩ := wrT_zero hw
    exact ⟨_, _, fun w h => Pack_ok W' H' n a c bs w h hW hH hn, fun w h => rPack_ok W' H' n a c bs w h hW hH hn⟩
  · exact ⟨_, _, fun w _ => Pack_bad W H a n c w h1 h2 h3 hw, fun w _ => rPack_bad W H a n c w h1 h2 h3 hw⟩
/-- What both readings tell. -/
theorem UnU (s : ByteArray) (h : s.size ≤ 9223372036854775807) (KR : ∀ w, Calls Try.prog 10 #[.string s] w (UnpPost (unp (bytesOf s)) w)) :
    ∃ (X Y : Int) (m : Nat) (L : List Bool) (e p : Int), m ≤ 9223372036854775807 ∧ (∀ w, Calls Try.prog 9 #[.string s] w fun r w' => (∃ A C, r = .returned (.tuple #[.agg #[.int .i64 (X), .int .i64 (Y), .slice A m C], .agg #[.int .i64 (e), .int .i64 (p)]]) ∧ IsBools w' A m L) ∧ Below w.heap.size w w') ∧
      (∀ w, Calls Try.prog 10 #[.string s] w fun r w' => (∃ A C, r = .returned (.tuple #[.agg #[.int .i64 (X), .int .i64 (Y), .slice A m C], .agg #[.int .i64 (e), .int .i64 (p)]]) ∧ IsBools w' A m L) ∧ Below w.heap.size w w') := by
  have K0 := fun w => Unpack_any s w h
  obtain ⟨res, hres⟩ : ∃ res, unp (bytesOf s) = res := ⟨_, rfl⟩
  rw [hres] at K0 KR
  obtain ⟨c, W, H⟩ := res
  cases c with
  | bad p =>
    refine ⟨0, 0, 0, [], 2, p, by omega, fun w => (K0 w).mono ?_, fun w => (KR w).mono ?_⟩
    · rintro r w' ⟨h1, h2⟩
      exact ⟨⟨none, 0, h1, ⟨rfl, fun h => absurd h (by omega)⟩⟩, h2⟩
    · rintro r w' ⟨h1, h2⟩
      exact ⟨⟨none, 0, h1, ⟨rfl, fun h => absurd h (by omega)⟩⟩, h2⟩
  | ok bits =>
    have hl : bits.length ≤ 9223372036854775807 := by
      obtain ⟨h1, h2, h3, _⟩ := unp_ok hres
      have := Nat.mul_le_mul h1 h2
      omega
    refine ⟨W, H, bits.length, bits, 0, 0, hl, fun w => (K0 w).mono ?_, fun w => (KR w).mono ?_⟩
    · rintro r w' ⟨⟨A, C, h1, h3⟩, h2⟩
      exact ⟨⟨A, C, h1, h3.bits⟩, h2⟩
    · rintro r w' ⟨⟨A, C, h1, h3⟩, h2⟩
      exact ⟨⟨A, C, h1, h3.bits⟩, h2⟩
set_option maxRecDepth 100000 in
set_option maxHeartbeats 8000000 in
theorem punch_walk (W H : Int) (a : Option Addr) (n c : Nat) (bs : List Bool) (s : ByteArray) (w : World) (hT : OkT w a n c bs) (h1 : (-9223372036854775808 ≤ W ∧ W ≤ 9223372036854775807)) (h2 : (-9223372036854775808 ≤ H ∧ H ≤ 9223372036854775807)) (hs : s.size ≤ 9223372036854775807) (KR : ∀ w, Calls Try.prog 10 #[.string s] w (UnpPost (unp (bytesOf s)) w)) :
    Calls Try.prog 3 #[.agg #[.int .i64 (W), .int .i64 (H), .slice a n c], .string s] w fun e w' => e = .returned (.bool true) ∧ Below w.heap.size w w' := by
  obtain ⟨L, e, K1, K2⟩ := PkU W H a n c bs hT.cap h1 h2 (Nat.le_trans hT.cap hT.lim)
  obtain ⟨X, Y, m, M, fe, fp, hm, K3, K4⟩ := UnU s hs KR
  unfold StrPost at K1 K2
  have K1 := Lib.hid K1; have K2 := Lib.hid K2; have K3 := Lib.hid K3; have K4 := Lib.hid K4
  have HT := Lib.hid hT
  clear hT h1 h2 KR hs
  generalize strOf L = s0 at *
  go_enter Try.func3, Try.ntmps3
  (go_wp2_with fail; refine (K1.out _ (HT.out.below (by repeat (first | exact Below.refl _ _ | refine Below.drew ?_ | refine below_drewN ?_ _ | refine Below.alloc ?_ (by first | exact Nat.le_refl _ | (simp; done) | (simp; omega) | omega) _ | refine Below.setCell ?_ (by first | exact Nat.le_refl _ | (simp; done) | (simp; omega) | omega) _ | refine bExtW ?_ (by first | exact Nat.le_refl _ | (simp; done) | (simp; omega) | omega) | refine Below.trans ?_ (Below.mono (by assumption) (by first | exact Nat.le_refl _ | (simp; done) | (simp; omega) | omega)))))).mono ?_; rintro r w1 ⟨rfl, hb⟩; obtain ⟨E, d, rfl⟩ := bExt hb; clear hb)
  (go_wp2_with fail; refine (K2.out _ (HT.out.below (by repeat (first | exact Below.refl _ _ | refine Below.drew ?_ | refine below_drewN ?_ _ | refine Below.alloc ?_ (by first | exact Nat.le_refl _ | (simp; done) | (simp; omega) | omega) _ | refine Below.setCell ?_ (by first | exact Nat.le_refl _ | (simp; done) | (simp; omega) | omega) _ | refine bExtW ?_ (by first | exact Nat.le_refl _ | (simp; done) | (simp; omega) | omega) | refine Below.trans ?_ (Below.mono (by assumption) (by first | exact Nat.le_refl _ | (simp; done) | (simp; omega) | omega)))))).mono ?_; rintro r w1 ⟨rfl, hb⟩; obtain ⟨E, d, rfl⟩ := bExt hb; clear hb)
  go_wp2_with fail
  refine (K3.out _).mono ?_
  rintro r wx ⟨⟨A3, C3, rfl, hT⟩, hb⟩
  obtain ⟨E3, d3, rfl⟩ := bExt hb
  have HX3 := Lib.hid hT
  clear hb hT
  go_wp2_with fail
  refine (K4.out _).mono ?_
  rintro r wx ⟨⟨A4, C4, rfl, hT⟩, hb⟩
  obtain ⟨E4, d4, rfl⟩ := bExt hb
  have HX4 := Lib.hid hT
  clear hb hT
  go_wp2_with fail
  refine (Same_any X Y A3 m C3 M X Y A4 m C4 M _ (HX3.out.below (by repeat (first | exact Below.refl _ _ | refine Below.drew ?_ | refine below_drewN ?_ _ | refine Below.alloc ?_ (by first | exact Nat.le_refl _ | (simp; done) | (simp; omega) | omega) _ | refine Below.setCell ?_ (by first | exact Nat.le_refl _ | (simp; done) | (simp; omega) | omega) _ | refine bExtW ?_ (by first | exact Nat.le_refl _ | (simp; done) | (simp; omega) | omega) | refine Below.trans ?_ (Below.mono (by assumption) (by first | exact Nat.le_refl _ | (simp; done) | (simp; omega) | omega))))) (HX4.out.below (by repeat (first | exact Below.refl _ _ | refine Below.drew ?_ | refine below_drewN ?_ _ | refine Below.alloc ?_ (by first | exact Nat.le_refl _ | (simp; done) | (simp; omega) | omega) _ | refine Below.setCell ?_ (by first | exact Nat.le_refl _ | (simp; done) | (simp; omega) | omega) _ | refine bExtW ?_ (by first | exact Nat.le_refl _ | (simp; done) | (simp; omega) | omega) | refine Below.trans ?_ (Below.mono (by assumption) (by first | exact Nat.le_refl _ | (simp; done) | (simp; omega) | omega))))) hm hm).mono ?_
  rw [decide_eq_true (p := (X = X ∧ Y = Y ∧ M = M)) ⟨rfl, rfl, rfl⟩]
  rintro r w1 ⟨rfl, hb⟩
  obtain ⟨E, d, rfl⟩ := bExt hb
  clear hb
  go_wp2
  go_ret
  exact ⟨rfl, (by repeat (first | exact Below.refl _ _ | refine Below.drew ?_ | refine below_drewN ?_ _ | refine Below.alloc ?_ (by first | exact Nat.le_refl _ | (simp; done) | (simp; omega) | omega) _ | refine Below.setCell ?_ (by first | exact Nat.le_refl _ | (simp; done) | (simp; omega) | omega) _ | refine bExtW ?_ (by first | exact Nat.le_refl _ | (simp; done) | (simp; omega) | omega) | refine Below.trans ?_ (Below.mono (by assumption) (by first | exact Nat.le_refl _ | (simp; done) | (simp; omega) | omega))))⟩
end Go.Proofs.Ytpmecoojhjopcaa
