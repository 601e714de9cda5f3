/- Lemmas and contracts of functions (what each call returns, and that it changes nothing that was there) that the proof of a law of this seat uses; each lemma states its own conditions. -/
import Derived.Test.YtikdnpkcknocaaaDoorB17
namespace Go.Proofs.YtikdnpkcknocaaaDoor
open Go.RowKit
set_option linter.unusedVariables false
set_option linter.unusedSimpArgs false
open By (bytesOf hasAt sgL encN decL colAt rowF RowR readS rowsF RdR hdR)
set_option maxRecDepth 100000 in
set_option maxHeartbeats 8000000 in
theorem sameC_self (G W H : Int) (n : Nat) (a1 : Option Addr) (c1 : Nat) (a2 : Option Addr) (c2 : Nat) (l : List Int) (w : World) (h1 : IsInts w a1 n l) (h2 : IsInts w a2 n l) (hn : n ≤ 9223372036854775807) :
    Calls Tryd.prog 12 #[.agg #[.int .i64 (G), .int .i64 (W), .int .i64 (H), .slice a1 n c1], .agg #[.int .i64 (G), .int .i64 (W), .int .i64 (H), .slice a2 n c2]] w fun e w' => e = .returned (.bool true) ∧ Below w.heap.size w w' := by
  have b1 : (G != G) = false := by simp
  have b2 : (W != W) = false := by simp
  have b3 : (H != H) = false := by simp
  have b4 : ((n : Int) != (n : Int)) = false := by simp
  have HI := Lib.hid (h1.below (w' := ((w.alloc (.cells #[.int .i64 (G), .int .i64 (W), .int .i64 (H), .slice a1 n c1] 27)).alloc (.cells #[.int .i64 (G), .int .i64 (W), .int .i64 (H), .slice a2 n c2] 27))) (by repeat (first | exact Below.refl _ _ | refine Below.drew ?_ | refine below_drewN ?_ _ | refine Below.alloc ?_ (by first | exact Nat.le_refl _ | (simp; done) | (simp; omega) | omega) _ | refine Below.setCell ?_ (by first | exact Nat.le_refl _ | (simp; done) | (simp; omega) | omega) _ | refine bExtW ?_ (by first | exact Nat.le_refl _ | (simp; done) | (simp; omega) | omega) | refine Below.trans ?_ (Below.mono (by assumption) (by first | exact Nat.le_refl _ | (simp; done) | (simp; omega) | omega)))))
  have HJ := Lib.hid (h2.below (w' := ((w.alloc (.cells #[.int .i64 (G), .int .i64 (W), .int .i64 (H), .slice a1 n c1] 27)).alloc (.cells #[.int .i64 (G), .int .i64 (W), .int .i64 (H), .slice a2 n c2] 27))) (by repeat (first | exact Below.refl _ _ | refine Below.drew ?_ | refine below_drewN ?_ _ | refine Below.alloc ?_ (by first | exact Nat.le_refl _ | (simp; done) | (simp; omega) | omega) _ | refine Below.setCell ?_ (by first | exact Nat.le_refl _ | (simp; done) | (simp; omega) | omega) _ | refine bExtW ?_ (by first | exact Nat.le_refl _ | (simp; done) | (simp; omega) | omega) | refine Below.trans ?_ (Below.mono (by assumption) (by first | exact Nat.le_refl _ | (simp; done) | (simp; omega) | omega)))))
  have d1 : ((w.alloc (.cells #[.int .i64 (G), .int .i64 (W), .int .i64 (H), .slice a1 n c1] 27)).alloc (.cells #[.int .i64 (G), .int .i64 (W), .int .i64 (H), .slice a2 n c2] 27)).cell? ⟨w.heap.size, 3, none⟩ = some (.slice a1 n c1) := by simp [go_sem]
  have d2 : ((w.alloc (.cells #[.int .i64 (G), .int .i64 (W), .int .i64 (H), .slice a1 n c1] 27)).alloc (.cells #[.int .i64 (G), .int .i64 (W), .int .i64 (H), .slice a2 n c2] 27)).cell? ⟨w.heap.size + 1, 3, none⟩ = some (.slice a2 n c2) := by simp [go_sem]
  have q1 : LtW w.heap.size ((w.alloc (.cells #[.int .i64 (G), .int .i64 (W), .int .i64 (H), .slice a1 n c1] 27)).alloc (.cells #[.int .i64 (G), .int .i64 (W), .int .i64 (H), .slice a2 n c2] 27)) := by unfold LtW; simp; omega
  have q2 : LtW (w.heap.size + 1) ((w.alloc (.cells #[.int .i64 (G), .int .i64 (W), .int .i64 (H), .slice a1 n c1] 27)).alloc (.cells #[.int .i64 (G), .int .i64 (W), .int .i64 (H), .slice a2 n c2] 27)) := by unfold LtW; simp
  have HB : Hid (Below w.heap.size w ((w.alloc (.cells #[.int .i64 (G), .int .i64 (W), .int .i64 (H), .slice a1 n c1] 27)).alloc (.cells #[.int .i64 (G), .int .i64 (W), .int .i64 (H), .slice a2 n c2] 27))) := Lib.hid (by repeat (first | exact Below.refl _ _ | refine Below.drew ?_ | refine below_drewN ?_ _ | refine Below.alloc ?_ (by first | exact Nat.le_refl _ | (simp; done) | (simp; omega) | omega) _ | refine Below.setCell ?_ (by first | exact Nat.le_refl _ | (simp; done) | (simp; omega) | omega) _ | refine bExtW ?_ (by first | exact Nat.le_refl _ | (simp; done) | (simp; omega) | omega) | refine Below.trans ?_ (Below.mono (by assumption) (by first | exact Nat.le_refl _ | (simp; done) | (simp; omega) | omega))))
  clear h1 h2
  go_enter Tryd.func12, Tryd.ntmps12
  go_wp2_with fail
  generalize ((w.alloc (.cells #[.int .i64 (G), .int .i64 (W), .int .i64 (H), .slice a1 n c1] 27)).alloc (.cells #[.int .i64 (G), .int .i64 (W), .int .i64 (H), .slice a2 n c2] 27)) = W0 at *
  clear b1 b2 b3 b4
  go_loopw [37] (fun i wr => ∃ (k : Nat) (E : Array Obj) (d : Nat), k ≤ n ∧ i = .int .i64 k ∧ wr = extW W0 E d) (fun i _ => n - (intOf i).toNat)
  case atStart => exact ⟨0, _, _, by omega, rfl, extW_zero _⟩
  case round =>
    obtain ⟨k, E0, d0, hk, rfl, rfl⟩ := hrel
    by_cases hkn : k < n
    · obtain ⟨p1, o1, rfl, hp1, hc1⟩ := HI.out.2 (by omega)
      obtain ⟨p2, o2, rfl, hp2, hc2⟩ := HJ.out.2 (by omega)
      have k1 := hc1 k hkn
      have k2 := hc2 k hkn
      have l1 : LtW p1 W0 := hp1
      have l2 : LtW p2 W0 := hp2
      obtain ⟨x, hx⟩ : ∃ x, l.getD k 0 = x := ⟨_, rfl⟩
      rw [hx] at k1 k2
      have t1 : (x != x) = false := by simp
      clear hc1 hc2 hp1 hp2 hx
      go_wp2_with fail
      (refine wp_region_ext (by kernel_rfl) (by kernel_rfl) ?_; (repeat (first | ((with_reducible refine ext_step (fun K hK => ?_)); go_simp; first | (refine hK _ ?_; clear hK K) | (apply Exists.intro; refine ⟨fun _ _ => ?_, hK _ ?_⟩; fail; clear hK K)))); refine wpQuiet_nil ?_; intro E d)
      rw [extW_extW]
      go_wp2
      go_roundw
      case rel => exact ⟨k + 1, _, _, by omega, by go_num, rfl⟩
      case measure => simp [intOf]; omega
    · go_wp2
      go_ret
      exact ⟨rfl, bExtW HB.out HB.out.size⟩
/-- What both readings tell. -/
theorem ReadU (s : ByteArray) (hs : s.size ≤ 9223372036854775807) :
    ∃ (G X Y : Int) (m : Nat) (L : List Int) (e p : Int), m ≤ 9223372036854775807 ∧ (∀ w, Tabs w → Calls Tryd.prog 10 #[.string s] w fun r w' => (∃ A C, r = .returned (.tuple #[.agg #[.int .i64 (G), .int .i64 (X), .int .i64 (Y), .slice A m C], .agg #[.int .i64 (e), .int .i64 (p)]]) ∧ IsInts w' A m L) ∧ Below w.heap.size w w') ∧
      (∀ w, Calls Tryd.prog 11 #[.string s] w fun r w' => (∃ A C, r = .returned (.tuple #[.agg #[.int .i64 (G), .int .i64 (X), .int .i64 (Y), .slice A m C], .agg #[.int .i64 (e), .int .i64 (p)]]) ∧ IsInts w' A m L) ∧ Below w.heap.size w w') := by
  have K1 := fun w h => chRead_any s w hs h
  have K2 := fun w => r2Read_any s w hs
  obtain ⟨res, hres⟩ : ∃ res, readS (bytesOf s) = res := ⟨_, rfl⟩
  rw [hres] at K1 K2
  obtain ⟨G, R⟩ := res
  cases R with
  | bad e p =>
    refine ⟨0, 0, 0, 0, [], e, p, by omega, fun w h => (K1 w h).mono ?_, fun w => (K2 w).mono ?_⟩
    · rintro r w' ⟨h1, h2⟩
      exact ⟨⟨none, 0, h1, ⟨rfl, fun h => absurd h (by omega)⟩⟩, h2⟩
    · rintro r w' ⟨h1, h2⟩
      exact ⟨⟨none, 0, h1, ⟨rfl, fun h => absurd h (by omega)⟩⟩, h2⟩
  | ok rows =>
    obtain ⟨_, W, h0, h1, h2, h3, h4, _⟩ := By.print_read (By.bytesOf_lt s) hres
    have hl : rows.reverse.flatten.length ≤ 9223372036854775807 := by
      have h5 := flat_le rows.reverse (fun r hr => by rw [h2.w r (by simpa using hr)]; exact h1)
      rw [List.length_reverse] at h5
      omega
    exact ⟨G, _, _, rows.reverse.flatten.length, natI rows.reverse.flatten, 0, 0, hl, fun w h => K1 w h, fun w => K2 w⟩
set_option maxRecDepth 100000 in
set_option maxHeartbeats 8000000 in
theorem reads2_walk (s : ByteArray) (n : Int) (w : World) (hs : s.size ≤ 9223372036854775807) (hn : (-9223372036854775808 ≤ n ∧ n ≤ 9223372036854775807)) (hT : Tabs w) :
    Calls Tryd.prog 3 #[.string s, .int .i64 (n)] w fun e w' => e = .returned (.bool true) ∧ Below w.heap.size w w' := by
  obtain ⟨G, X, Y, m, L, fe, fp, hm, K1, K2⟩ := ReadU s hs
  have HS1 := Lib.hid (fun w => chSign_any n w hn)
  have HS2 := Lib.hid (fun w => r2Sign_any n w hn)
  have HC1 := Lib.hid (fun w hT => chColour_ok s w hT)
  have HC2 := Lib.hid (fun w => r2Colour_ok s w hs)
  have HK1 := Lib.hid K1; have HK2 := Lib.hid K2
  have HT := Lib.hid hT
  generalize (colB (bytesOf s)).1 = c1 at *
  generalize (colB (bytesOf s)).2 = c2 at *
  generalize sgV n = sg at *
  have t1 : ((c1 : Int) != (c1 : Int)) = false := by simp
  have t2 : ((c2 : Int) != (c2 : Int)) = false := by simp
  have t3 : (sg != sg) = false := by simp
  clear K1 K2 hT hn hs
  go_enter Tryd.func3, Tryd.ntmps3
  (go_wp2_with fail; refine (HS1.out _).mono ?_; rintro r w1 ⟨rfl, hb⟩; obtain ⟨E, d, rfl⟩ := bExt hb; clear hb)
  (go_wp2_with fail; refine (HS2.out _).mono ?_; rintro r w1 ⟨rfl, hb⟩; obtain ⟨E, d, rfl⟩ := bExt hb; clear hb)
  (go_wp2_with fail; refine (HC1.out _ (HT.out.below (by repeat (first | exact Below.refl _ _ | refine Below.drew ?_ | refine below_drewN ?_ _ | refine Below.alloc ?_ (by first | exact Nat.le_refl _ | (simp; done) | (simp; omega) | omega) _ | refine Below.setCell ?_ (by first | exact Nat.le_refl _ | (simp; done) | (simp; omega) | omega) _ | refine bExtW ?_ (by first | exact Nat.le_refl _ | (simp; done) | (simp; omega) | omega) | refine Below.trans ?_ (Below.mono (by assumption) (by first | exact Nat.le_refl _ | (simp; done) | (simp; omega) | omega)))))).mono ?_; rintro r w1 ⟨rfl, hb⟩; obtain ⟨E, d, rfl⟩ := bExt hb; clear hb)
  (go_wp2_with fail; refine (HC2.out _).mono ?_; rintro r w1 ⟨rfl, hb⟩; obtain ⟨E, d, rfl⟩ := bExt hb; clear hb)
  go_wp2_with fail
  refine (HK1.out _ (HT.out.below (by repeat (first | exact Below.refl _ _ | refine Below.drew ?_ | refine below_drewN ?_ _ | refine Below.alloc ?_ (by first | exact Nat.le_refl _ | (simp; done) | (simp; omega) | omega) _ | refine Below.setCell ?_ (by first | exact Nat.le_refl _ | (simp; done) | (simp; omega) | omega) _ | refine bExtW ?_ (by first | exact Nat.le_refl _ | (simp; done) | (simp; omega) | omega) | refine Below.trans ?_ (Below.mono (by assumption) (by first | exact Nat.le_refl _ | (simp; done) | (simp; omega) | omega)))))).mono ?_
  rintro r w3 ⟨⟨A3, C3, rfl, hI3⟩, hb3⟩
  have hbw3 : Below w.heap.size w w3 := Below.trans (by repeat (first | exact Below.refl _ _ | refine Below.drew ?_ | refine below_drewN ?_ _ | refine Below.alloc ?_ (by first | exact Nat.le_refl _ | (simp; done) | (simp; omega) | omega) _ | refine Below.setCell ?_ (by first | exact Nat.le_refl _ | (simp; done) | (simp; omega) | omega) _ | refine bExtW ?_ (by first | exact Nat.le_refl _ | (simp; done) | (simp; omega) | omega) | refine Below.trans ?_ (Below.mono (by assumption) (by first | exact Nat.le_refl _ | (simp; done) | (simp; omega) | omega)))) (hb3.mono (by simp; omega))
  have HB3 := Lib.hid hbw3
  have HI3 := Lib.hid hI3
  have hsz3 := hbw3.size
  clear hI3 hb3 hbw3
  go_wp2_with fail
  refine (HK2.out _).mono ?_
  rintro r w4 ⟨⟨A4, C4, rfl, hI4⟩, hb4⟩
  obtain ⟨E4, d4, rfl⟩ := bExt hb4
  have HI4 := Lib.hid hI4
  clear hI4 hb4
  have b5 : (fe == fe) = true := by simp
  have b6 : (fp == fp) = true := by simp
  go_wp2_with fail
  refine (sameC_self G X Y m A3 C3 A4 C4 L _ (HI3.out.below (by repeat (first | exact Below.refl _ _ | refine Below.drew ?_ | refine below_drewN ?_ _ | refine Below.alloc ?_ (by first | exact Nat.le_refl _ | (simp; done) | (simp; omega) | omega) _ | refine Below.setCell ?_ (by first | exact Nat.le_refl _ | (simp; done) | (simp; omega) | omega) _ | refine bExtW ?_ (by first | exact Nat.le_refl _ | (simp; done) | (simp; omega) | omega) | refine Below.trans ?_ (Below.mono (by assumption) (by first | exact Nat.le_refl _ | (simp; done) | (simp; omega) | omega))))) (HI4.out.below (by repeat (first | exact Below.refl _ _ | refine Below.drew ?_ | refine below_drewN ?_ _ | refine Below.alloc ?_ (by first | exact Nat.le_refl _ | (simp; done) | (simp; omega) | omega) _ | refine Below.setCell ?_ (by first | exact Nat.le_refl _ | (simp; done) | (simp; omega) | omega) _ | refine bExtW ?_ (by first | exact Nat.le_refl _ | (simp; done) | (simp; omega) | omega) | refine Below.trans ?_ (Below.mono (by assumption) (by first | exact Nat.le_refl _ | (simp; done) | (simp; omega) | omega))))) hm).mono ?_
  rintro r w5 ⟨rfl, hb⟩
  obtain ⟨E, d, rfl⟩ := bExt hb
  clear hb
  have hbw3 := HB3.out
  go_wp2
  go_ret
  exact ⟨rfl, (by repeat (first | exact Below.refl _ _ | refine Below.drew ?_ | refine below_drewN ?_ _ | refine Below.alloc ?_ (by first | exact Nat.le_refl _ | (simp; done) | (simp; omega) | omega) _ | refine Below.setCell ?_ (by first | exact Nat.le_refl _ | (simp; done) | (simp; omega) | omega) _ | refine bExtW ?_ (by first | exact Nat.le_refl _ | (simp; done) | (simp; omega) | omega) | refine Below.trans ?_ (Below.mono (by assumption) (by first | exact Nat.le_refl _ | (simp; done) | (simp; omega) | omega))))⟩
end Go.Proofs.YtikdnpkcknocaaaDoor
