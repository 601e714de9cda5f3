/- Lemmas and contracts of functions (what each call returns, and that it changes nothing that was there) that the proof of a law of this seat uses; each lemma states its own conditions. -/
import Derived.Test.YticplgjpflaelaaEf13
namespace Go.Proofs.Yticplgjpflaelaa
open Go.RowKit
set_option linter.unusedVariables false
set_option linter.unusedSimpArgs false
open Ef
set_option maxRecDepth 100000 in
set_option maxHeartbeats 8000000 in
theorem rSh_e1 (ea : Option Addr) (en ec : Nat) (es : List Int) (pa : Option Addr) (pn pc : Nat) (ps : List Int) (W H : Int) (a : Option Addr) (n c : Nat) (w : World) (hS : SArg ea en ec es pa pn pc ps w) (he : en ≤ 9223372036854775807) (hp : pn ≤ 9223372036854775807) (z1 : ea = none → ec = 0) (z2 : pa = none → pc = 0) (hne : stE en pn es ps ≠ 0) :
    Calls Try.prog 31 #[.agg #[.slice ea en ec, .slice pa pn pc], .agg #[.int .i64 (W), .int .i64 (H), .slice a n c]] w (ChPost 0 0 0 0 [] (stE en pn es ps) w) := by
  have hb : (stE en pn es ps != 0) = true := by simpa using hne
  have HW := Lib.hid (fun w (h : SArg ea en ec es pa pn pc ps w) => r19Wrong_any ea en ec es pa pn pc ps w h he hp)
  have HS := Lib.hid hS
  clear hne hS
  generalize stE en pn es ps = q at *
  go_enter Try.func31, Try.ntmps31
  (go_wp2_with fail; refine (HW.out _ (HS.out.below (by repeat (first | exact Below.refl _ _ | refine Below.drew ?_ | refine below_drewN ?_ _ | refine Below.alloc ?_ (by first | exact Nat.le_refl _ | (simp; done) | (simp; omega) | omega) _ | refine Below.setCell ?_ (by first | exact Nat.le_refl _ | (simp; done) | (simp; omega) | omega) _ | refine bExtW ?_ (by first | exact Nat.le_refl _ | (simp; done) | (simp; omega) | omega) | refine Below.trans ?_ (Below.mono (by assumption) (by first | exact Nat.le_refl _ | (simp; done) | (simp; omega) | omega)))))).mono ?_; rintro r w1 ⟨rfl, hb⟩; obtain ⟨E, d, rfl⟩ := bExt hb; clear hb)
  go_wp2
  refine bodyPost_ret (v := .tuple #[.agg #[.int .i64 (0), .int .i64 (0), .int .i64 (0), .slice none 0 0], .int .i64 (q)]) (by simp [results, Try.results31, go_sem]) rfl ?_
  exact ⟨none, 0, rfl, ⟨rfl, fun h => by omega⟩, fun _ => rfl, (by repeat (first | exact Below.refl _ _ | refine Below.drew ?_ | refine below_drewN ?_ _ | refine Below.alloc ?_ (by first | exact Nat.le_refl _ | (simp; done) | (simp; omega) | omega) _ | refine Below.setCell ?_ (by first | exact Nat.le_refl _ | (simp; done) | (simp; omega) | omega) _ | refine bExtW ?_ (by first | exact Nat.le_refl _ | (simp; done) | (simp; omega) | omega) | refine Below.trans ?_ (Below.mono (by assumption) (by first | exact Nat.le_refl _ | (simp; done) | (simp; omega) | omega))))⟩
set_option maxRecDepth 100000 in
set_option maxHeartbeats 8000000 in
theorem rSh_e2 (ea : Option Addr) (en ec : Nat) (es : List Int) (pa : Option Addr) (pn pc : Nat) (ps : List Int) (W H : Int) (a : Option Addr) (n c : Nat) (w : World) (hS : SArg ea en ec es pa pn pc ps w) (he : en ≤ 9223372036854775807) (hp : pn ≤ 9223372036854775807) (z1 : ea = none → ec = 0) (z2 : pa = none → pc = 0) (h0 : stE en pn es ps = 0) (h1 : (-9223372036854775808 ≤ W ∧ W ≤ 9223372036854775807)) (h2 : (-9223372036854775808 ≤ H ∧ H ≤ 9223372036854775807)) (h3 : n ≤ 9223372036854775807) (hne : wrT W H n ≠ 0) :
    Calls Try.prog 31 #[.agg #[.slice ea en ec, .slice pa pn pc], .agg #[.int .i64 (W), .int .i64 (H), .slice a n c]] w (ChPost 0 0 0 0 [] (wrT W H n) w) := by
  have hb : (wrT W H n != 0) = true := by simpa using hne
  have HW := Lib.hid (fun w (h : SArg ea en ec es pa pn pc ps w) => r19Wrong_any ea en ec es pa pn pc ps w h he hp)
  have HT := Lib.hid (fun w => r5Wrong_any W H a n c w h1 h2 h3)
  rw [h0] at HW
  have HS := Lib.hid hS
  clear hne hS h0
  generalize wrT W H n = q at *
  go_enter Try.func31, Try.ntmps31
  (go_wp2_with fail; refine (HW.out _ (HS.out.below (by repeat (first | exact Below.refl _ _ | refine Below.drew ?_ | refine below_drewN ?_ _ | refine Below.alloc ?_ (by first | exact Nat.le_refl _ | (simp; done) | (simp; omega) | omega) _ | refine Below.setCell ?_ (by first | exact Nat.le_refl _ | (simp; done) | (simp; omega) | omega) _ | refine bExtW ?_ (by first | exact Nat.le_refl _ | (simp; done) | (simp; omega) | omega) | refine Below.trans ?_ (Below.mono (by assumption) (by first | exact Nat.le_refl _ | (simp; done) | (simp; omega) | omega)))))).mono ?_; rintro r w1 ⟨rfl, hb⟩; obtain ⟨E, d, rfl⟩ := bExt hb; clear hb)
  (go_wp2_with fail; refine (HT.out _).mono ?_; rintro r w1 ⟨rfl, hb⟩; obtain ⟨E, d, rfl⟩ := bExt hb; clear hb)
  go_wp2
  refine bodyPost_ret (v := .tuple #[.agg #[.int .i64 (0), .int .i64 (0), .int .i64 (0), .slice none 0 0], .int .i64 (q)]) (by simp [results, Try.results31, go_sem]) rfl ?_
  exact ⟨none, 0, rfl, ⟨rfl, fun h => by omega⟩, fun _ => rfl, (by repeat (first | exact Below.refl _ _ | refine Below.drew ?_ | refine below_drewN ?_ _ | refine Below.alloc ?_ (by first | exact Nat.le_refl _ | (simp; done) | (simp; omega) | omega) _ | refine Below.setCell ?_ (by first | exact Nat.le_refl _ | (simp; done) | (simp; omega) | omega) _ | refine bExtW ?_ (by first | exact Nat.le_refl _ | (simp; done) | (simp; omega) | omega) | refine Below.trans ?_ (Below.mono (by assumption) (by first | exact Nat.le_refl _ | (simp; done) | (simp; omega) | omega))))⟩
set_option maxRecDepth 100000 in
set_option maxHeartbeats 8000000 in
theorem rSh_e3 (ea : Option Addr) (en ec : Nat) (es : List Int) (pa : Option Addr) (pn pc : Nat) (ps : List Int) (W H : Nat) (a : Option Addr) (n c : Nat) (w : World) (hS : SArg ea en ec es pa pn pc ps w) (he : en ≤ 9223372036854775807) (hp : pn ≤ 9223372036854775807) (z1 : ea = none → ec = 0) (z2 : pa = none → pc = 0) (h0 : stE en pn es ps = 0) (h1 : W ≤ 64) (h2 : H ≤ 64) (hn : n = W * H) (hne : W ≠ en ∨ H ≠ pn) :
    Calls Try.prog 31 #[.agg #[.slice ea en ec, .slice pa pn pc], .agg #[.int .i64 (W), .int .i64 (H), .slice a n c]] w (ChPost 0 0 0 0 [] 8 w) := by
  have hn4 : n ≤ 4096 := by rw [hn]; exact mul64n h1 h2
  have HW := Lib.hid (fun w (h : SArg ea en ec es pa pn pc ps w) => r19Wrong_any ea en ec es pa pn pc ps w h he hp)
  have HT := Lib.hid (fun w => r5Wrong_any W H a n c w (by omega) (by omega) (by omega))
  rw [hn, wrT_ok h1 h2] at HT
  rw [← hn] at HT
  rw [h0] at HW
  have HS := Lib.hid hS
  by_cases hw : W = en
  · have b1 : ((W : Int) != (en : Int)) = false := by simp; omega
    have b2 : (W != en) = false := by simp; omega
    have b3 : ((H : Int) != (pn : Int)) = true := by simp; omega
    have b4 : (H != pn) = true := by simp; omega
    clear hne hS h0 hn hw
    go_enter Try.func31, Try.ntmps31
    (go_wp2_with fail; refine (HW.out _ (HS.out.below (by repeat (first | exact Below.refl _ _ | refine Below.drew ?_ | refine below_drewN ?_ _ | refine Below.alloc ?_ (by first | exact Nat.le_refl _ | (simp; done) | (simp; omega) | omega) _ | refine Below.setCell ?_ (by first | exact Nat.le_refl _ | (simp; done) | (simp; omega) | omega) _ | refine bExtW ?_ (by first | exact Nat.le_refl _ | (simp; done) | (simp; omega) | omega) | refine Below.trans ?_ (Below.mono (by assumption) (by first | exact Nat.le_refl _ | (simp; done) | (simp; omega) | omega)))))).mono ?_; rintro r w1 ⟨rfl, hb⟩; obtain ⟨E, d, rfl⟩ := bExt hb; clear hb)
    (go_wp2_with fail; refine (HT.out _).mono ?_; rintro r w1 ⟨rfl, hb⟩; obtain ⟨E, d, rfl⟩ := bExt hb; clear hb)
    go_wp2
    refine bodyPost_ret (v := .tuple #[.agg #[.int .i64 (0), .int .i64 (0), .int .i64 (0), .slice none 0 0], .int .i64 (8)]) (by simp [results, Try.results31, go_sem]) rfl ?_
    exact ⟨none, 0, rfl, ⟨rfl, fun h => by omega⟩, fun _ => rfl, (by repeat (first | exact Below.refl _ _ | refine Below.drew ?_ | refine below_drewN ?_ _ | refine Below.alloc ?_ (by first | exact Nat.le_refl _ | (simp; done) | (simp; omega) | omega) _ | refine Below.setCell ?_ (by first | exact Nat.le_refl _ | (simp; done) | (simp; omega) | omega) _ | refine bExtW ?_ (by first | exact Nat.le_refl _ | (simp; done) | (simp; omega) | omega) | refine Below.trans ?_ (Below.mono (by assumption) (by first | exact Nat.le_refl _ | (simp; done) | (simp; omega) | omega))))⟩
  · have b1 : ((W : Int) != (en : Int)) = true := by simp; omega
    have b2 : (W != en) = true := by simp; omega
    clear hne hS h0 hn hw
    go_enter Try.func31, Try.ntmps31
    (go_wp2_with fail; refine (HW.out _ (HS.out.below (by repeat (first | exact Below.refl _ _ | refine Below.drew ?_ | refine below_drewN ?_ _ | refine Below.alloc ?_ (by first | exact Nat.le_refl _ | (simp; done) | (simp; omega) | omega) _ | refine Below.setCell ?_ (by first | exact Nat.le_refl _ | (simp; done) | (simp; omega) | omega) _ | refine bExtW ?_ (by first | exact Nat.le_refl _ | (simp; done) | (simp; omega) | omega) | refine Below.trans ?_ (Below.mono (by assumption) (by first | exact Nat.le_refl _ | (simp; done) | (simp; omega) | omega)))))).mono ?_; rintro r w1 ⟨rfl, hb⟩; obtain ⟨E, d, rfl⟩ := bExt hb; clear hb)
    (go_wp2_with fail; refine (HT.out _).mono ?_; rintro r w1 ⟨rfl, hb⟩; obtain ⟨E, d, rfl⟩ := bExt hb; clear hb)
    go_wp2
    refine bodyPost_ret (v := .tuple #[.agg #[.int .i64 (0), .int .i64 (0), .int .i64 (0), .slice none 0 0], .int .i64 (8)]) (by simp [results, Try.results31, go_sem]) rfl ?_
    exact ⟨none, 0, rfl, ⟨rfl, fun h => by omega⟩, fun _ => rfl, (by repeat (first | exact Below.refl _ _ | refine Below.drew ?_ | refine below_drewN ?_ _ | refine Below.alloc ?_ (by first | exact Nat.le_refl _ | (simp; done) | (simp; omega) | omega) _ | refine Below.setCell ?_ (by first | exact Nat.le_refl _ | (simp; done) | (simp; omega) | omega) _ | refine bExtW ?_ (by first | exact Nat.le_refl _ | (simp; done) | (simp; omega) | omega) | refine Below.trans ?_ (Below.mono (by assumption) (by first | exact Nat.le_refl _ | (simp; done) | (simp; omega) | omega))))⟩
set_option maxRecDepth 100000 in
set_option maxHeartbeats 8000000 in
theorem rCl_e1 (ea : Option Addr) (en ec : Nat) (es : List Int) (pa : Option Addr) (pn pc : Nat) (ps : List Int) (G W H : Int) (a : Option Addr) (n c : Nat) (cs : List Int) (w : World) (hS : SArg ea en ec es pa pn pc ps w) (hI : IsInts w a n cs) (he : en ≤ 9223372036854775807) (hp : pn ≤ 9223372036854775807) (z1 : ea = none → ec = 0) (z2 : pa = none → pc = 0) (hne : stE en pn es ps ≠ 0) :
    Calls Try.prog 35 #[.agg #[.slice ea en ec, .slice pa pn pc], .agg #[.int .i64 (G), .int .i64 (W), .int .i64 (H), .slice a n c]] w (TrPost 0 0 0 [] (stE en pn es ps) w) := by
  have HW := Lib.hid (fun w (h : SArg ea en ec es pa pn pc ps w) => r19Wrong_any ea en ec es pa pn pc ps w h he hp)
  have hb : (stE en pn es ps != 0) = true := by simpa using hne
  have HS := Lib.hid hS; have HI := Lib.hid hI
  clear hne hS hI
  generalize stE en pn es ps = q at *
  go_enter Try.func35, Try.ntmps35
  (go_wp2_with fail; refine (HW.out _ (HS.out.below (by repeat (first | exact Below.refl _ _ | refine Below.drew ?_ | refine below_drewN ?_ _ | refine Below.alloc ?_ (by first | exact Nat.le_refl _ | (simp; done) | (simp; omega) | omega) _ | refine Below.setCell ?_ (by first | exact Nat.le_refl _ | (simp; done) | (simp; omega) | omega) _ | refine bExtW ?_ (by first | exact Nat.le_refl _ | (simp; done) | (simp; omega) | omega) | refine Below.trans ?_ (Below.mono (by assumption) (by first | exact Nat.le_refl _ | (simp; done) | (simp; omega) | omega)))))).mono ?_; rintro r w1 ⟨rfl, hb⟩; obtain ⟨E, d, rfl⟩ := bExt hb; clear hb)
  go_wp2
  refine bodyPost_ret (v := .tuple #[.agg #[.int .i64 0, .int .i64 0, .slice none 0 0], .int .i64 (q)]) (by simp [results, Try.results35, go_sem]) rfl ?_
  exact ⟨none, 0, rfl, okT_none _, (by repeat (first | exact Below.refl _ _ | refine Below.drew ?_ | refine below_drewN ?_ _ | refine Below.alloc ?_ (by first | exact Nat.le_refl _ | (simp; done) | (simp; omega) | omega) _ | refine Below.setCell ?_ (by first | exact Nat.le_refl _ | (simp; done) | (simp; omega) | omega) _ | refine bExtW ?_ (by first | exact Nat.le_refl _ | (simp; done) | (simp; omega) | omega) | refine Below.trans ?_ (Below.mono (by assumption) (by first | exact Nat.le_refl _ | (simp; done) | (simp; omega) | omega))))⟩
set_option maxRecDepth 100000 in
set_option maxHeartbeats 8000000 in
theorem rCl_e2 (ea : Option Addr) (en ec : Nat) (es : List Int) (pa : Option Addr) (pn pc : Nat) (ps : List Int) (G W H : Int) (a : Option Addr) (n c : Nat) (cs : List Int) (w : World) (hS : SArg ea en ec es pa pn pc ps w) (hI : IsInts w a n cs) (he : en ≤ 9223372036854775807) (hp : pn ≤ 9223372036854775807) (z1 : ea = none → ec = 0) (z2 : pa = none → pc = 0) (h0 : (-9223372036854775808 ≤ G ∧ G ≤ 9223372036854775807)) (h1 : (-9223372036854775808 ≤ W ∧ W ≤ 9223372036854775807)) (h2 : (-9223372036854775808 ≤ H ∧ H ≤ 9223372036854775807)) (h3 : n ≤ 9223372036854775807) (hs0 : stE en pn es ps = 0) (hne : chE G W H n cs ≠ 0) :
    Calls Try.prog 35 #[.agg #[.slice ea en ec, .slice pa pn pc], .agg #[.int .i64 (G), .int .i64 (W), .int .i64 (H), .slice a n c]] w (TrPost 0 0 0 [] (chE G W H n cs) w) := by
  have HW := Lib.hid (fun w (h : SArg ea en ec es pa pn pc ps w) => r19Wrong_any ea en ec es pa pn pc ps w h he hp)
  have hb : (chE G W H n cs != 0) = true := by simpa using hne
  have HC := Lib.hid (fun w h => r2Wrong_any G W H a n c cs w h h0 h1 h2 h3)
  rw [hs0] at HW
  have HS := Lib.hid hS; have HI := Lib.hid hI
  clear hne hS hI hs0
  generalize chE G W H n cs = q at *
  go_enter Try.func35, Try.ntmps35
  (go_wp2_with fail; refine (HW.out _ (HS.out.below (by repeat (first | exact Below.refl _ _ | refine Below.drew ?_ | refine below_drewN ?_ _ | refine Below.alloc ?_ (by first | exact Nat.le_refl _ | (simp; done) | (simp; omega) | omega) _ | refine Below.setCell ?_ (by first | exact Nat.le_refl _ | (simp; done) | (simp; omega) | omega) _ | refine bExtW ?_ (by first | exact Nat.le_refl _ | (simp; done) | (simp; omega) | omega) | refine Below.trans ?_ (Below.mono (by assumption) (by first | exact Nat.le_refl _ | (simp; done) | (simp; omega) | omega)))))).mono ?_; rintro r w1 ⟨rfl, hb⟩; obtain ⟨E, d, rfl⟩ := bExt hb; clear hb)
  (go_wp2_with fail; refine (HC.out _ (HI.out.below (by repeat (first | exact Below.refl _ _ | refine Below.drew ?_ | refine below_drewN ?_ _ | refine Below.alloc ?_ (by first | exact Nat.le_refl _ | (simp; done) | (simp; omega) | omega) _ | refine Below.setCell ?_ (by first | exact Nat.le_refl _ | (simp; done) | (simp; omega) | omega) _ | refine bExtW ?_ (by first | exact Nat.le_refl _ | (simp; done) | (simp; omega) | omega) | refine Below.trans ?_ (Below.mono (by assumption) (by first | exact Nat.le_refl _ | (simp; done) | (simp; omega) | omega)))))).mono ?_; rintro r w1 ⟨rfl, hb⟩; obtain ⟨E, d, rfl⟩ := bExt hb; clear hb)
  go_wp2
  refine bodyPost_ret (v := .tuple #[.agg #[.int .i64 0, .int .i64 0, .slice none 0 0], .int .i64 (q)]) (by simp [results, Try.results35, go_sem]) rfl ?_
  exact ⟨none, 0, rfl, okT_none _, (by repeat (first | exact Below.refl _ _ | refine Below.drew ?_ | refine below_drewN ?_ _ | refine Below.alloc ?_ (by first | exact Nat.le_refl _ | (simp; done) | (simp; omega) | omega) _ | refine Below.setCell ?_ (by first | exact Nat.le_refl _ | (simp; done) | (simp; omega) | omega) _ | refine bExtW ?_ (by first | exact Nat.le_refl _ | (simp; done) | (simp; omega) | omega) | refine Below.trans ?_ (Below.mono (by assumption) (by first | exact Nat.le_refl _ | (simp; done) | (simp; omega) | omega))))⟩
set_option maxRecDepth 100000 in
set_option maxHeartbeats 8000000 in
theorem rCl_e3 (ea : Option Addr) (en ec : Nat) (es : List Int) (pa : Option Addr) (pn pc : Nat) (ps : List Int) (G W H : Int) (a : Option Addr) (n c : Nat) (cs : List Int) (w : World) (hS : SArg ea en ec es pa pn pc ps w) (hI : IsInts w a n cs) (he : en ≤ 9223372036854775807) (hp : pn ≤ 9223372036854775807) (z1 : ea = none → ec = 0) (z2 : pa = none → pc = 0) (h0 : (-9223372036854775808 ≤ G ∧ G ≤ 9223372036854775807)) (h1 : (-9223372036854775808 ≤ W ∧ W ≤ 9223372036854775807)) (h2 : (-9223372036854775808 ≤ H ∧ H ≤ 9223372036854775807)) (h3 : n ≤ 9223372036854775807) (hs0 : stE en pn es ps = 0) (hc0 : chE G W H n cs = 0) (hne : G ≠ 4) :
    Calls Try.prog 35 #[.agg #[.slice ea en ec, .slice pa pn pc], .agg #[.int .i64 (G), .int .i64 (W), .int .i64 (H), .slice a n c]] w (TrPost 0 0 0 [] (8) w) := by
  have HW := Lib.hid (fun w (h : SArg ea en ec es pa pn pc ps w) => r19Wrong_any ea en ec es pa pn pc ps w h he hp)
  have b1 : (G != 4) = true := by simpa using hne
  have HC := Lib.hid (fun w h => r2Wrong_any G W H a n c cs w h h0 h1 h2 h3)
  rw [hs0] at HW
  rw [hc0] at HC
  have HS := Lib.hid hS; have HI := Lib.hid hI
  clear hne hS hI hs0 hc0
  go_enter Try.func35, Try.ntmps35
  (go_wp2_with fail; refine (HW.out _ (HS.out.below (by repeat (first | exact Below.refl _ _ | refine Below.drew ?_ | refine below_drewN ?_ _ | refine Below.alloc ?_ (by first | exact Nat.le_refl _ | (simp; done) | (simp; omega) | omega) _ | refine Below.setCell ?_ (by first | exact Nat.le_refl _ | (simp; done) | (simp; omega) | omega) _ | refine bExtW ?_ (by first | exact Nat.le_refl _ | (simp; done) | (simp; omega) | omega) | refine Below.trans ?_ (Below.mono (by assumption) (by first | exact Nat.le_refl _ | (simp; done) | (simp; omega) | omega)))))).mono ?_; rintro r w1 ⟨rfl, hb⟩; obtain ⟨E, d, rfl⟩ := bExt hb; clear hb)
  (go_wp2_with fail; refine (HC.out _ (HI.out.below (by repeat (first | exact Below.refl _ _ | refine Below.drew ?_ | refine below_drewN ?_ _ | refine Below.alloc ?_ (by first | exact Nat.le_refl _ | (simp; done) | (simp; omega) | omega) _ | refine Below.setCell ?_ (by first | exact Nat.le_refl _ | (simp; done) | (simp; omega) | omega) _ | refine bExtW ?_ (by first | exact Nat.le_refl _ | (simp; done) | (simp; omega) | omega) | refine Below.trans ?_ (Below.mono (by assumption) (by first | exact Nat.le_refl _ | (simp; done) | (simp; omega) | omega)))))).mono ?_; rintro r w1 ⟨rfl, hb⟩; obtain ⟨E, d, rfl⟩ := bExt hb; clear hb)
  go_wp2
  refine bodyPost_ret (v := .tuple #[.agg #[.int .i64 0, .int .i64 0, .slice none 0 0], .int .i64 (8)]) (by simp [results, Try.results35, go_sem]) rfl ?_
  exact ⟨none, 0, rfl, okT_none _, (by repeat (first | exact Below.refl _ _ | refine Below.drew ?_ | refine below_drewN ?_ _ | refine Below.alloc ?_ (by first | exact Nat.le_refl _ | (simp; done) | (simp; omega) | omega) _ | refine Below.setCell ?_ (by first | exact Nat.le_refl _ | (simp; done) | (simp; omega) | omega) _ | refine bExtW ?_ (by first | exact Nat.le_refl _ | (simp; done) | (simp; omega) | omega) | refine Below.trans ?_ (Below.mono (by assumption) (by first | exact Nat.le_refl _ | (simp; done) | (simp; omega) | omega))))⟩
set_option maxRecDepth 100000 in
set_option maxHeartbeats 8000000 in
theorem rCl_e4 (ea : Option Addr) (en ec : Nat) (es : List Int) (pa : Option Addr) (pn pc : Nat) (ps : List Int) (G W H : Int) (a : Option Addr) (n c : Nat) (cs : List Int) (w : World) (hS : SArg ea en ec es pa pn pc ps w) (hI : IsInts w a n cs) (he : en ≤ 9223372036854775807) (hp : pn ≤ 9223372036854775807) (z1 : ea = none → ec = 0) (z2 : pa = none → pc = 0) (h0 : (-9223372036854775808 ≤ G ∧ G ≤ 9223372036854775807)) (h1 : (-9223372036854775808 ≤ W ∧ W ≤ 9223372036854775807)) (h2 : (-9223372036854775808 ≤ H ∧ H ≤ 9223372036854775807)) (h3 : n ≤ 9223372036854775807) (hs0 : stE en pn es ps = 0) (hc0 : chE G W H n cs = 0) (hne : G = 4 ∧ W ≠ en) :
    Calls Try.prog 35 #[.agg #[.slice ea en ec, .slice pa pn pc], .agg #[.int .i64 (G), .int .i64 (W), .int .i64 (H), .slice a n c]] w (TrPost 0 0 0 [] (8) w) := by
  have HW := Lib.hid (fun w (h : SArg ea en ec es pa pn pc ps w) => r19Wrong_any ea en ec es pa pn pc ps w h he hp)
  have b1 : (G != 4) = false := by simpa using hne.1
  have b2 : (W != (en : Int)) = true := by simpa using hne.2
  have HC := Lib.hid (fun w h => r2Wrong_any G W H a n c cs w h h0 h1 h2 h3)
  rw [hs0] at HW
  rw [hc0] at HC
  have HS := Lib.hid hS; have HI := Lib.hid hI
  clear hne hS hI hs0 hc0
  go_enter Try.func35, Try.ntmps35
  (go_wp2_with fail; refine (HW.out _ (HS.out.below (by repeat (first | exact Below.refl _ _ | refine Below.drew ?_ | refine below_drewN ?_ _ | refine Below.alloc ?_ (by first | exact Nat.le_refl _ | (simp; done) | (simp; omega) | omega) _ | refine Below.setCell ?_ (by first | exact Nat.le_refl _ | (simp; done) | (simp; omega) | omega) _ | refine bExtW ?_ (by first | exact Nat.le_refl _ | (simp; done) | (simp; omega) | omega) | refine Below.trans ?_ (Below.mono (by assumption) (by first | exact Nat.le_refl _ | (simp; done) | (simp; omega) | omega)))))).mono ?_; rintro r w1 ⟨rfl, hb⟩; obtain ⟨E, d, rfl⟩ := bExt hb; clear hb)
  (go_wp2_with fail; refine (HC.out _ (HI.out.below (by repeat (first | exact Below.refl _ _ | refine Below.drew ?_ | refine below_drewN ?_ _ | refine Below.alloc ?_ (by first | exact Nat.le_refl _ | (simp; done) | (simp; omega) | omega) _ | refine Below.setCell ?_ (by first | exact Nat.le_refl _ | (simp; done) | (simp; omega) | omega) _ | refine bExtW ?_ (by first | exact Nat.le_refl _ | (simp; done) | (simp; omega) | omega) | refine Below.trans ?_ (Below.mono (by assumption) (by first | exact Nat.le_refl _ | (simp; done) | (simp; omega) | omega)))))).mono ?_; rintro r w1 ⟨rfl, hb⟩; obtain ⟨E, d, rfl⟩ := bExt hb; clear hb)
  go_wp2
  refine bodyPost_ret (v := .tuple #[.agg #[.int .i64 0, .int .i64 0, .slice none 0 0], .int .i64 (8)]) (by simp [results, Try.results35, go_sem]) rfl ?_
  exact ⟨none, 0, rfl, okT_none _, (by repeat (first | exact Below.refl _ _ | refine Below.drew ?_ | refine below_drewN ?_ _ | refine Below.alloc ?_ (by first | exact Nat.le_refl _ | (simp; done) | (simp; omega) | omega) _ | refine Below.setCell ?_ (by first | exact Nat.le_refl _ | (simp; done) | (simp; omega) | omega) _ | refine bExtW ?_ (by first | exact Nat.le_refl _ | (simp; done) | (simp; omega) | omega) | refine Below.trans ?_ (Below.mono (by assumption) (by first | exact Nat.le_refl _ | (simp; done) | (simp; omega) | omega))))⟩
set_option maxRecDepth 100000 in
set_option maxHeartbeats 8000000 in
theorem rCl_e5 (ea : Option Addr) (en ec : Nat) (es : List Int) (pa : Option Addr) (pn pc : Nat) (ps : List Int) (G W H : Int) (a : Option Addr) (n c : Nat) (cs : List Int) (w : World) (hS : SArg ea en ec es pa pn pc ps w) (hI : IsInts w a n cs) (he : en ≤ 9223372036854775807) (hp : pn ≤ 9223372036854775807) (z1 : ea = none → ec = 0) (z2 : pa = none → pc = 0) (h0 : (-9223372036854775808 ≤ G ∧ G ≤ 9223372036854775807)) (h1 : (-9223372036854775808 ≤ W ∧ W ≤ 9223372036854775807)) (h2 : (-9223372036854775808 ≤ H ∧ H ≤ 9223372036854775807)) (h3 : n ≤ 9223372036854775807) (hs0 : stE en pn es ps = 0) (hc0 : chE G W H n cs = 0) (hne : G = 4 ∧ W = en ∧ H ≠ pn) :
    Calls Try.prog 35 #[.agg #[.slice ea en ec, .slice pa pn pc], .agg #[.int .i64 (G), .int .i64 (W), .int .i64 (H), .slice a n c]] w (TrPost 0 0 0 [] (8) w) := by
  have HW := Lib.hid (fun w (h : SArg ea en ec es pa pn pc ps w) => r19Wrong_any ea en ec es pa pn pc ps w h he hp)
  have b1 : (G != 4) = false := by simpa using hne.1
  have b2 : (W != (en : Int)) = false := by simpa using hne.2.1
  have b3 : (H != (pn : Int)) = true := by simpa using hne.2.2
  have HC := Lib.hid (fun w h => r2Wrong_any G W H a n c cs w h h0 h1 h2 h3)
  rw [hs0] at HW
  rw [hc0] at HC
  have HS := Lib.hid hS; have HI := Lib.hid hI
  clear hne hS hI hs0 hc0
  go_enter Try.func35, Try.ntmps35
  (go_wp2_with fail; refine (HW.out _ (HS.out.below (by repeat (first | exact Below.refl _ _ | refine Below.drew ?_ | refine below_drewN ?_ _ | refine Below.alloc ?_ (by first | exact Nat.le_refl _ | (simp; done) | (simp; omega) | omega) _ | refine Below.setCell ?_ (by first | exact Nat.le_refl _ | (simp; done) | (simp; omega) | omega) _ | refine bExtW ?_ (by first | exact Nat.le_refl _ | (simp; done) | (simp; omega) | omega) | refine Below.trans ?_ (Below.mono (by assumption) (by first | exact Nat.le_refl _ | (simp; done) | (simp; omega) | omega)))))).mono ?_; rintro r w1 ⟨rfl, hb⟩; obtain ⟨E, d, rfl⟩ := bExt hb; clear hb)
  (go_wp2_with fail; refine (HC.out _ (HI.out.below (by repeat (first | exact Below.refl _ _ | refine Below.drew ?_ | refine below_drewN ?_ _ | refine Below.alloc ?_ (by first | exact Nat.le_refl _ | (simp; done) | (simp; omega) | omega) _ | refine Below.setCell ?_ (by first | exact Nat.le_refl _ | (simp; done) | (simp; omega) | omega) _ | refine bExtW ?_ (by first | exact Nat.le_refl _ | (simp; done) | (simp; omega) | omega) | refine Below.trans ?_ (Below.mono (by assumption) (by first | exact Nat.le_refl _ | (simp; done) | (simp; omega) | omega)))))).mono ?_; rintro r w1 ⟨rfl, hb⟩; obtain ⟨E, d, rfl⟩ := bExt hb; clear hb)
  go_wp2
  refine bodyPost_ret (v := .tuple #[.agg #[.int .i64 0, .int .i64 0, .slice none 0 0], .int .i64 (8)]) (by simp [results, Try.results35, go_sem]) rfl ?_
  exact ⟨none, 0, rfl, okT_none _, (by repeat (first | exact Below.refl _ _ | refine Below.drew ?_ | refine below_drewN ?_ _ | refine Below.alloc ?_ (by first | exact Nat.le_refl _ | (simp; done) | (simp; omega) | omega) _ | refine Below.setCell ?_ (by first | exact Nat.le_refl _ | (simp; done) | (simp; omega) | omega) _ | refine bExtW ?_ (by first | exact Nat.le_refl _ | (simp; done) | (simp; omega) | omega) | refine Below.trans ?_ (Below.mono (by assumption) (by first | exact Nat.le_refl _ | (simp; done) | (simp; omega) | omega))))⟩
end Go.Proofs.Yticplgjpflaelaa
