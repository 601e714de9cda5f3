/- Lemmas and contracts of functions (what each call returns, and that it changes nothing that was there) that the proof of a law of this seat uses; each lemma states its own conditions. -/
import Derived.Test.YticplgjpflaelaaEf16
import Derived.Test.YticplgjpflaelaaEf9
namespace Go.Proofs.Yticplgjpflaelaa
open Go.RowKit
set_option linter.unusedVariables false
set_option linter.unusedSimpArgs false
open Ef
/-- Both tell the same of what is shown. -/
theorem ShU (ea : Option Addr) (en ec : Nat) (es : List Int) (pa : Option Addr) (pn pc : Nat) (ps : List Int) (MW MH : Int) (ma : Option Addr) (mn mc : Nat) (mb : List Bool) (he : en ≤ 9223372036854775807) (hp : pn ≤ 9223372036854775807) (z1 : ea = none → ec = 0) (z2 : pa = none → pc = 0) (h1 : (-9223372036854775808 ≤ MW ∧ MW ≤ 9223372036854775807)) (h2 : (-9223372036854775808 ≤ MH ∧ MH ≤ 9223372036854775807)) (h3 : mn ≤ 9223372036854775807) :
    ∃ (G W H : Int) (n : Nat) (L : List Int) (e : Int), n ≤ 9223372036854775807 ∧ (∀ w, SArg ea en ec es pa pn pc ps w → OkT w ma mn mc mb → Calls Try.prog 30 #[.agg #[.slice ea en ec, .slice pa pn pc], .agg #[.int .i64 (MW), .int .i64 (MH), .slice ma mn mc]] w (ChPost G W H n L e w)) ∧ (∀ w, SArg ea en ec es pa pn pc ps w → OkT w ma mn mc mb → Calls Try.prog 31 #[.agg #[.slice ea en ec, .slice pa pn pc], .agg #[.int .i64 (MW), .int .i64 (MH), .slice ma mn mc]] w (ChPost G W H n L e w)) := by
  by_cases hs : stE en pn es ps = 0
  · by_cases hw : wrT MW MH mn = 0
    · obtain ⟨W, H, rfl, rfl, hW, hH, hn⟩ := wrT_zero hw
      by_cases hf : W ≠ en ∨ H ≠ pn
      · exact ⟨0, 0, 0, 0, [], 8, by omega, fun w hS _ => eSh_e3 ea en ec es pa pn pc ps W H ma mn mc w hS he hp z1 z2 hs hW hH hn hf, fun w hS _ => rSh_e3 ea en ec es pa pn pc ps W H ma mn mc w hS he hp z1 z2 hs hW hH hn hf⟩
      · have hWe : W = en := by omega
        have hHp : H = pn := by omega
        subst hWe hHp
        exact ⟨4, W, H, mn, _, 0, h3, fun w hS hM => eSh_ok W H ea ec es pa pc ps ma mn mc mb w hS z1 z2 hs hM hW hH hn, fun w hS hM => rSh_ok W H ea ec es pa pc ps ma mn mc mb w hS z1 z2 hs hM hW hH hn⟩
    · exact ⟨0, 0, 0, 0, [], _, by omega, fun w hS _ => eSh_e2 ea en ec es pa pn pc ps MW MH ma mn mc w hS he hp z1 z2 hs h1 h2 h3 hw, fun w hS _ => rSh_e2 ea en ec es pa pn pc ps MW MH ma mn mc w hS he hp z1 z2 hs h1 h2 h3 hw⟩
  · exact ⟨0, 0, 0, 0, [], _, by omega, fun w hS _ => eSh_e1 ea en ec es pa pn pc ps MW MH ma mn mc w hS he hp z1 z2 hs, fun w hS _ => rSh_e1 ea en ec es pa pn pc ps MW MH ma mn mc w hS he hp z1 z2 hs⟩
def StP (W H : Nat) (E P : List Int) (e : Int) (w : World) (r : Ending) (w' : World) : Prop := ∃ A C B D, r = .returned (.tuple #[.agg #[.slice A W C, .slice B H D], .int .i64 (e)]) ∧ SArg A W C E B H D P w' ∧ Below w.heap.size w w'
theorem stP_bad {e : Int} {w : World} {r : Ending} {w' : World} (h : r = .returned (.tuple #[.agg #[.slice none 0 0, .slice none 0 0], .int .i64 (e)]) ∧ Below w.heap.size w w') : StP 0 0 [] [] e w r w' :=
  ⟨none, 0, none, 0, h.1, ⟨⟨rfl, fun h => by omega⟩, ⟨rfl, fun h => by omega⟩⟩, h.2⟩
theorem StU (G W H : Int) (a : Option Addr) (n c : Nat) (cs : List Int) (hel : cs.length = n) (h0 : (-9223372036854775808 ≤ G ∧ G ≤ 9223372036854775807)) (h1 : (-9223372036854775808 ≤ W ∧ W ≤ 9223372036854775807)) (h2 : (-9223372036854775808 ≤ H ∧ H ≤ 9223372036854775807)) (cn : n ≤ 9223372036854775807) :
    ∃ (W' H' : Nat) (E P : List Int) (e : Int), W' ≤ 64 ∧ H' ≤ 64 ∧ (∀ w, IsInts w a n cs → Calls Try.prog 28 #[.agg #[.int .i64 (G), .int .i64 (W), .int .i64 (H), .slice a n c]] w (StP W' H' E P e w)) ∧ (∀ w, IsInts w a n cs → Calls Try.prog 33 #[.agg #[.int .i64 (G), .int .i64 (W), .int .i64 (H), .slice a n c]] w (StP W' H' E P e w)) := by
  by_cases hg : chE G W H n cs = 0
  · obtain ⟨hG, W', H', rfl, rfl, w1, w2, v1, v2, hn, hCR⟩ := chE_zero hg
    rcases hG with rfl | rfl
    · have key : ∀ {r : Ending} {w w' : World}, StrPostE W' H' (W' + H') cs w r w' → Stuck W' cs (W' + H') → StP 0 0 [] [] 6 w r w' := by
        rintro r w w' ⟨h1 | ⟨p, A, C, B, D, hp, _⟩, h2⟩ hst
        · exact stP_bad ⟨h1.2, h2⟩
        · exact absurd hst hp.not_stuck
      by_cases hst : Stuck W' cs (W' + H')
      · exact ⟨0, 0, [], [], 6, by omega, by omega, fun w h => (eStr_ok W' H' n a c cs w h w2 v2 w1 v1 hn hCR).mono fun r w' h => key h hst, fun w h => (rStr_ok W' H' n a c cs w h w2 v2 w1 v1 hn hCR).mono fun r w' h => key h hst⟩
      · by_cases hex : ∃ p, Str W' cs (W' + H') (W' + H') p
        · obtain ⟨p, hp⟩ := hex
          have key2 : ∀ {r : Ending} {w w' : World}, StrPostE W' H' (W' + H') cs w r w' → StP W' H' (p.take W') (p.drop W') 0 w r w' := by
            rintro r w w' ⟨h1 | ⟨p2, A, C, B, D, hp2, h3, h4, h5⟩, h2⟩
            · exact absurd h1.1 hst
            · have := hp.det hp2
              subst this
              exact ⟨A, C, B, D, h3, ⟨h4, h5⟩, h2⟩
          exact ⟨W', H', _, _, 0, w2, v2, fun w h => (eStr_ok W' H' n a c cs w h w2 v2 w1 v1 hn hCR).mono fun r w' h => key2 h, fun w h => (rStr_ok W' H' n a c cs w h w2 v2 w1 v1 hn hCR).mono fun r w' h => key2 h⟩
        · have key3 : ∀ {r : Ending} {w w' : World}, StrPostE W' H' (W' + H') cs w r w' → StP 0 0 [] [] 6 w r w' := by
            rintro r w w' ⟨h1 | ⟨p2, A, C, B, D, hp2, _⟩, h2⟩
            · exact absurd h1.1 hst
            · exact absurd ⟨p2, hp2⟩ hex
          exact ⟨0, 0, [], [], 6, by omega, by omega, fun w h => (eStr_ok W' H' n a c cs w h w2 v2 w1 v1 hn hCR).mono fun r w' h => key3 h, fun w h => (rStr_ok W' H' n a c cs w h w2 v2 w1 v1 hn hCR).mono fun r w' h => key3 h⟩
    · exact ⟨0, 0, [], [], 8, by omega, by omega, fun w h => (eStr_hex W' H' a n c cs w h (by omega) (by omega) cn hg).mono fun r w' h => stP_bad h, fun w h => (rStr_hex W' H' a n c cs w h (by omega) (by omega) cn hg).mono fun r w' h => stP_bad h⟩
  · exact ⟨0, 0, [], [], _, by omega, by omega, fun w h => (eStr_bad G W H a n c cs w h h0 h1 h2 cn hg).mono fun r w' h => stP_bad h, fun w h => (rStr_bad G W H a n c cs w h h0 h1 h2 cn hg).mono fun r w' h => stP_bad h⟩
theorem ClU (ea : Option Addr) (en ec : Nat) (es : List Int) (pa : Option Addr) (pn pc : Nat) (ps : List Int) (G W H : Int) (a : Option Addr) (n c : Nat) (cs : List Int) (he : en ≤ 9223372036854775807) (hp : pn ≤ 9223372036854775807) (z1 : ea = none → ec = 0) (z2 : pa = none → pc = 0) (h0 : (-9223372036854775808 ≤ G ∧ G ≤ 9223372036854775807)) (h1 : (-9223372036854775808 ≤ W ∧ W ≤ 9223372036854775807)) (h2 : (-9223372036854775808 ≤ H ∧ H ≤ 9223372036854775807)) (cn : n ≤ 9223372036854775807) :
    ∃ (X Y : Int) (m : Nat) (L : List Bool) (e : Int), m ≤ 9223372036854775807 ∧ (∀ w, SArg ea en ec es pa pn pc ps w → IsInts w a n cs → Calls Try.prog 29 #[.agg #[.slice ea en ec, .slice pa pn pc], .agg #[.int .i64 (G), .int .i64 (W), .int .i64 (H), .slice a n c]] w (TrPost X Y m L e w)) ∧ (∀ w, SArg ea en ec es pa pn pc ps w → IsInts w a n cs → Calls Try.prog 35 #[.agg #[.slice ea en ec, .slice pa pn pc], .agg #[.int .i64 (G), .int .i64 (W), .int .i64 (H), .slice a n c]] w (TrPost X Y m L e w)) := by
  by_cases hs : stE en pn es ps = 0
  · by_cases hg : chE G W H n cs = 0
    · obtain ⟨hG, W', H', rfl, rfl, w1, w2, v1, v2, hn, hCR⟩ := chE_zero hg
      by_cases g4 : G = 4
      · by_cases hw : (W' : Int) = en
        · by_cases hh : (H' : Int) = pn
          · have hWe : W' = en := by omega
            have hHp : H' = pn := by omega
            subst hWe hHp g4
            by_cases hok : clOk W' es ps cs n
            · have key : ∀ {r : Ending} {w w' : World}, ClPost W' H' n es ps cs w r w' → TrPost W' H' n (clB W' es cs n) 0 w r w' := by
                rintro r w w' (⟨_, h⟩ | ⟨h, _⟩)
                · exact h
                · exact absurd hok h
              exact ⟨_, _, _, _, _, cn, fun w hS hI => (eCl_ok W' H' ea ec es pa pc ps a n c cs w hS z1 z2 hs hI w2 v2 hn hCR).mono fun r w' h => key h, fun w hS hI => (rCl_ok W' H' ea ec es pa pc ps a n c cs w hS z1 z2 hs hI w2 v2 hn hCR).mono fun r w' h => key h⟩
            · have key : ∀ {r : Ending} {w w' : World}, ClPost W' H' n es ps cs w r w' → TrPost 0 0 0 [] 6 w r w' := by
                rintro r w w' (⟨h, _⟩ | ⟨_, h⟩)
                · exact absurd h hok
                · exact h
              exact ⟨_, _, _, _, _, by omega, fun w hS hI => (eCl_ok W' H' ea ec es pa pc ps a n c cs w hS z1 z2 hs hI w2 v2 hn hCR).mono fun r w' h => key h, fun w hS hI => (rCl_ok W' H' ea ec es pa pc ps a n c cs w hS z1 z2 hs hI w2 v2 hn hCR).mono fun r w' h => key h⟩
          · exact ⟨_, _, _, _, _, by omega, fun w hS hI => eCl_e5 ea en ec es pa pn pc ps G W' H' a n c cs w hS hI he hp z1 z2 h0 h1 h2 cn hs hg ⟨g4, hw, hh⟩, fun w hS hI => rCl_e5 ea en ec es pa pn pc ps G W' H' a n c cs w hS hI he hp z1 z2 h0 h1 h2 cn hs hg ⟨g4, hw, hh⟩⟩
        · exact ⟨_, _, _, _, _, by omega, fun w hS hI => eCl_e4 ea en ec es pa pn pc ps G W' H' a n c cs w hS hI he hp z1 z2 h0 h1 h2 cn hs hg ⟨g4, hw⟩, fun w hS hI => rCl_e4 ea en ec es pa pn pc ps G W' H' a n c cs w hS hI he hp z1 z2 h0 h1 h2 cn hs hg ⟨g4, hw⟩⟩
      · exact ⟨_, _, _, _, _, by omega, fun w hS hI => eCl_e3 ea en ec es pa pn pc ps G W' H' a n c cs w hS hI he hp z1 z2 h0 h1 h2 cn hs hg g4, fun w hS hI => rCl_e3 ea en ec es pa pn pc ps G W' H' a n c cs w hS hI he hp z1 z2 h0 h1 h2 cn hs hg g4⟩
    · exact ⟨_, _, _, _, _, by omega, fun w hS hI => eCl_e2 ea en ec es pa pn pc ps G W H a n c cs w hS hI he hp z1 z2 h0 h1 h2 cn hs hg, fun w hS hI => rCl_e2 ea en ec es pa pn pc ps G W H a n c cs w hS hI he hp z1 z2 h0 h1 h2 cn hs hg⟩
  · exact ⟨_, _, _, _, _, by omega, fun w hS hI => eCl_e1 ea en ec es pa pn pc ps G W H a n c cs w hS hI he hp z1 z2 hs, fun w hS hI => rCl_e1 ea en ec es pa pn pc ps G W H a n c cs w hS hI he hp z1 z2 hs⟩
set_option maxRecDepth 100000 in
set_option maxHeartbeats 8000000 in
theorem tellsE_walk (ea : Option Addr) (en ec : Nat) (es : List Int) (pa : Option Addr) (pn pc : Nat) (ps : List Int) (MW MH : Int) (ma : Option Addr) (mn mc : Nat) (mb : List Bool) (G W H : Int) (a : Option Addr) (n c : Nat) (cs : List Int) (w : World) (hS : SArg ea en ec es pa pn pc ps w) (hM : OkT w ma mn mc mb) (hC : IsInts w a n cs) (he : en ≤ 9223372036854775807) (hp : pn ≤ 9223372036854775807) (z1 : ea = none → ec = 0) (z2 : pa = none → pc = 0) (g1 : (-9223372036854775808 ≤ MW ∧ MW ≤ 9223372036854775807)) (g2 : (-9223372036854775808 ≤ MH ∧ MH ≤ 9223372036854775807)) (h0 : (-9223372036854775808 ≤ G ∧ G ≤ 9223372036854775807)) (h1 : (-9223372036854775808 ≤ W ∧ W ≤ 9223372036854775807)) (h2 : (-9223372036854775808 ≤ H ∧ H ≤ 9223372036854775807)) (cn : n ≤ 9223372036854775807) :
    Calls Try.prog 10 #[.agg #[.slice ea en ec, .slice pa pn pc], .agg #[.int .i64 (MW), .int .i64 (MH), .slice ma mn mc], .agg #[.int .i64 (G), .int .i64 (W), .int .i64 (H), .slice a n c]] w fun e w' => e = .returned (.bool true) ∧ Below w.heap.size w w' := by
  have h3 : mn ≤ 9223372036854775807 := Nat.le_trans hM.cap hM.lim
  obtain ⟨sG, sW, sH, sn, sL, se, sle, K1, K2⟩ := ShU ea en ec es pa pn pc ps MW MH ma mn mc mb he hp z1 z2 g1 g2 h3
  obtain ⟨tW, tH, tE, tP, te, tlw, tlh, K3, K4⟩ := StU G W H a n c cs hC.1 h0 h1 h2 cn
  obtain ⟨cX, cY, cm, cL, ce, cle, K5, K6⟩ := ClU ea en ec es pa pn pc ps G W H a n c cs he hp z1 z2 h0 h1 h2 cn
  have K1 := Lib.hid K1; have K2 := Lib.hid K2; have K3 := Lib.hid K3; have K4 := Lib.hid K4; have K5 := Lib.hid K5; have K6 := Lib.hid K6
  have HS := Lib.hid hS; have HM := Lib.hid hM; have HC := Lib.hid hC
  clear hS hM hC g1 g2 h0 h1 h2
  go_enter Try.func10, Try.ntmps10
  go_wp2_with fail
  refine (K1.out _ (HS.out.below (by repeat (first | exact Below.refl _ _ | refine Below.drew ?_ | refine below_drewN ?_ _ | refine Below.alloc ?_ (by first | exact Nat.le_refl _ | (simp; done) | (simp; omega) | omega) _ | refine Below.setCell ?_ (by first | exact Nat.le_refl _ | (simp; done) | (simp; omega) | omega) _ | refine bExtW ?_ (by first | exact Nat.le_refl _ | (simp; done) | (simp; omega) | omega) | refine Below.trans ?_ (Below.mono (by assumption) (by first | exact Nat.le_refl _ | (simp; done) | (simp; omega) | omega))))) (HM.out.below (by repeat (first | exact Below.refl _ _ | refine Below.drew ?_ | refine below_drewN ?_ _ | refine Below.alloc ?_ (by first | exact Nat.le_refl _ | (simp; done) | (simp; omega) | omega) _ | refine Below.setCell ?_ (by first | exact Nat.le_refl _ | (simp; done) | (simp; omega) | omega) _ | refine bExtW ?_ (by first | exact Nat.le_refl _ | (simp; done) | (simp; omega) | omega) | refine Below.trans ?_ (Below.mono (by assumption) (by first | exact Nat.le_refl _ | (simp; done) | (simp; omega) | omega)))))).mono ?_
  rintro r wx ⟨A1, C1, rfl, hI, hz, hb⟩
  obtain ⟨E1, d1, rfl⟩ := bExt hb
  have HX1 := Lib.hid hI
  clear hb hI hz
  go_wp2_with fail
  refine (K2.out _ (HS.out.below (by repeat (first | exact Below.refl _ _ | refine Below.drew ?_ | refine below_drewN ?_ _ | refine Below.alloc ?_ (by first | exact Nat.le_refl _ | (simp; done) | (simp; omega) | omega) _ | refine Below.setCell ?_ (by first | exact Nat.le_refl _ | (simp; done) | (simp; omega) | omega) _ | refine bExtW ?_ (by first | exact Nat.le_refl _ | (simp; done) | (simp; omega) | omega) | refine Below.trans ?_ (Below.mono (by assumption) (by first | exact Nat.le_refl _ | (simp; done) | (simp; omega) | omega))))) (HM.out.below (by repeat (first | exact Below.refl _ _ | refine Below.drew ?_ | refine below_drewN ?_ _ | refine Below.alloc ?_ (by first | exact Nat.le_refl _ | (simp; done) | (simp; omega) | omega) _ | refine Below.setCell ?_ (by first | exact Nat.le_refl _ | (simp; done) | (simp; omega) | omega) _ | refine bExtW ?_ (by first | exact Nat.le_refl _ | (simp; done) | (simp; omega) | omega) | refine Below.trans ?_ (Below.mono (by assumption) (by first | exact Nat.le_refl _ | (simp; done) | (simp; omega) | omega)))))).mono ?_
  rintro r wx ⟨A2, C2, rfl, hI, hz, hb⟩
  obtain ⟨E2, d2, rfl⟩ := bExt hb
  have HX2 := Lib.hid hI
  clear hb hI hz
  (go_wp2_with fail; refine (sameC_self sG sW sH sn A1 C1 A2 C2 sL _ (HX1.out.below (by repeat (first | exact Below.refl _ _ | refine Below.drew ?_ | refine below_drewN ?_ _ | refine Below.alloc ?_ (by first | exact Nat.le_refl _ | (simp; done) | (simp; omega) | omega) _ | refine Below.setCell ?_ (by first | exact Nat.le_refl _ | (simp; done) | (simp; omega) | omega) _ | refine bExtW ?_ (by first | exact Nat.le_refl _ | (simp; done) | (simp; omega) | omega) | refine Below.trans ?_ (Below.mono (by assumption) (by first | exact Nat.le_refl _ | (simp; done) | (simp; omega) | omega))))) (HX2.out.below (by repeat (first | exact Below.refl _ _ | refine Below.drew ?_ | refine below_drewN ?_ _ | refine Below.alloc ?_ (by first | exact Nat.le_refl _ | (simp; done) | (simp; omega) | omega) _ | refine Below.setCell ?_ (by first | exact Nat.le_refl _ | (simp; done) | (simp; omega) | omega) _ | refine bExtW ?_ (by first | exact Nat.le_refl _ | (simp; done) | (simp; omega) | omega) | refine Below.trans ?_ (Below.mono (by assumption) (by first | exact Nat.le_refl _ | (simp; done) | (simp; omega) | omega))))) sle).mono ?_; rintro r w1 ⟨rfl, hb⟩; obtain ⟨E, d, rfl⟩ := bExt hb; clear hb)
  go_wp2_with fail
  refine (K3.out _ (HC.out.below (by repeat (first | exact Below.refl _ _ | refine Below.drew ?_ | refine below_drewN ?_ _ | refine Below.alloc ?_ (by first | exact Nat.le_refl _ | (simp; done) | (simp; omega) | omega) _ | refine Below.setCell ?_ (by first | exact Nat.le_refl _ | (simp; done) | (simp; omega) | omega) _ | refine bExtW ?_ (by first | exact Nat.le_refl _ | (simp; done) | (simp; omega) | omega) | refine Below.trans ?_ (Below.mono (by assumption) (by first | exact Nat.le_refl _ | (simp; done) | (simp; omega) | omega)))))).mono ?_
  rintro r wx ⟨A3, C3, B3, D3, rfl, hS, hb⟩
  obtain ⟨E3, d3, rfl⟩ := bExt hb
  have HX3 := Lib.hid hS
  clear hb hS
  go_wp2_with fail
  refine (K4.out _ (HC.out.below (by repeat (first | exact Below.refl _ _ | refine Below.drew ?_ | refine below_drewN ?_ _ | refine Below.alloc ?_ (by first | exact Nat.le_refl _ | (simp; done) | (simp; omega) | omega) _ | refine Below.setCell ?_ (by first | exact Nat.le_refl _ | (simp; done) | (simp; omega) | omega) _ | refine bExtW ?_ (by first | exact Nat.le_refl _ | (simp; done) | (simp; omega) | omega) | refine Below.trans ?_ (Below.mono (by assumption) (by first | exact Nat.le_refl _ | (simp; done) | (simp; omega) | omega)))))).mono ?_
  rintro r wx ⟨A4, C4, B4, D4, rfl, hS, hb⟩
  obtain ⟨E4, d4, rfl⟩ := bExt hb
  have HX4 := Lib.hid hS
  clear hb hS
  (go_wp2_with fail; refine (r19Same_any A3 tW C3 tE B3 tH D3 tP A4 tW C4 tE B4 tH D4 tP _ (HX3.out.below (by repeat (first | exact Below.refl _ _ | refine Below.drew ?_ | refine below_drewN ?_ _ | refine Below.alloc ?_ (by first | exact Nat.le_refl _ | (simp; done) | (simp; omega) | omega) _ | refine Below.setCell ?_ (by first | exact Nat.le_refl _ | (simp; done) | (simp; omega) | omega) _ | refine bExtW ?_ (by first | exact Nat.le_refl _ | (simp; done) | (simp; omega) | omega) | refine Below.trans ?_ (Below.mono (by assumption) (by first | exact Nat.le_refl _ | (simp; done) | (simp; omega) | omega))))) (HX4.out.below (by repeat (first | exact Below.refl _ _ | refine Below.drew ?_ | refine below_drewN ?_ _ | refine Below.alloc ?_ (by first | exact Nat.le_refl _ | (simp; done) | (simp; omega) | omega) _ | refine Below.setCell ?_ (by first | exact Nat.le_refl _ | (simp; done) | (simp; omega) | omega) _ | refine bExtW ?_ (by first | exact Nat.le_refl _ | (simp; done) | (simp; omega) | omega) | refine Below.trans ?_ (Below.mono (by assumption) (by first | exact Nat.le_refl _ | (simp; done) | (simp; omega) | omega))))) (by omega) (by omega) (by omega) (by omega) rfl rfl).mono ?_; rintro r w1 ⟨rfl, hb⟩; obtain ⟨E, d, rfl⟩ := bExt hb; clear hb)
  go_wp2_with fail
  refine (K5.out _ (HS.out.below (by repeat (first | exact Below.refl _ _ | refine Below.drew ?_ | refine below_drewN ?_ _ | refine Below.alloc ?_ (by first | exact Nat.le_refl _ | (simp; done) | (simp; omega) | omega) _ | refine Below.setCell ?_ (by first | exact Nat.le_refl _ | (simp; done) | (simp; omega) | omega) _ | refine bExtW ?_ (by first | exact Nat.le_refl _ | (simp; done) | (simp; omega) | omega) | refine Below.trans ?_ (Below.mono (by assumption) (by first | exact Nat.le_refl _ | (simp; done) | (simp; omega) | omega))))) (HC.out.below (by repeat (first | exact Below.refl _ _ | refine Below.drew ?_ | refine below_drewN ?_ _ | refine Below.alloc ?_ (by first | exact Nat.le_refl _ | (simp; done) | (simp; omega) | omega) _ | refine Below.setCell ?_ (by first | exact Nat.le_refl _ | (simp; done) | (simp; omega) | omega) _ | refine bExtW ?_ (by first | exact Nat.le_refl _ | (simp; done) | (simp; omega) | omega) | refine Below.trans ?_ (Below.mono (by assumption) (by first | exact Nat.le_refl _ | (simp; done) | (simp; omega) | omega)))))).mono ?_
  rintro r wx ⟨A5, C5, rfl, hT, hb⟩
  obtain ⟨E5, d5, rfl⟩ := bExt hb
  have HX5 := Lib.hid hT
  clear hb hT
  go_wp2_with fail
  refine (K6.out _ (HS.out.below (by repeat (first | exact Below.refl _ _ | refine Below.drew ?_ | refine below_drewN ?_ _ | refine Below.alloc ?_ (by first | exact Nat.le_refl _ | (simp; done) | (simp; omega) | omega) _ | refine Below.setCell ?_ (by first | exact Nat.le_refl _ | (simp; done) | (simp; omega) | omega) _ | refine bExtW ?_ (by first | exact Nat.le_refl _ | (simp; done) | (simp; omega) | omega) | refine Below.trans ?_ (Below.mono (by assumption) (by first | exact Nat.le_refl _ | (simp; done) | (simp; omega) | omega))))) (HC.out.below (by repeat (first | exact Below.refl _ _ | refine Below.drew ?_ | refine below_drewN ?_ _ | refine Below.alloc ?_ (by first | exact Nat.le_refl _ | (simp; done) | (simp; omega) | omega) _ | refine Below.setCell ?_ (by first | exact Nat.le_refl _ | (simp; done) | (simp; omega) | omega) _ | refine bExtW ?_ (by first | exact Nat.le_refl _ | (simp; done) | (simp; omega) | omega) | refine Below.trans ?_ (Below.mono (by assumption) (by first | exact Nat.le_refl _ | (simp; done) | (simp; omega) | omega)))))).mono ?_
  rintro r wx ⟨A6, C6, rfl, hT, hb⟩
  obtain ⟨E6, d6, rfl⟩ := bExt hb
  have HX6 := Lib.hid hT
  clear hb hT
  go_wp2_with fail
  refine (Same_any cX cY A5 cm C5 cL cX cY A6 cm C6 cL _ (HX5.out.bits.below (by repeat (first | exact Below.refl _ _ | refine Below.drew ?_ | refine below_drewN ?_ _ | refine Below.alloc ?_ (by first | exact Nat.le_refl _ | (simp; done) | (simp; omega) | omega) _ | refine Below.setCell ?_ (by first | exact Nat.le_refl _ | (simp; done) | (simp; omega) | omega) _ | refine bExtW ?_ (by first | exact Nat.le_refl _ | (simp; done) | (simp; omega) | omega) | refine Below.trans ?_ (Below.mono (by assumption) (by first | exact Nat.le_refl _ | (simp; done) | (simp; omega) | omega))))) (HX6.out.bits.below (by repeat (first | exact Below.refl _ _ | refine Below.drew ?_ | refine below_drewN ?_ _ | refine Below.alloc ?_ (by first | exact Nat.le_refl _ | (simp; done) | (simp; omega) | omega) _ | refine Below.setCell ?_ (by first | exact Nat.le_refl _ | (simp; done) | (simp; omega) | omega) _ | refine bExtW ?_ (by first | exact Nat.le_refl _ | (simp; done) | (simp; omega) | omega) | refine Below.trans ?_ (Below.mono (by assumption) (by first | exact Nat.le_refl _ | (simp; done) | (simp; omega) | omega))))) cle cle).mono ?_
  rw [decide_eq_true (p := (cX = cX ∧ cY = cY ∧ cL = cL)) ⟨rfl, rfl, rfl⟩]
  rintro r w1 ⟨rfl, hb⟩
  obtain ⟨E, d, rfl⟩ := bExt hb
  clear hb
  go_wp2
  go_ret
  exact ⟨rfl, (by repeat (first | exact Below.refl _ _ | refine Below.drew ?_ | refine below_drewN ?_ _ | refine Below.alloc ?_ (by first | exact Nat.le_refl _ | (simp; done) | (simp; omega) | omega) _ | refine Below.setCell ?_ (by first | exact Nat.le_refl _ | (simp; done) | (simp; omega) | omega) _ | refine bExtW ?_ (by first | exact Nat.le_refl _ | (simp; done) | (simp; omega) | omega) | refine Below.trans ?_ (Below.mono (by assumption) (by first | exact Nat.le_refl _ | (simp; done) | (simp; omega) | omega))))⟩
end Go.Proofs.Yticplgjpflaelaa
