/- Lemmas and contracts of functions (what each call returns, and that it changes nothing that was there) that the proof of a law of this seat uses; each lemma states its own conditions. -/
import Derived.Test.YticplgjpflaelaaEf8
import Derived.Test.YticplgjpflaelaaEfP
namespace Go.Proofs.Yticplgjpflaelaa
open Go.RowKit
set_option linter.unusedVariables false
set_option linter.unusedSimpArgs false
open Ef
/-- Shown, whatever comes of it. -/
theorem eSh_any (ea : Option Addr) (en ec : Nat) (es : List Int) (pa : Option Addr) (pn pc : Nat) (ps : List Int) (MW MH : Int) (ma : Option Addr) (mn mc : Nat) (mb : List Bool) (w : World) (hS : SArg ea en ec es pa pn pc ps w) (hM : OkT w ma mn mc mb) (he : en ≤ 9223372036854775807) (hp : pn ≤ 9223372036854775807) (z1 : ea = none → ec = 0) (z2 : pa = none → pc = 0) (h1 : (-9223372036854775808 ≤ MW ∧ MW ≤ 9223372036854775807)) (h2 : (-9223372036854775808 ≤ MH ∧ MH ≤ 9223372036854775807)) :
    (stE en pn es ps = 0 ∧ MW = en ∧ MH = pn ∧ mn = en * pn ∧ Calls Try.prog 30 #[.agg #[.slice ea en ec, .slice pa pn pc], .agg #[.int .i64 (MW), .int .i64 (MH), .slice ma mn mc]] w (ChPost 4 en pn mn (shL en es ps mb mn) 0 w)) ∨
    ∃ e : Int, e ≠ 0 ∧ Calls Try.prog 30 #[.agg #[.slice ea en ec, .slice pa pn pc], .agg #[.int .i64 (MW), .int .i64 (MH), .slice ma mn mc]] w (ChPost 0 0 0 0 [] e w) := by
  have h3 : mn ≤ 9223372036854775807 := Nat.le_trans hM.cap hM.lim
  by_cases hs : stE en pn es ps = 0
  · by_cases hw : wrT MW MH mn = 0
    · obtain ⟨W, H, rfl, rfl, hW, hH, hn⟩ := wrT_zero hw
      by_cases hf : W ≠ en ∨ H ≠ pn
      · exact .inr ⟨8, by omega, eSh_e3 ea en ec es pa pn pc ps W H ma mn mc w hS he hp z1 z2 hs hW hH hn hf⟩
      · have hWe : W = en := by omega
        have hHp : H = pn := by omega
        subst hWe hHp
        exact .inl ⟨hs, rfl, rfl, hn, eSh_ok W H ea ec es pa pc ps ma mn mc mb w hS z1 z2 hs hM hW hH hn⟩
    · exact .inr ⟨_, hw, eSh_e2 ea en ec es pa pn pc ps MW MH ma mn mc w hS he hp z1 z2 hs h1 h2 h3 hw⟩
  · exact .inr ⟨_, hs, eSh_e1 ea en ec es pa pn pc ps MW MH ma mn mc w hS he hp z1 z2 hs⟩
/-- Where Cloth tells an error. -/
theorem eCl_err (ea : Option Addr) (en ec : Nat) (es : List Int) (pa : Option Addr) (pn pc : Nat) (ps : List Int) (W H : Nat) (a : Option Addr) (n c : Nat) (cs : List Int) (he : en ≤ 9223372036854775807) (hp : pn ≤ 9223372036854775807) (z1 : ea = none → ec = 0) (z2 : pa = none → pc = 0) (hW1 : 1 ≤ W) (hW : W ≤ 64) (hH1 : 1 ≤ H) (hH : H ≤ 64) (hn : n = W * H) (hCR : ∀ x ∈ cs, 0 ≤ x ∧ x < 62) (hst : Stuck W cs (W + H)) (hel : es.length = en) (hpl : ps.length = pn) :
    ∃ e : Int, e ≠ 0 ∧ ∀ w, SArg ea en ec es pa pn pc ps w → IsInts w a n cs → Calls Try.prog 29 #[.agg #[.slice ea en ec, .slice pa pn pc], .agg #[.int .i64 (4), .int .i64 (W), .int .i64 (H), .slice a n c]] w (TrPost 0 0 0 [] e w) := by
  have hn4 : n ≤ 4096 := by rw [hn]; exact Nat.mul_le_mul hW hH
  have hc0 : chE 4 W H n cs = 0 := chE_ok (.inl rfl) hW1 hW hH1 hH hn hCR
  by_cases hs : stE en pn es ps = 0
  · by_cases hw : W = en
    · by_cases hh : H = pn
      · subst hw hh
        refine ⟨6, by omega, fun w hS hI => (eCl_ok W H ea ec es pa pc ps a n c cs w hS z1 z2 hs hI hW hH hn hCR).mono ?_⟩
        intro r w' h
        unfold ClPost at h
        rcases h with ⟨h, _⟩ | ⟨_, h⟩
        · exact absurd hst (soln_of hn hel hpl hs h).not_stuck
        · exact h
      · exact ⟨8, by omega, fun w hS hI => eCl_e5 ea en ec es pa pn pc ps 4 W H a n c cs w hS hI he hp z1 z2 (by omega) (by omega) (by omega) (by omega) hs hc0 ⟨rfl, by omega, by omega⟩⟩
    · exact ⟨8, by omega, fun w hS hI => eCl_e4 ea en ec es pa pn pc ps 4 W H a n c cs w hS hI he hp z1 z2 (by omega) (by omega) (by omega) (by omega) hs hc0 ⟨rfl, by omega⟩⟩
  · exact ⟨_, hs, fun w hS hI => eCl_e1 ea en ec es pa pn pc ps 4 W H a n c cs w hS hI he hp z1 z2 hs⟩
theorem someI {w : World} {a : Option Addr} {n c : Nat} {l : List Int} (h : IsInts w a n l) (hn : 1 ≤ n) : a = none → c = 0 := fun e => by
  obtain ⟨_, _, e2, _⟩ := h.2 (by omega)
  rw [e] at e2; cases e2
theorem chE_six (G W H : Int) (n : Nat) (cs : List Int) : chE G W H n cs ≠ 6 := by
  unfold chE
  repeat' split
  all_goals omega
set_option maxRecDepth 100000 in
set_option maxHeartbeats 8000000 in
theorem comp_bad (ea : Option Addr) (en ec : Nat) (es : List Int) (pa : Option Addr) (pn pc : Nat) (ps : List Int) (MW MH : Int) (ma : Option Addr) (mn mc : Nat) (mb : List Bool) (G W H : Int) (a : Option Addr) (n c : Nat) (cs : List Int) (w : World) (hS : SArg ea en ec es pa pn pc ps w) (hM : OkT w ma mn mc mb) (hC : IsInts w a n cs) (he : en ≤ 9223372036854775807) (hp : pn ≤ 9223372036854775807) (z1 : ea = none → ec = 0) (z2 : pa = none → pc = 0) (h0 : (-9223372036854775808 ≤ G ∧ G ≤ 9223372036854775807)) (h1 : (-9223372036854775808 ≤ W ∧ W ≤ 9223372036854775807)) (h2 : (-9223372036854775808 ≤ H ∧ H ≤ 9223372036854775807)) (cn : n ≤ 9223372036854775807) (e : Int) (hne : e ≠ 0)
    (KS1 : Hid (∀ w, SArg ea en ec es pa pn pc ps w → OkT w ma mn mc mb → Calls Try.prog 30 #[.agg #[.slice ea en ec, .slice pa pn pc], .agg #[.int .i64 (MW), .int .i64 (MH), .slice ma mn mc]] w (ChPost 0 0 0 0 [] e w))) :
    Calls Try.prog 11 #[.agg #[.slice ea en ec, .slice pa pn pc], .agg #[.int .i64 (MW), .int .i64 (MH), .slice ma mn mc], .agg #[.int .i64 (G), .int .i64 (W), .int .i64 (H), .slice a n c]] w fun e w' => e = .returned (.bool true) ∧ Below w.heap.size w w' := by
  have HS := Lib.hid hS; have HM := Lib.hid hM; have HC := Lib.hid hC
  have be : (e == 0) = false := by simpa using hne
  clear hS hM hC hne
  by_cases hg : chE G W H n cs = 0
  · obtain ⟨hG, W', H', rfl, rfl, w1, w2, v1, v2, hn, hCR⟩ := chE_zero hg
    rcases hG with rfl | rfl
    · by_cases hst : Stuck W' cs (W' + H')
      · obtain ⟨e6, he6, hcl⟩ := eCl_err ea en ec es pa pn pc ps W' H' a n c cs he hp z1 z2 w1 w2 v1 v2 hn hCR hst HS.out.e.1 HS.out.p.1
        have b6 : (e6 != 0) = true := by simpa using he6
        have KST : Hid (∀ w, IsInts w a n cs → Calls Try.prog 28 #[.agg #[.int .i64 (4), .int .i64 (W'), .int .i64 (H'), .slice a n c]] w fun r w' => r = .returned (.tuple #[.agg #[.slice none 0 0, .slice none 0 0], .int .i64 (6)]) ∧ Below w.heap.size w w') := Lib.hid fun w h => (eStr_ok W' H' n a c cs w h w2 v2 w1 v1 hn hCR).mono fun r w' h => by
          obtain ⟨h1, h2⟩ := h
          rcases h1 with ⟨_, h1⟩ | ⟨p, A, C, B, D, hp, _⟩
          · exact ⟨h1, h2⟩
          · exact absurd hst hp.not_stuck
        have KCL := Lib.hid hcl
        clear hg hn hCR hst he6 hcl
        go_enter Try.func11, Try.ntmps11
        (go_wp2_with fail; refine (alive19_any _).mono ?_; rintro r w1 ⟨rfl, hb⟩; obtain ⟨E, d, rfl⟩ := bExt hb; clear hb)
        go_wp2_with fail
        refine (KS1.out _ (HS.out.below (by repeat (first | exact Below.refl _ _ | refine Below.drew ?_ | refine below_drewN ?_ _ | refine Below.alloc ?_ (by first | exact Nat.le_refl _ | (simp; done) | (simp; omega) | omega) _ | refine Below.setCell ?_ (by first | exact Nat.le_refl _ | (simp; done) | (simp; omega) | omega) _ | refine bExtW ?_ (by first | exact Nat.le_refl _ | (simp; done) | (simp; omega) | omega) | refine Below.trans ?_ (Below.mono (by assumption) (by first | exact Nat.le_refl _ | (simp; done) | (simp; omega) | omega))))) (HM.out.below (by repeat (first | exact Below.refl _ _ | refine Below.drew ?_ | refine below_drewN ?_ _ | refine Below.alloc ?_ (by first | exact Nat.le_refl _ | (simp; done) | (simp; omega) | omega) _ | refine Below.setCell ?_ (by first | exact Nat.le_refl _ | (simp; done) | (simp; omega) | omega) _ | refine bExtW ?_ (by first | exact Nat.le_refl _ | (simp; done) | (simp; omega) | omega) | refine Below.trans ?_ (Below.mono (by assumption) (by first | exact Nat.le_refl _ | (simp; done) | (simp; omega) | omega)))))).mono ?_
        rintro r wx ⟨A1, C1, rfl, hI, hz, hb⟩
        obtain ⟨E1, d1, rfl⟩ := bExt hb
        have HI1 := Lib.hid hI
        clear hb hI hz
        (go_wp2_with fail; refine (KST.out _ (HC.out.below (by repeat (first | exact Below.refl _ _ | refine Below.drew ?_ | refine below_drewN ?_ _ | refine Below.alloc ?_ (by first | exact Nat.le_refl _ | (simp; done) | (simp; omega) | omega) _ | refine Below.setCell ?_ (by first | exact Nat.le_refl _ | (simp; done) | (simp; omega) | omega) _ | refine bExtW ?_ (by first | exact Nat.le_refl _ | (simp; done) | (simp; omega) | omega) | refine Below.trans ?_ (Below.mono (by assumption) (by first | exact Nat.le_refl _ | (simp; done) | (simp; omega) | omega)))))).mono ?_; rintro r w1 ⟨rfl, hb⟩; obtain ⟨E, d, rfl⟩ := bExt hb; clear hb)
        go_wp2_with fail
        refine (KCL.out _ (HS.out.below (by repeat (first | exact Below.refl _ _ | refine Below.drew ?_ | refine below_drewN ?_ _ | refine Below.alloc ?_ (by first | exact Nat.le_refl _ | (simp; done) | (simp; omega) | omega) _ | refine Below.setCell ?_ (by first | exact Nat.le_refl _ | (simp; done) | (simp; omega) | omega) _ | refine bExtW ?_ (by first | exact Nat.le_refl _ | (simp; done) | (simp; omega) | omega) | refine Below.trans ?_ (Below.mono (by assumption) (by first | exact Nat.le_refl _ | (simp; done) | (simp; omega) | omega))))) (HC.out.below (by repeat (first | exact Below.refl _ _ | refine Below.drew ?_ | refine below_drewN ?_ _ | refine Below.alloc ?_ (by first | exact Nat.le_refl _ | (simp; done) | (simp; omega) | omega) _ | refine Below.setCell ?_ (by first | exact Nat.le_refl _ | (simp; done) | (simp; omega) | omega) _ | refine bExtW ?_ (by first | exact Nat.le_refl _ | (simp; done) | (simp; omega) | omega) | refine Below.trans ?_ (Below.mono (by assumption) (by first | exact Nat.le_refl _ | (simp; done) | (simp; omega) | omega)))))).mono ?_
        rintro r wx ⟨A21, C21, rfl, hT, hb⟩
        obtain ⟨E21, d21, rfl⟩ := bExt hb
        have HT21 := Lib.hid hT
        clear hb hT
        go_wp2
        go_ret
        exact ⟨rfl, (by repeat (first | exact Below.refl _ _ | refine Below.drew ?_ | refine below_drewN ?_ _ | refine Below.alloc ?_ (by first | exact Nat.le_refl _ | (simp; done) | (simp; omega) | omega) _ | refine Below.setCell ?_ (by first | exact Nat.le_refl _ | (simp; done) | (simp; omega) | omega) _ | refine bExtW ?_ (by first | exact Nat.le_refl _ | (simp; done) | (simp; omega) | omega) | refine Below.trans ?_ (Below.mono (by assumption) (by first | exact Nat.le_refl _ | (simp; done) | (simp; omega) | omega))))⟩
      · have hcl := HC.out.1
        have KST : Hid (∀ w, IsInts w a n cs → Calls Try.prog 28 #[.agg #[.int .i64 (4), .int .i64 (W'), .int .i64 (H'), .slice a n c]] w fun r w' => (∃ p A C B D, Str W' cs (W' + H') (W' + H') p ∧ r = .returned (.tuple #[.agg #[.slice A W' C, .slice B H' D], .int .i64 (0)]) ∧ IsInts w' A W' (p.take W') ∧ IsInts w' B H' (p.drop W')) ∧ Below w.heap.size w w') := Lib.hid fun w h => (eStr_ok W' H' n a c cs w h w2 v2 w1 v1 hn hCR).mono fun r w' h => by
          obtain ⟨h1, h2⟩ := h
          rcases h1 with ⟨h1, _⟩ | h1
          · exact absurd h1 hst
          · exact ⟨h1, h2⟩
        have hn4 : n ≤ 4096 := by rw [hn]; exact Nat.mul_le_mul w2 v2
        have KCL : Hid (∀ (p : List Int) A C B D w, Str W' cs (W' + H') (W' + H') p → SArg A W' C (p.take W') B H' D (p.drop W') w → IsInts w a n cs → Calls Try.prog 29 #[.agg #[.slice A W' C, .slice B H' D], .agg #[.int .i64 (4), .int .i64 (W'), .int .i64 (H'), .slice a n c]] w (TrPost W' H' n (clB W' (p.take W') cs n) 0 w)) := Lib.hid fun p A C B D w hp h1 h2 => (eCl_ok W' H' A C (p.take W') B D (p.drop W') a n c cs w h1 (someI h1.e w1) (someI h1.p v1) (stE_of_str w1 w2 v1 v2 hp) h2 w2 v2 hn hCR).mono fun r w' h => by
          unfold ClPost at h
          rcases h with ⟨_, h⟩ | ⟨h, _⟩
          · exact h
          · exact absurd (clOk_of_str w1 hn hp) h
        have KSH : Hid (∀ (p : List Int) A C B D x y w, Str W' cs (W' + H') (W' + H') p → SArg A W' C (p.take W') B H' D (p.drop W') w → OkT w x n y (clB W' (p.take W') cs n) → Calls Try.prog 30 #[.agg #[.slice A W' C, .slice B H' D], .agg #[.int .i64 (W'), .int .i64 (H'), .slice x n y]] w (ChPost 4 W' H' n cs 0 w)) := Lib.hid fun p A C B D x y w hp h1 h2 => by
          have := eSh_ok W' H' A C (p.take W') B D (p.drop W') x n y (clB W' (p.take W') cs n) w h1 (someI h1.e w1) (someI h1.p v1) (stE_of_str w1 w2 v1 v2 hp) h2 w2 v2 hn
          rwa [shL_clB hcl (clOk_of_str w1 hn hp)] at this
        clear hg hn hCR hst hcl
        go_enter Try.func11, Try.ntmps11
        (go_wp2_with fail; refine (alive19_any _).mono ?_; rintro r w1 ⟨rfl, hb⟩; obtain ⟨E, d, rfl⟩ := bExt hb; clear hb)
        go_wp2_with fail
        refine (KS1.out _ (HS.out.below (by repeat (first | exact Below.refl _ _ | refine Below.drew ?_ | refine below_drewN ?_ _ | refine Below.alloc ?_ (by first | exact Nat.le_refl _ | (simp; done) | (simp; omega) | omega) _ | refine Below.setCell ?_ (by first | exact Nat.le_refl _ | (simp; done) | (simp; omega) | omega) _ | refine bExtW ?_ (by first | exact Nat.le_refl _ | (simp; done) | (simp; omega) | omega) | refine Below.trans ?_ (Below.mono (by assumption) (by first | exact Nat.le_refl _ | (simp; done) | (simp; omega) | omega))))) (HM.out.below (by repeat (first | exact Below.refl _ _ | refine Below.drew ?_ | refine below_drewN ?_ _ | refine Below.alloc ?_ (by first | exact Nat.le_refl _ | (simp; done) | (simp; omega) | omega) _ | refine Below.setCell ?_ (by first | exact Nat.le_refl _ | (simp; done) | (simp; omega) | omega) _ | refine bExtW ?_ (by first | exact Nat.le_refl _ | (simp; done) | (simp; omega) | omega) | refine Below.trans ?_ (Below.mono (by assumption) (by first | exact Nat.le_refl _ | (simp; done) | (simp; omega) | omega)))))).mono ?_
        rintro r wx ⟨A1, C1, rfl, hI, hz, hb⟩
        obtain ⟨E1, d1, rfl⟩ := bExt hb
        have HI1 := Lib.hid hI
        clear hb hI hz
        go_wp2_with fail
        refine (KST.out _ (HC.out.below (by repeat (first | exact Below.refl _ _ | refine Below.drew ?_ | refine below_drewN ?_ _ | refine Below.alloc ?_ (by first | exact Nat.le_refl _ | (simp; done) | (simp; omega) | omega) _ | refine Below.setCell ?_ (by first | exact Nat.le_refl _ | (simp; done) | (simp; omega) | omega) _ | refine bExtW ?_ (by first | exact Nat.le_refl _ | (simp; done) | (simp; omega) | omega) | refine Below.trans ?_ (Below.mono (by assumption) (by first | exact Nat.le_refl _ | (simp; done) | (simp; omega) | omega)))))).mono ?_
        rintro r wx ⟨⟨p, A31, C31, B31, D31, hp, rfl, hi1, hi2⟩, hb⟩
        obtain ⟨E31, d31, rfl⟩ := bExt hb
        have HPS := Lib.hid hp
        have HS31 : Hid (SArg A31 W' C31 (p.take W') B31 H' D31 (p.drop W') _) := Lib.hid ⟨hi1, hi2⟩
        clear hb hp hi1 hi2
        go_wp2_with fail
        refine (KCL.out p A31 C31 B31 D31 _ HPS.out (HS31.out.below (by repeat (first | exact Below.refl _ _ | refine Below.drew ?_ | refine below_drewN ?_ _ | refine Below.alloc ?_ (by first | exact Nat.le_refl _ | (simp; done) | (simp; omega) | omega) _ | refine Below.setCell ?_ (by first | exact Nat.le_refl _ | (simp; done) | (simp; omega) | omega) _ | refine bExtW ?_ (by first | exact Nat.le_refl _ | (simp; done) | (simp; omega) | omega) | refine Below.trans ?_ (Below.mono (by assumption) (by first | exact Nat.le_refl _ | (simp; done) | (simp; omega) | omega))))) (HC.out.below (by repeat (first | exact Below.refl _ _ | refine Below.drew ?_ | refine below_drewN ?_ _ | refine Below.alloc ?_ (by first | exact Nat.le_refl _ | (simp; done) | (simp; omega) | omega) _ | refine Below.setCell ?_ (by first | exact Nat.le_refl _ | (simp; done) | (simp; omega) | omega) _ | refine bExtW ?_ (by first | exact Nat.le_refl _ | (simp; done) | (simp; omega) | omega) | refine Below.trans ?_ (Below.mono (by assumption) (by first | exact Nat.le_refl _ | (simp; done) | (simp; omega) | omega)))))).mono ?_
        rintro r wx ⟨A32, C32, rfl, hT, hb⟩
        obtain ⟨E32, d32, rfl⟩ := bExt hb
        have HT32 := Lib.hid hT
        clear hb hT
        go_wp2_with fail
        refine (KSH.out p A31 C31 B31 D31 _ _ _ HPS.out (HS31.out.below (by repeat (first | exact Below.refl _ _ | refine Below.drew ?_ | refine below_drewN ?_ _ | refine Below.alloc ?_ (by first | exact Nat.le_refl _ | (simp; done) | (simp; omega) | omega) _ | refine Below.setCell ?_ (by first | exact Nat.le_refl _ | (simp; done) | (simp; omega) | omega) _ | refine bExtW ?_ (by first | exact Nat.le_refl _ | (simp; done) | (simp; omega) | omega) | refine Below.trans ?_ (Below.mono (by assumption) (by first | exact Nat.le_refl _ | (simp; done) | (simp; omega) | omega))))) (HT32.out.below (by repeat (first | exact Below.refl _ _ | refine Below.drew ?_ | refine below_drewN ?_ _ | refine Below.alloc ?_ (by first | exact Nat.le_refl _ | (simp; done) | (simp; omega) | omega) _ | refine Below.setCell ?_ (by first | exact Nat.le_refl _ | (simp; done) | (simp; omega) | omega) _ | refine bExtW ?_ (by first | exact Nat.le_refl _ | (simp; done) | (simp; omega) | omega) | refine Below.trans ?_ (Below.mono (by assumption) (by first | exact Nat.le_refl _ | (simp; done) | (simp; omega) | omega)))))).mono ?_
        rintro r wx ⟨A33, C33, rfl, hI, hz, hb⟩
        obtain ⟨E33, d33, rfl⟩ := bExt hb
        have HI33 := Lib.hid hI
        clear hb hI hz
        (go_wp2_with fail; refine (sameC_self 4 W' H' n a c A33 C33 cs _ (HC.out.below (by repeat (first | exact Below.refl _ _ | refine Below.drew ?_ | refine below_drewN ?_ _ | refine Below.alloc ?_ (by first | exact Nat.le_refl _ | (simp; done) | (simp; omega) | omega) _ | refine Below.setCell ?_ (by first | exact Nat.le_refl _ | (simp; done) | (simp; omega) | omega) _ | refine bExtW ?_ (by first | exact Nat.le_refl _ | (simp; done) | (simp; omega) | omega) | refine Below.trans ?_ (Below.mono (by assumption) (by first | exact Nat.le_refl _ | (simp; done) | (simp; omega) | omega))))) (HI33.out.below (by repeat (first | exact Below.refl _ _ | refine Below.drew ?_ | refine below_drewN ?_ _ | refine Below.alloc ?_ (by first | exact Nat.le_refl _ | (simp; done) | (simp; omega) | omega) _ | refine Below.setCell ?_ (by first | exact Nat.le_refl _ | (simp; done) | (simp; omega) | omega) _ | refine bExtW ?_ (by first | exact Nat.le_refl _ | (simp; done) | (simp; omega) | omega) | refine Below.trans ?_ (Below.mono (by assumption) (by first | exact Nat.le_refl _ | (simp; done) | (simp; omega) | omega))))) (by omega)).mono ?_; rintro r w1 ⟨rfl, hb⟩; obtain ⟨E, d, rfl⟩ := bExt hb; clear hb)
        go_wp2
        go_ret
        exact ⟨rfl, (by repeat (first | exact Below.refl _ _ | refine Below.drew ?_ | refine below_drewN ?_ _ | refine Below.alloc ?_ (by first | exact Nat.le_refl _ | (simp; done) | (simp; omega) | omega) _ | refine Below.setCell ?_ (by first | exact Nat.le_refl _ | (simp; done) | (simp; omega) | omega) _ | refine bExtW ?_ (by first | exact Nat.le_refl _ | (simp; done) | (simp; omega) | omega) | refine Below.trans ?_ (Below.mono (by assumption) (by first | exact Nat.le_refl _ | (simp; done) | (simp; omega) | omega))))⟩
    · have KST := Lib.hid fun w h => eStr_hex W' H' a n c cs w h (by omega) (by omega) cn hg
      clear hg hn hCR
      go_enter Try.func11, Try.ntmps11
      (go_wp2_with fail; refine (alive19_any _).mono ?_; rintro r w1 ⟨rfl, hb⟩; obtain ⟨E, d, rfl⟩ := bExt hb; clear hb)
      go_wp2_with fail
      refine (KS1.out _ (HS.out.below (by repeat (first | exact Below.refl _ _ | refine Below.drew ?_ | refine below_drewN ?_ _ | refine Below.alloc ?_ (by first | exact Nat.le_refl _ | (simp; done) | (simp; omega) | omega) _ | refine Below.setCell ?_ (by first | exact Nat.le_refl _ | (simp; done) | (simp; omega) | omega) _ | refine bExtW ?_ (by first | exact Nat.le_refl _ | (simp; done) | (simp; omega) | omega) | refine Below.trans ?_ (Below.mono (by assumption) (by first | exact Nat.le_refl _ | (simp; done) | (simp; omega) | omega))))) (HM.out.below (by repeat (first | exact Below.refl _ _ | refine Below.drew ?_ | refine below_drewN ?_ _ | refine Below.alloc ?_ (by first | exact Nat.le_refl _ | (simp; done) | (simp; omega) | omega) _ | refine Below.setCell ?_ (by first | exact Nat.le_refl _ | (simp; done) | (simp; omega) | omega) _ | refine bExtW ?_ (by first | exact Nat.le_refl _ | (simp; done) | (simp; omega) | omega) | refine Below.trans ?_ (Below.mono (by assumption) (by first | exact Nat.le_refl _ | (simp; done) | (simp; omega) | omega)))))).mono ?_
      rintro r wx ⟨A1, C1, rfl, hI, hz, hb⟩
      obtain ⟨E1, d1, rfl⟩ := bExt hb
      have HI1 := Lib.hid hI
      clear hb hI hz
      (go_wp2_with fail; refine (KST.out _ (HC.out.below (by repeat (first | exact Below.refl _ _ | refine Below.drew ?_ | refine below_drewN ?_ _ | refine Below.alloc ?_ (by first | exact Nat.le_refl _ | (simp; done) | (simp; omega) | omega) _ | refine Below.setCell ?_ (by first | exact Nat.le_refl _ | (simp; done) | (simp; omega) | omega) _ | refine bExtW ?_ (by first | exact Nat.le_refl _ | (simp; done) | (simp; omega) | omega) | refine Below.trans ?_ (Below.mono (by assumption) (by first | exact Nat.le_refl _ | (simp; done) | (simp; omega) | omega)))))).mono ?_; rintro r w1 ⟨rfl, hb⟩; obtain ⟨E, d, rfl⟩ := bExt hb; clear hb)
      go_wp2
      go_ret
      exact ⟨rfl, (by repeat (first | exact Below.refl _ _ | refine Below.drew ?_ | refine below_drewN ?_ _ | refine Below.alloc ?_ (by first | exact Nat.le_refl _ | (simp; done) | (simp; omega) | omega) _ | refine Below.setCell ?_ (by first | exact Nat.le_refl _ | (simp; done) | (simp; omega) | omega) _ | refine bExtW ?_ (by first | exact Nat.le_refl _ | (simp; done) | (simp; omega) | omega) | refine Below.trans ?_ (Below.mono (by assumption) (by first | exact Nat.le_refl _ | (simp; done) | (simp; omega) | omega))))⟩
  · have KST := Lib.hid fun w h => eStr_bad G W H a n c cs w h h0 h1 h2 cn hg
    have b1 : (chE G W H n cs == 0) = false := by simpa using hg
    have b2 : (chE G W H n cs == 6) = false := by have := chE_six G W H n cs; simpa using this
    clear hg
    generalize chE G W H n cs = e5 at *
    go_enter Try.func11, Try.ntmps11
    (go_wp2_with fail; refine (alive19_any _).mono ?_; rintro r w1 ⟨rfl, hb⟩; obtain ⟨E, d, rfl⟩ := bExt hb; clear hb)
    go_wp2_with fail
    refine (KS1.out _ (HS.out.below (by repeat (first | exact Below.refl _ _ | refine Below.drew ?_ | refine below_drewN ?_ _ | refine Below.alloc ?_ (by first | exact Nat.le_refl _ | (simp; done) | (simp; omega) | omega) _ | refine Below.setCell ?_ (by first | exact Nat.le_refl _ | (simp; done) | (simp; omega) | omega) _ | refine bExtW ?_ (by first | exact Nat.le_refl _ | (simp; done) | (simp; omega) | omega) | refine Below.trans ?_ (Below.mono (by assumption) (by first | exact Nat.le_refl _ | (simp; done) | (simp; omega) | omega))))) (HM.out.below (by repeat (first | exact Below.refl _ _ | refine Below.drew ?_ | refine below_drewN ?_ _ | refine Below.alloc ?_ (by first | exact Nat.le_refl _ | (simp; done) | (simp; omega) | omega) _ | refine Below.setCell ?_ (by first | exact Nat.le_refl _ | (simp; done) | (simp; omega) | omega) _ | refine bExtW ?_ (by first | exact Nat.le_refl _ | (simp; done) | (simp; omega) | omega) | refine Below.trans ?_ (Below.mono (by assumption) (by first | exact Nat.le_refl _ | (simp; done) | (simp; omega) | omega)))))).mono ?_
    rintro r wx ⟨A1, C1, rfl, hI, hz, hb⟩
    obtain ⟨E1, d1, rfl⟩ := bExt hb
    have HI1 := Lib.hid hI
    clear hb hI hz
    (go_wp2_with fail; refine (KST.out _ (HC.out.below (by repeat (first | exact Below.refl _ _ | refine Below.drew ?_ | refine below_drewN ?_ _ | refine Below.alloc ?_ (by first | exact Nat.le_refl _ | (simp; done) | (simp; omega) | omega) _ | refine Below.setCell ?_ (by first | exact Nat.le_refl _ | (simp; done) | (simp; omega) | omega) _ | refine bExtW ?_ (by first | exact Nat.le_refl _ | (simp; done) | (simp; omega) | omega) | refine Below.trans ?_ (Below.mono (by assumption) (by first | exact Nat.le_refl _ | (simp; done) | (simp; omega) | omega)))))).mono ?_; rintro r w1 ⟨rfl, hb⟩; obtain ⟨E, d, rfl⟩ := bExt hb; clear hb)
    go_wp2
    go_ret
    exact ⟨rfl, (by repeat (first | exact Below.refl _ _ | refine Below.drew ?_ | refine below_drewN ?_ _ | refine Below.alloc ?_ (by first | exact Nat.le_refl _ | (simp; done) | (simp; omega) | omega) _ | refine Below.setCell ?_ (by first | exact Nat.le_refl _ | (simp; done) | (simp; omega) | omega) _ | refine bExtW ?_ (by first | exact Nat.le_refl _ | (simp; done) | (simp; omega) | omega) | refine Below.trans ?_ (Below.mono (by assumption) (by first | exact Nat.le_refl _ | (simp; done) | (simp; omega) | omega))))⟩
set_option maxRecDepth 100000 in
set_option maxHeartbeats 8000000 in
theorem comp_good (ea : Option Addr) (en ec : Nat) (es : List Int) (pa : Option Addr) (pn pc : Nat) (ps : List Int) (MW MH : Int) (ma : Option Addr) (mn mc : Nat) (mb : List Bool) (G W H : Int) (a : Option Addr) (n c : Nat) (cs : List Int) (w : World) (hS : SArg ea en ec es pa pn pc ps w) (hM : OkT w ma mn mc mb) (hC : IsInts w a n cs) (he : en ≤ 9223372036854775807) (hp : pn ≤ 9223372036854775807) (z1 : ea = none → ec = 0) (z2 : pa = none → pc = 0) (h0 : (-9223372036854775808 ≤ G ∧ G ≤ 9223372036854775807)) (h1 : (-9223372036854775808 ≤ W ∧ W ≤ 9223372036854775807)) (h2 : (-9223372036854775808 ≤ H ∧ H ≤ 9223372036854775807)) (cn : n ≤ 9223372036854775807) (L1 : List Int) (hm1 : mn ≤ 9223372036854775807)
    (KS1 : Hid (∀ w, SArg ea en ec es pa pn pc ps w → OkT w ma mn mc mb → Calls Try.prog 30 #[.agg #[.slice ea en ec, .slice pa pn pc], .agg #[.int .i64 (MW), .int .i64 (MH), .slice ma mn mc]] w (ChPost 4 en pn mn L1 0 w)))
    (KS2 : Hid (∀ A C w, IsInts w A mn L1 → Calls Try.prog 28 #[.agg #[.int .i64 (4), .int .i64 (en), .int .i64 (pn), .slice A mn C]] w fun r w' => (∃ (p : List Int) (A : Option Addr) (C : Nat) (B : Option Addr) (D : Nat), r = .returned (.tuple #[.agg #[.slice A en C, .slice B pn D], .int .i64 (0)])) ∧ Below w.heap.size w w'))
    (KS3 : Hid (∀ A C w, SArg ea en ec es pa pn pc ps w → IsInts w A mn L1 → Calls Try.prog 29 #[.agg #[.slice ea en ec, .slice pa pn pc], .agg #[.int .i64 (4), .int .i64 (en), .int .i64 (pn), .slice A mn C]] w (TrPost en pn mn (clB en es L1 mn) 0 w)))
    (KS4 : Hid (∀ A C w, SArg ea en ec es pa pn pc ps w → OkT w A mn C (clB en es L1 mn) → Calls Try.prog 30 #[.agg #[.slice ea en ec, .slice pa pn pc], .agg #[.int .i64 (en), .int .i64 (pn), .slice A mn C]] w (ChPost 4 en pn mn L1 0 w))) :
    Calls Try.prog 11 #[.agg #[.slice ea en ec, .slice pa pn pc], .agg #[.int .i64 (MW), .int .i64 (MH), .slice ma mn mc], .agg #[.int .i64 (G), .int .i64 (W), .int .i64 (H), .slice a n c]] w fun e w' => e = .returned (.bool true) ∧ Below w.heap.size w w' := by
  have HS := Lib.hid hS; have HM := Lib.hid hM; have HC := Lib.hid hC
  clear hS hM hC
  by_cases hg : chE G W H n cs = 0
  · obtain ⟨hG, W', H', rfl, rfl, w1, w2, v1, v2, hn, hCR⟩ := chE_zero hg
    rcases hG with rfl | rfl
    · by_cases hst : Stuck W' cs (W' + H')
      · obtain ⟨e6, he6, hcl⟩ := eCl_err ea en ec es pa pn pc ps W' H' a n c cs he hp z1 z2 w1 w2 v1 v2 hn hCR hst HS.out.e.1 HS.out.p.1
        have b6 : (e6 != 0) = true := by simpa using he6
        have KST : Hid (∀ w, IsInts w a n cs → Calls Try.prog 28 #[.agg #[.int .i64 (4), .int .i64 (W'), .int .i64 (H'), .slice a n c]] w fun r w' => r = .returned (.tuple #[.agg #[.slice none 0 0, .slice none 0 0], .int .i64 (6)]) ∧ Below w.heap.size w w') := Lib.hid fun w h => (eStr_ok W' H' n a c cs w h w2 v2 w1 v1 hn hCR).mono fun r w' h => by
          obtain ⟨h1, h2⟩ := h
          rcases h1 with ⟨_, h1⟩ | ⟨p, A, C, B, D, hp, _⟩
          · exact ⟨h1, h2⟩
          · exact absurd hst hp.not_stuck
        have KCL := Lib.hid hcl
        clear hg hn hCR hst he6 hcl
        go_enter Try.func11, Try.ntmps11
        (go_wp2_with fail; refine (alive19_any _).mono ?_; rintro r w1 ⟨rfl, hb⟩; obtain ⟨E, d, rfl⟩ := bExt hb; clear hb)
        go_wp2_with fail
        refine (KS1.out _ (HS.out.below (by repeat (first | exact Below.refl _ _ | refine Below.drew ?_ | refine below_drewN ?_ _ | refine Below.alloc ?_ (by first | exact Nat.le_refl _ | (simp; done) | (simp; omega) | omega) _ | refine Below.setCell ?_ (by first | exact Nat.le_refl _ | (simp; done) | (simp; omega) | omega) _ | refine bExtW ?_ (by first | exact Nat.le_refl _ | (simp; done) | (simp; omega) | omega) | refine Below.trans ?_ (Below.mono (by assumption) (by first | exact Nat.le_refl _ | (simp; done) | (simp; omega) | omega))))) (HM.out.below (by repeat (first | exact Below.refl _ _ | refine Below.drew ?_ | refine below_drewN ?_ _ | refine Below.alloc ?_ (by first | exact Nat.le_refl _ | (simp; done) | (simp; omega) | omega) _ | refine Below.setCell ?_ (by first | exact Nat.le_refl _ | (simp; done) | (simp; omega) | omega) _ | refine bExtW ?_ (by first | exact Nat.le_refl _ | (simp; done) | (simp; omega) | omega) | refine Below.trans ?_ (Below.mono (by assumption) (by first | exact Nat.le_refl _ | (simp; done) | (simp; omega) | omega)))))).mono ?_
        rintro r wx ⟨A1, C1, rfl, hI, hz, hb⟩
        obtain ⟨E1, d1, rfl⟩ := bExt hb
        have HI1 := Lib.hid hI
        clear hb hI hz
        go_wp2_with fail
        refine (KS2.out A1 C1 _ (HI1.out.below (by repeat (first | exact Below.refl _ _ | refine Below.drew ?_ | refine below_drewN ?_ _ | refine Below.alloc ?_ (by first | exact Nat.le_refl _ | (simp; done) | (simp; omega) | omega) _ | refine Below.setCell ?_ (by first | exact Nat.le_refl _ | (simp; done) | (simp; omega) | omega) _ | refine bExtW ?_ (by first | exact Nat.le_refl _ | (simp; done) | (simp; omega) | omega) | refine Below.trans ?_ (Below.mono (by assumption) (by first | exact Nat.le_refl _ | (simp; done) | (simp; omega) | omega)))))).mono ?_
        rintro r wx ⟨⟨p2, A2, C2, B2, D2, rfl⟩, hb⟩
        obtain ⟨E2, d2, rfl⟩ := bExt hb
        clear hb
        go_wp2_with fail
        refine (KS3.out A1 C1 _ (HS.out.below (by repeat (first | exact Below.refl _ _ | refine Below.drew ?_ | refine below_drewN ?_ _ | refine Below.alloc ?_ (by first | exact Nat.le_refl _ | (simp; done) | (simp; omega) | omega) _ | refine Below.setCell ?_ (by first | exact Nat.le_refl _ | (simp; done) | (simp; omega) | omega) _ | refine bExtW ?_ (by first | exact Nat.le_refl _ | (simp; done) | (simp; omega) | omega) | refine Below.trans ?_ (Below.mono (by assumption) (by first | exact Nat.le_refl _ | (simp; done) | (simp; omega) | omega))))) (HI1.out.below (by repeat (first | exact Below.refl _ _ | refine Below.drew ?_ | refine below_drewN ?_ _ | refine Below.alloc ?_ (by first | exact Nat.le_refl _ | (simp; done) | (simp; omega) | omega) _ | refine Below.setCell ?_ (by first | exact Nat.le_refl _ | (simp; done) | (simp; omega) | omega) _ | refine bExtW ?_ (by first | exact Nat.le_refl _ | (simp; done) | (simp; omega) | omega) | refine Below.trans ?_ (Below.mono (by assumption) (by first | exact Nat.le_refl _ | (simp; done) | (simp; omega) | omega)))))).mono ?_
        rintro r wx ⟨A3, C3, rfl, hT, hb⟩
        obtain ⟨E3, d3, rfl⟩ := bExt hb
        have HT3 := Lib.hid hT
        clear hb hT
        go_wp2_with fail
        refine (KS4.out A3 C3 _ (HS.out.below (by repeat (first | exact Below.refl _ _ | refine Below.drew ?_ | refine below_drewN ?_ _ | refine Below.alloc ?_ (by first | exact Nat.le_refl _ | (simp; done) | (simp; omega) | omega) _ | refine Below.setCell ?_ (by first | exact Nat.le_refl _ | (simp; done) | (simp; omega) | omega) _ | refine bExtW ?_ (by first | exact Nat.le_refl _ | (simp; done) | (simp; omega) | omega) | refine Below.trans ?_ (Below.mono (by assumption) (by first | exact Nat.le_refl _ | (simp; done) | (simp; omega) | omega))))) (HT3.out.below (by repeat (first | exact Below.refl _ _ | refine Below.drew ?_ | refine below_drewN ?_ _ | refine Below.alloc ?_ (by first | exact Nat.le_refl _ | (simp; done) | (simp; omega) | omega) _ | refine Below.setCell ?_ (by first | exact Nat.le_refl _ | (simp; done) | (simp; omega) | omega) _ | refine bExtW ?_ (by first | exact Nat.le_refl _ | (simp; done) | (simp; omega) | omega) | refine Below.trans ?_ (Below.mono (by assumption) (by first | exact Nat.le_refl _ | (simp; done) | (simp; omega) | omega)))))).mono ?_
        rintro r wx ⟨A4, C4, rfl, hI, hz, hb⟩
        obtain ⟨E4, d4, rfl⟩ := bExt hb
        have HI4 := Lib.hid hI
        clear hb hI hz
        (go_wp2_with fail; refine (sameC_self 4 en pn mn A1 C1 A4 C4 L1 _ (HI1.out.below (by repeat (first | exact Below.refl _ _ | refine Below.drew ?_ | refine below_drewN ?_ _ | refine Below.alloc ?_ (by first | exact Nat.le_refl _ | (simp; done) | (simp; omega) | omega) _ | refine Below.setCell ?_ (by first | exact Nat.le_refl _ | (simp; done) | (simp; omega) | omega) _ | refine bExtW ?_ (by first | exact Nat.le_refl _ | (simp; done) | (simp; omega) | omega) | refine Below.trans ?_ (Below.mono (by assumption) (by first | exact Nat.le_refl _ | (simp; done) | (simp; omega) | omega))))) (HI4.out.below (by repeat (first | exact Below.refl _ _ | refine Below.drew ?_ | refine below_drewN ?_ _ | refine Below.alloc ?_ (by first | exact Nat.le_refl _ | (simp; done) | (simp; omega) | omega) _ | refine Below.setCell ?_ (by first | exact Nat.le_refl _ | (simp; done) | (simp; omega) | omega) _ | refine bExtW ?_ (by first | exact Nat.le_refl _ | (simp; done) | (simp; omega) | omega) | refine Below.trans ?_ (Below.mono (by assumption) (by first | exact Nat.le_refl _ | (simp; done) | (simp; omega) | omega))))) hm1).mono ?_; rintro r w1 ⟨rfl, hb⟩; obtain ⟨E, d, rfl⟩ := bExt hb; clear hb)
        (go_wp2_with fail; refine (KST.out _ (HC.out.below (by repeat (first | exact Below.refl _ _ | refine Below.drew ?_ | refine below_drewN ?_ _ | refine Below.alloc ?_ (by first | exact Nat.le_refl _ | (simp; done) | (simp; omega) | omega) _ | refine Below.setCell ?_ (by first | exact Nat.le_refl _ | (simp; done) | (simp; omega) | omega) _ | refine bExtW ?_ (by first | exact Nat.le_refl _ | (simp; done) | (simp; omega) | omega) | refine Below.trans ?_ (Below.mono (by assumption) (by first | exact Nat.le_refl _ | (simp; done) | (simp; omega) | omega)))))).mono ?_; rintro r w1 ⟨rfl, hb⟩; obtain ⟨E, d, rfl⟩ := bExt hb; clear hb)
        go_wp2_with fail
        refine (KCL.out _ (HS.out.below (by repeat (first | exact Below.refl _ _ | refine Below.drew ?_ | refine below_drewN ?_ _ | refine Below.alloc ?_ (by first | exact Nat.le_refl _ | (simp; done) | (simp; omega) | omega) _ | refine Below.setCell ?_ (by first | exact Nat.le_refl _ | (simp; done) | (simp; omega) | omega) _ | refine bExtW ?_ (by first | exact Nat.le_refl _ | (simp; done) | (simp; omega) | omega) | refine Below.trans ?_ (Below.mono (by assumption) (by first | exact Nat.le_refl _ | (simp; done) | (simp; omega) | omega))))) (HC.out.below (by repeat (first | exact Below.refl _ _ | refine Below.drew ?_ | refine below_drewN ?_ _ | refine Below.alloc ?_ (by first | exact Nat.le_refl _ | (simp; done) | (simp; omega) | omega) _ | refine Below.setCell ?_ (by first | exact Nat.le_refl _ | (simp; done) | (simp; omega) | omega) _ | refine bExtW ?_ (by first | exact Nat.le_refl _ | (simp; done) | (simp; omega) | omega) | refine Below.trans ?_ (Below.mono (by assumption) (by first | exact Nat.le_refl _ | (simp; done) | (simp; omega) | omega)))))).mono ?_
        rintro r wx ⟨A21, C21, rfl, hT, hb⟩
        obtain ⟨E21, d21, rfl⟩ := bExt hb
        have HT21 := Lib.hid hT
        clear hb hT
        go_wp2
        go_ret
        exact ⟨rfl, (by repeat (first | exact Below.refl _ _ | refine Below.drew ?_ | refine below_drewN ?_ _ | refine Below.alloc ?_ (by first | exact Nat.le_refl _ | (simp; done) | (simp; omega) | omega) _ | refine Below.setCell ?_ (by first | exact Nat.le_refl _ | (simp; done) | (simp; omega) | omega) _ | refine bExtW ?_ (by first | exact Nat.le_refl _ | (simp; done) | (simp; omega) | omega) | refine Below.trans ?_ (Below.mono (by assumption) (by first | exact Nat.le_refl _ | (simp; done) | (simp; omega) | omega))))⟩
      · have hcl := HC.out.1
        have KST : Hid (∀ w, IsInts w a n cs → Calls Try.prog 28 #[.agg #[.int .i64 (4), .int .i64 (W'), .int .i64 (H'), .slice a n c]] w fun r w' => (∃ p A C B D, Str W' cs (W' + H') (W' + H') p ∧ r = .returned (.tuple #[.agg #[.slice A W' C, .slice B H' D], .int .i64 (0)]) ∧ IsInts w' A W' (p.take W') ∧ IsInts w' B H' (p.drop W')) ∧ Below w.heap.size w w') := Lib.hid fun w h => (eStr_ok W' H' n a c cs w h w2 v2 w1 v1 hn hCR).mono fun r w' h => by
          obtain ⟨h1, h2⟩ := h
          rcases h1 with ⟨h1, _⟩ | h1
          · exact absurd h1 hst
          · exact ⟨h1, h2⟩
        have hn4 : n ≤ 4096 := by rw [hn]; exact Nat.mul_le_mul w2 v2
        have KCL : Hid (∀ (p : List Int) A C B D w, Str W' cs (W' + H') (W' + H') p → SArg A W' C (p.take W') B H' D (p.drop W') w → IsInts w a n cs → Calls Try.prog 29 #[.agg #[.slice A W' C, .slice B H' D], .agg #[.int .i64 (4), .int .i64 (W'), .int .i64 (H'), .slice a n c]] w (TrPost W' H' n (clB W' (p.take W') cs n) 0 w)) := Lib.hid fun p A C B D w hp h1 h2 => (eCl_ok W' H' A C (p.take W') B D (p.drop W') a n c cs w h1 (someI h1.e w1) (someI h1.p v1) (stE_of_str w1 w2 v1 v2 hp) h2 w2 v2 hn hCR).mono fun r w' h => by
          unfold ClPost at h
          rcases h with ⟨_, h⟩ | ⟨h, _⟩
          · exact h
          · exact absurd (clOk_of_str w1 hn hp) h
        have KSH : Hid (∀ (p : List Int) A C B D x y w, Str W' cs (W' + H') (W' + H') p → SArg A W' C (p.take W') B H' D (p.drop W') w → OkT w x n y (clB W' (p.take W') cs n) → Calls Try.prog 30 #[.agg #[.slice A W' C, .slice B H' D], .agg #[.int .i64 (W'), .int .i64 (H'), .slice x n y]] w (ChPost 4 W' H' n cs 0 w)) := Lib.hid fun p A C B D x y w hp h1 h2 => by
          have := eSh_ok W' H' A C (p.take W') B D (p.drop W') x n y (clB W' (p.take W') cs n) w h1 (someI h1.e w1) (someI h1.p v1) (stE_of_str w1 w2 v1 v2 hp) h2 w2 v2 hn
          rwa [shL_clB hcl (clOk_of_str w1 hn hp)] at this
        clear hg hn hCR hst hcl
        go_enter Try.func11, Try.ntmps11
        (go_wp2_with fail; refine (alive19_any _).mono ?_; rintro r w1 ⟨rfl, hb⟩; obtain ⟨E, d, rfl⟩ := bExt hb; clear hb)
        go_wp2_with fail
        refine (KS1.out _ (HS.out.below (by repeat (first | exact Below.refl _ _ | refine Below.drew ?_ | refine below_drewN ?_ _ | refine Below.alloc ?_ (by first | exact Nat.le_refl _ | (simp; done) | (simp; omega) | omega) _ | refine Below.setCell ?_ (by first | exact Nat.le_refl _ | (simp; done) | (simp; omega) | omega) _ | refine bExtW ?_ (by first | exact Nat.le_refl _ | (simp; done) | (simp; omega) | omega) | refine Below.trans ?_ (Below.mono (by assumption) (by first | exact Nat.le_refl _ | (simp; done) | (simp; omega) | omega))))) (HM.out.below (by repeat (first | exact Below.refl _ _ | refine Below.drew ?_ | refine below_drewN ?_ _ | refine Below.alloc ?_ (by first | exact Nat.le_refl _ | (simp; done) | (simp; omega) | omega) _ | refine Below.setCell ?_ (by first | exact Nat.le_refl _ | (simp; done) | (simp; omega) | omega) _ | refine bExtW ?_ (by first | exact Nat.le_refl _ | (simp; done) | (simp; omega) | omega) | refine Below.trans ?_ (Below.mono (by assumption) (by first | exact Nat.le_refl _ | (simp; done) | (simp; omega) | omega)))))).mono ?_
        rintro r wx ⟨A1, C1, rfl, hI, hz, hb⟩
        obtain ⟨E1, d1, rfl⟩ := bExt hb
        have HI1 := Lib.hid hI
        clear hb hI hz
        go_wp2_with fail
        refine (KS2.out A1 C1 _ (HI1.out.below (by repeat (first | exact Below.refl _ _ | refine Below.drew ?_ | refine below_drewN ?_ _ | refine Below.alloc ?_ (by first | exact Nat.le_refl _ | (simp; done) | (simp; omega) | omega) _ | refine Below.setCell ?_ (by first | exact Nat.le_refl _ | (simp; done) | (simp; omega) | omega) _ | refine bExtW ?_ (by first | exact Nat.le_refl _ | (simp; done) | (simp; omega) | omega) | refine Below.trans ?_ (Below.mono (by assumption) (by first | exact Nat.le_refl _ | (simp; done) | (simp; omega) | omega)))))).mono ?_
        rintro r wx ⟨⟨p2, A2, C2, B2, D2, rfl⟩, hb⟩
        obtain ⟨E2, d2, rfl⟩ := bExt hb
        clear hb
        go_wp2_with fail
        refine (KS3.out A1 C1 _ (HS.out.below (by repeat (first | exact Below.refl _ _ | refine Below.drew ?_ | refine below_drewN ?_ _ | refine Below.alloc ?_ (by first | exact Nat.le_refl _ | (simp; done) | (simp; omega) | omega) _ | refine Below.setCell ?_ (by first | exact Nat.le_refl _ | (simp; done) | (simp; omega) | omega) _ | refine bExtW ?_ (by first | exact Nat.le_refl _ | (simp; done) | (simp; omega) | omega) | refine Below.trans ?_ (Below.mono (by assumption) (by first | exact Nat.le_refl _ | (simp; done) | (simp; omega) | omega))))) (HI1.out.below (by repeat (first | exact Below.refl _ _ | refine Below.drew ?_ | refine below_drewN ?_ _ | refine Below.alloc ?_ (by first | exact Nat.le_refl _ | (simp; done) | (simp; omega) | omega) _ | refine Below.setCell ?_ (by first | exact Nat.le_refl _ | (simp; done) | (simp; omega) | omega) _ | refine bExtW ?_ (by first | exact Nat.le_refl _ | (simp; done) | (simp; omega) | omega) | refine Below.trans ?_ (Below.mono (by assumption) (by first | exact Nat.le_refl _ | (simp; done) | (simp; omega) | omega)))))).mono ?_
        rintro r wx ⟨A3, C3, rfl, hT, hb⟩
        obtain ⟨E3, d3, rfl⟩ := bExt hb
        have HT3 := Lib.hid hT
        clear hb hT
        go_wp2_with fail
        refine (KS4.out A3 C3 _ (HS.out.below (by repeat (first | exact Below.refl _ _ | refine Below.drew ?_ | refine below_drewN ?_ _ | refine Below.alloc ?_ (by first | exact Nat.le_refl _ | (simp; done) | (simp; omega) | omega) _ | refine Below.setCell ?_ (by first | exact Nat.le_refl _ | (simp; done) | (simp; omega) | omega) _ | refine bExtW ?_ (by first | exact Nat.le_refl _ | (simp; done) | (simp; omega) | omega) | refine Below.trans ?_ (Below.mono (by assumption) (by first | exact Nat.le_refl _ | (simp; done) | (simp; omega) | omega))))) (HT3.out.below (by repeat (first | exact Below.refl _ _ | refine Below.drew ?_ | refine below_drewN ?_ _ | refine Below.alloc ?_ (by first | exact Nat.le_refl _ | (simp; done) | (simp; omega) | omega) _ | refine Below.setCell ?_ (by first | exact Nat.le_refl _ | (simp; done) | (simp; omega) | omega) _ | refine bExtW ?_ (by first | exact Nat.le_refl _ | (simp; done) | (simp; omega) | omega) | refine Below.trans ?_ (Below.mono (by assumption) (by first | exact Nat.le_refl _ | (simp; done) | (simp; omega) | omega)))))).mono ?_
        rintro r wx ⟨A4, C4, rfl, hI, hz, hb⟩
        obtain ⟨E4, d4, rfl⟩ := bExt hb
        have HI4 := Lib.hid hI
        clear hb hI hz
        (go_wp2_with fail; refine (sameC_self 4 en pn mn A1 C1 A4 C4 L1 _ (HI1.out.below (by repeat (first | exact Below.refl _ _ | refine Below.drew ?_ | refine below_drewN ?_ _ | refine Below.alloc ?_ (by first | exact Nat.le_refl _ | (simp; done) | (simp; omega) | omega) _ | refine Below.setCell ?_ (by first | exact Nat.le_refl _ | (simp; done) | (simp; omega) | omega) _ | refine bExtW ?_ (by first | exact Nat.le_refl _ | (simp; done) | (simp; omega) | omega) | refine Below.trans ?_ (Below.mono (by assumption) (by first | exact Nat.le_refl _ | (simp; done) | (simp; omega) | omega))))) (HI4.out.below (by repeat (first | exact Below.refl _ _ | refine Below.drew ?_ | refine below_drewN ?_ _ | refine Below.alloc ?_ (by first | exact Nat.le_refl _ | (simp; done) | (simp; omega) | omega) _ | refine Below.setCell ?_ (by first | exact Nat.le_refl _ | (simp; done) | (simp; omega) | omega) _ | refine bExtW ?_ (by first | exact Nat.le_refl _ | (simp; done) | (simp; omega) | omega) | refine Below.trans ?_ (Below.mono (by assumption) (by first | exact Nat.le_refl _ | (simp; done) | (simp; omega) | omega))))) hm1).mono ?_; rintro r w1 ⟨rfl, hb⟩; obtain ⟨E, d, rfl⟩ := bExt hb; clear hb)
        go_wp2_with fail
        refine (KST.out _ (HC.out.below (by repeat (first | exact Below.refl _ _ | refine Below.drew ?_ | refine below_drewN ?_ _ | refine Below.alloc ?_ (by first | exact Nat.le_refl _ | (simp; done) | (simp; omega) | omega) _ | refine Below.setCell ?_ (by first | exact Nat.le_refl _ | (simp; done) | (simp; omega) | omega) _ | refine bExtW ?_ (by first | exact Nat.le_refl _ | (simp; done) | (simp; omega) | omega) | refine Below.trans ?_ (Below.mono (by assumption) (by first | exact Nat.le_refl _ | (simp; done) | (simp; omega) | omega)))))).mono ?_
        rintro r wx ⟨⟨p, A31, C31, B31, D31, hp, rfl, hi1, hi2⟩, hb⟩
        obtain ⟨E31, d31, rfl⟩ := bExt hb
        have HPS := Lib.hid hp
        have HS31 : Hid (SArg A31 W' C31 (p.take W') B31 H' D31 (p.drop W') _) := Lib.hid ⟨hi1, hi2⟩
        clear hb hp hi1 hi2
        go_wp2_with fail
        refine (KCL.out p A31 C31 B31 D31 _ HPS.out (HS31.out.below (by repeat (first | exact Below.refl _ _ | refine Below.drew ?_ | refine below_drewN ?_ _ | refine Below.alloc ?_ (by first | exact Nat.le_refl _ | (simp; done) | (simp; omega) | omega) _ | refine Below.setCell ?_ (by first | exact Nat.le_refl _ | (simp; done) | (simp; omega) | omega) _ | refine bExtW ?_ (by first | exact Nat.le_refl _ | (simp; done) | (simp; omega) | omega) | refine Below.trans ?_ (Below.mono (by assumption) (by first | exact Nat.le_refl _ | (simp; done) | (simp; omega) | omega))))) (HC.out.below (by repeat (first | exact Below.refl _ _ | refine Below.drew ?_ | refine below_drewN ?_ _ | refine Below.alloc ?_ (by first | exact Nat.le_refl _ | (simp; done) | (simp; omega) | omega) _ | refine Below.setCell ?_ (by first | exact Nat.le_refl _ | (simp; done) | (simp; omega) | omega) _ | refine bExtW ?_ (by first | exact Nat.le_refl _ | (simp; done) | (simp; omega) | omega) | refine Below.trans ?_ (Below.mono (by assumption) (by first | exact Nat.le_refl _ | (simp; done) | (simp; omega) | omega)))))).mono ?_
        rintro r wx ⟨A32, C32, rfl, hT, hb⟩
        obtain ⟨E32, d32, rfl⟩ := bExt hb
        have HT32 := Lib.hid hT
        clear hb hT
        go_wp2_with fail
        refine (KSH.out p A31 C31 B31 D31 _ _ _ HPS.out (HS31.out.below (by repeat (first | exact Below.refl _ _ | refine Below.drew ?_ | refine below_drewN ?_ _ | refine Below.alloc ?_ (by first | exact Nat.le_refl _ | (simp; done) | (simp; omega) | omega) _ | refine Below.setCell ?_ (by first | exact Nat.le_refl _ | (simp; done) | (simp; omega) | omega) _ | refine bExtW ?_ (by first | exact Nat.le_refl _ | (simp; done) | (simp; omega) | omega) | refine Below.trans ?_ (Below.mono (by assumption) (by first | exact Nat.le_refl _ | (simp; done) | (simp; omega) | omega))))) (HT32.out.below (by repeat (first | exact Below.refl _ _ | refine Below.drew ?_ | refine below_drewN ?_ _ | refine Below.alloc ?_ (by first | exact Nat.le_refl _ | (simp; done) | (simp; omega) | omega) _ | refine Below.setCell ?_ (by first | exact Nat.le_refl _ | (simp; done) | (simp; omega) | omega) _ | refine bExtW ?_ (by first | exact Nat.le_refl _ | (simp; done) | (simp; omega) | omega) | refine Below.trans ?_ (Below.mono (by assumption) (by first | exact Nat.le_refl _ | (simp; done) | (simp; omega) | omega)))))).mono ?_
        rintro r wx ⟨A33, C33, rfl, hI, hz, hb⟩
        obtain ⟨E33, d33, rfl⟩ := bExt hb
        have HI33 := Lib.hid hI
        clear hb hI hz
        (go_wp2_with fail; refine (sameC_self 4 W' H' n a c A33 C33 cs _ (HC.out.below (by repeat (first | exact Below.refl _ _ | refine Below.drew ?_ | refine below_drewN ?_ _ | refine Below.alloc ?_ (by first | exact Nat.le_refl _ | (simp; done) | (simp; omega) | omega) _ | refine Below.setCell ?_ (by first | exact Nat.le_refl _ | (simp; done) | (simp; omega) | omega) _ | refine bExtW ?_ (by first | exact Nat.le_refl _ | (simp; done) | (simp; omega) | omega) | refine Below.trans ?_ (Below.mono (by assumption) (by first | exact Nat.le_refl _ | (simp; done) | (simp; omega) | omega))))) (HI33.out.below (by repeat (first | exact Below.refl _ _ | refine Below.drew ?_ | refine below_drewN ?_ _ | refine Below.alloc ?_ (by first | exact Nat.le_refl _ | (simp; done) | (simp; omega) | omega) _ | refine Below.setCell ?_ (by first | exact Nat.le_refl _ | (simp; done) | (simp; omega) | omega) _ | refine bExtW ?_ (by first | exact Nat.le_refl _ | (simp; done) | (simp; omega) | omega) | refine Below.trans ?_ (Below.mono (by assumption) (by first | exact Nat.le_refl _ | (simp; done) | (simp; omega) | omega))))) (by omega)).mono ?_; rintro r w1 ⟨rfl, hb⟩; obtain ⟨E, d, rfl⟩ := bExt hb; clear hb)
        go_wp2
        go_ret
        exact ⟨rfl, (by repeat (first | exact Below.refl _ _ | refine Below.drew ?_ | refine below_drewN ?_ _ | refine Below.alloc ?_ (by first | exact Nat.le_refl _ | (simp; done) | (simp; omega) | omega) _ | refine Below.setCell ?_ (by first | exact Nat.le_refl _ | (simp; done) | (simp; omega) | omega) _ | refine bExtW ?_ (by first | exact Nat.le_refl _ | (simp; done) | (simp; omega) | omega) | refine Below.trans ?_ (Below.mono (by assumption) (by first | exact Nat.le_refl _ | (simp; done) | (simp; omega) | omega))))⟩
    · have KST := Lib.hid fun w h => eStr_hex W' H' a n c cs w h (by omega) (by omega) cn hg
      clear hg hn hCR
      go_enter Try.func11, Try.ntmps11
      (go_wp2_with fail; refine (alive19_any _).mono ?_; rintro r w1 ⟨rfl, hb⟩; obtain ⟨E, d, rfl⟩ := bExt hb; clear hb)
      go_wp2_with fail
      refine (KS1.out _ (HS.out.below (by repeat (first | exact Below.refl _ _ | refine Below.drew ?_ | refine below_drewN ?_ _ | refine Below.alloc ?_ (by first | exact Nat.le_refl _ | (simp; done) | (simp; omega) | omega) _ | refine Below.setCell ?_ (by first | exact Nat.le_refl _ | (simp; done) | (simp; omega) | omega) _ | refine bExtW ?_ (by first | exact Nat.le_refl _ | (simp; done) | (simp; omega) | omega) | refine Below.trans ?_ (Below.mono (by assumption) (by first | exact Nat.le_refl _ | (simp; done) | (simp; omega) | omega))))) (HM.out.below (by repeat (first | exact Below.refl _ _ | refine Below.drew ?_ | refine below_drewN ?_ _ | refine Below.alloc ?_ (by first | exact Nat.le_refl _ | (simp; done) | (simp; omega) | omega) _ | refine Below.setCell ?_ (by first | exact Nat.le_refl _ | (simp; done) | (simp; omega) | omega) _ | refine bExtW ?_ (by first | exact Nat.le_refl _ | (simp; done) | (simp; omega) | omega) | refine Below.trans ?_ (Below.mono (by assumption) (by first | exact Nat.le_refl _ | (simp; done) | (simp; omega) | omega)))))).mono ?_
      rintro r wx ⟨A1, C1, rfl, hI, hz, hb⟩
      obtain ⟨E1, d1, rfl⟩ := bExt hb
      have HI1 := Lib.hid hI
      clear hb hI hz
      go_wp2_with fail
      refine (KS2.out A1 C1 _ (HI1.out.below (by repeat (first | exact Below.refl _ _ | refine Below.drew ?_ | refine below_drewN ?_ _ | refine Below.alloc ?_ (by first | exact Nat.le_refl _ | (simp; done) | (simp; omega) | omega) _ | refine Below.setCell ?_ (by first | exact Nat.le_refl _ | (simp; done) | (simp; omega) | omega) _ | refine bExtW ?_ (by first | exact Nat.le_refl _ | (simp; done) | (simp; omega) | omega) | refine Below.trans ?_ (Below.mono (by assumption) (by first | exact Nat.le_refl _ | (simp; done) | (simp; omega) | omega)))))).mono ?_
      rintro r wx ⟨⟨p2, A2, C2, B2, D2, rfl⟩, hb⟩
      obtain ⟨E2, d2, rfl⟩ := bExt hb
      clear hb
      go_wp2_with fail
      refine (KS3.out A1 C1 _ (HS.out.below (by repeat (first | exact Below.refl _ _ | refine Below.drew ?_ | refine below_drewN ?_ _ | refine Below.alloc ?_ (by first | exact Nat.le_refl _ | (simp; done) | (simp; omega) | omega) _ | refine Below.setCell ?_ (by first | exact Nat.le_refl _ | (simp; done) | (simp; omega) | omega) _ | refine bExtW ?_ (by first | exact Nat.le_refl _ | (simp; done) | (simp; omega) | omega) | refine Below.trans ?_ (Below.mono (by assumption) (by first | exact Nat.le_refl _ | (simp; done) | (simp; omega) | omega))))) (HI1.out.below (by repeat (first | exact Below.refl _ _ | refine Below.drew ?_ | refine below_drewN ?_ _ | refine Below.alloc ?_ (by first | exact Nat.le_refl _ | (simp; done) | (simp; omega) | omega) _ | refine Below.setCell ?_ (by first | exact Nat.le_refl _ | (simp; done) | (simp; omega) | omega) _ | refine bExtW ?_ (by first | exact Nat.le_refl _ | (simp; done) | (simp; omega) | omega) | refine Below.trans ?_ (Below.mono (by assumption) (by first | exact Nat.le_refl _ | (simp; done) | (simp; omega) | omega)))))).mono ?_
      rintro r wx ⟨A3, C3, rfl, hT, hb⟩
      obtain ⟨E3, d3, rfl⟩ := bExt hb
      have HT3 := Lib.hid hT
      clear hb hT
      go_wp2_with fail
      refine (KS4.out A3 C3 _ (HS.out.below (by repeat (first | exact Below.refl _ _ | refine Below.drew ?_ | refine below_drewN ?_ _ | refine Below.alloc ?_ (by first | exact Nat.le_refl _ | (simp; done) | (simp; omega) | omega) _ | refine Below.setCell ?_ (by first | exact Nat.le_refl _ | (simp; done) | (simp; omega) | omega) _ | refine bExtW ?_ (by first | exact Nat.le_refl _ | (simp; done) | (simp; omega) | omega) | refine Below.trans ?_ (Below.mono (by assumption) (by first | exact Nat.le_refl _ | (simp; done) | (simp; omega) | omega))))) (HT3.out.below (by repeat (first | exact Below.refl _ _ | refine Below.drew ?_ | refine below_drewN ?_ _ | refine Below.alloc ?_ (by first | exact Nat.le_refl _ | (simp; done) | (simp; omega) | omega) _ | refine Below.setCell ?_ (by first | exact Nat.le_refl _ | (simp; done) | (simp; omega) | omega) _ | refine bExtW ?_ (by first | exact Nat.le_refl _ | (simp; done) | (simp; omega) | omega) | refine Below.trans ?_ (Below.mono (by assumption) (by first | exact Nat.le_refl _ | (simp; done) | (simp; omega) | omega)))))).mono ?_
      rintro r wx ⟨A4, C4, rfl, hI, hz, hb⟩
      obtain ⟨E4, d4, rfl⟩ := bExt hb
      have HI4 := Lib.hid hI
      clear hb hI hz
      (go_wp2_with fail; refine (sameC_self 4 en pn mn A1 C1 A4 C4 L1 _ (HI1.out.below (by repeat (first | exact Below.refl _ _ | refine Below.drew ?_ | refine below_drewN ?_ _ | refine Below.alloc ?_ (by first | exact Nat.le_refl _ | (simp; done) | (simp; omega) | omega) _ | refine Below.setCell ?_ (by first | exact Nat.le_refl _ | (simp; done) | (simp; omega) | omega) _ | refine bExtW ?_ (by first | exact Nat.le_refl _ | (simp; done) | (simp; omega) | omega) | refine Below.trans ?_ (Below.mono (by assumption) (by first | exact Nat.le_refl _ | (simp; done) | (simp; omega) | omega))))) (HI4.out.below (by repeat (first | exact Below.refl _ _ | refine Below.drew ?_ | refine below_drewN ?_ _ | refine Below.alloc ?_ (by first | exact Nat.le_refl _ | (simp; done) | (simp; omega) | omega) _ | refine Below.setCell ?_ (by first | exact Nat.le_refl _ | (simp; done) | (simp; omega) | omega) _ | refine bExtW ?_ (by first | exact Nat.le_refl _ | (simp; done) | (simp; omega) | omega) | refine Below.trans ?_ (Below.mono (by assumption) (by first | exact Nat.le_refl _ | (simp; done) | (simp; omega) | omega))))) hm1).mono ?_; rintro r w1 ⟨rfl, hb⟩; obtain ⟨E, d, rfl⟩ := bExt hb; clear hb)
      (go_wp2_with fail; refine (KST.out _ (HC.out.below (by repeat (first | exact Below.refl _ _ | refine Below.drew ?_ | refine below_drewN ?_ _ | refine Below.alloc ?_ (by first | exact Nat.le_refl _ | (simp; done) | (simp; omega) | omega) _ | refine Below.setCell ?_ (by first | exact Nat.le_refl _ | (simp; done) | (simp; omega) | omega) _ | refine bExtW ?_ (by first | exact Nat.le_refl _ | (simp; done) | (simp; omega) | omega) | refine Below.trans ?_ (Below.mono (by assumption) (by first | exact Nat.le_refl _ | (simp; done) | (simp; omega) | omega)))))).mono ?_; rintro r w1 ⟨rfl, hb⟩; obtain ⟨E, d, rfl⟩ := bExt hb; clear hb)
      go_wp2
      go_ret
      exact ⟨rfl, (by repeat (first | exact Below.refl _ _ | refine Below.drew ?_ | refine below_drewN ?_ _ | refine Below.alloc ?_ (by first | exact Nat.le_refl _ | (simp; done) | (simp; omega) | omega) _ | refine Below.setCell ?_ (by first | exact Nat.le_refl _ | (simp; done) | (simp; omega) | omega) _ | refine bExtW ?_ (by first | exact Nat.le_refl _ | (simp; done) | (simp; omega) | omega) | refine Below.trans ?_ (Below.mono (by assumption) (by first | exact Nat.le_refl _ | (simp; done) | (simp; omega) | omega))))⟩
  · have KST := Lib.hid fun w h => eStr_bad G W H a n c cs w h h0 h1 h2 cn hg
    have b1 : (chE G W H n cs == 0) = false := by simpa using hg
    have b2 : (chE G W H n cs == 6) = false := by have := chE_six G W H n cs; simpa using this
    clear hg
    generalize chE G W H n cs = e5 at *
    go_enter Try.func11, Try.ntmps11
    (go_wp2_with fail; refine (alive19_any _).mono ?_; rintro r w1 ⟨rfl, hb⟩; obtain ⟨E, d, rfl⟩ := bExt hb; clear hb)
    go_wp2_with fail
    refine (KS1.out _ (HS.out.below (by repeat (first | exact Below.refl _ _ | refine Below.drew ?_ | refine below_drewN ?_ _ | refine Below.alloc ?_ (by first | exact Nat.le_refl _ | (simp; done) | (simp; omega) | omega) _ | refine Below.setCell ?_ (by first | exact Nat.le_refl _ | (simp; done) | (simp; omega) | omega) _ | refine bExtW ?_ (by first | exact Nat.le_refl _ | (simp; done) | (simp; omega) | omega) | refine Below.trans ?_ (Below.mono (by assumption) (by first | exact Nat.le_refl _ | (simp; done) | (simp; omega) | omega))))) (HM.out.below (by repeat (first | exact Below.refl _ _ | refine Below.drew ?_ | refine below_drewN ?_ _ | refine Below.alloc ?_ (by first | exact Nat.le_refl _ | (simp; done) | (simp; omega) | omega) _ | refine Below.setCell ?_ (by first | exact Nat.le_refl _ | (simp; done) | (simp; omega) | omega) _ | refine bExtW ?_ (by first | exact Nat.le_refl _ | (simp; done) | (simp; omega) | omega) | refine Below.trans ?_ (Below.mono (by assumption) (by first | exact Nat.le_refl _ | (simp; done) | (simp; omega) | omega)))))).mono ?_
    rintro r wx ⟨A1, C1, rfl, hI, hz, hb⟩
    obtain ⟨E1, d1, rfl⟩ := bExt hb
    have HI1 := Lib.hid hI
    clear hb hI hz
    go_wp2_with fail
    refine (KS2.out A1 C1 _ (HI1.out.below (by repeat (first | exact Below.refl _ _ | refine Below.drew ?_ | refine below_drewN ?_ _ | refine Below.alloc ?_ (by first | exact Nat.le_refl _ | (simp; done) | (simp; omega) | omega) _ | refine Below.setCell ?_ (by first | exact Nat.le_refl _ | (simp; done) | (simp; omega) | omega) _ | refine bExtW ?_ (by first | exact Nat.le_refl _ | (simp; done) | (simp; omega) | omega) | refine Below.trans ?_ (Below.mono (by assumption) (by first | exact Nat.le_refl _ | (simp; done) | (simp; omega) | omega)))))).mono ?_
    rintro r wx ⟨⟨p2, A2, C2, B2, D2, rfl⟩, hb⟩
    obtain ⟨E2, d2, rfl⟩ := bExt hb
    clear hb
    go_wp2_with fail
    refine (KS3.out A1 C1 _ (HS.out.below (by repeat (first | exact Below.refl _ _ | refine Below.drew ?_ | refine below_drewN ?_ _ | refine Below.alloc ?_ (by first | exact Nat.le_refl _ | (simp; done) | (simp; omega) | omega) _ | refine Below.setCell ?_ (by first | exact Nat.le_refl _ | (simp; done) | (simp; omega) | omega) _ | refine bExtW ?_ (by first | exact Nat.le_refl _ | (simp; done) | (simp; omega) | omega) | refine Below.trans ?_ (Below.mono (by assumption) (by first | exact Nat.le_refl _ | (simp; done) | (simp; omega) | omega))))) (HI1.out.below (by repeat (first | exact Below.refl _ _ | refine Below.drew ?_ | refine below_drewN ?_ _ | refine Below.alloc ?_ (by first | exact Nat.le_refl _ | (simp; done) | (simp; omega) | omega) _ | refine Below.setCell ?_ (by first | exact Nat.le_refl _ | (simp; done) | (simp; omega) | omega) _ | refine bExtW ?_ (by first | exact Nat.le_refl _ | (simp; done) | (simp; omega) | omega) | refine Below.trans ?_ (Below.mono (by assumption) (by first | exact Nat.le_refl _ | (simp; done) | (simp; omega) | omega)))))).mono ?_
    rintro r wx ⟨A3, C3, rfl, hT, hb⟩
    obtain ⟨E3, d3, rfl⟩ := bExt hb
    have HT3 := Lib.hid hT
    clear hb hT
    go_wp2_with fail
    refine (KS4.out A3 C3 _ (HS.out.below (by repeat (first | exact Below.refl _ _ | refine Below.drew ?_ | refine below_drewN ?_ _ | refine Below.alloc ?_ (by first | exact Nat.le_refl _ | (simp; done) | (simp; omega) | omega) _ | refine Below.setCell ?_ (by first | exact Nat.le_refl _ | (simp; done) | (simp; omega) | omega) _ | refine bExtW ?_ (by first | exact Nat.le_refl _ | (simp; done) | (simp; omega) | omega) | refine Below.trans ?_ (Below.mono (by assumption) (by first | exact Nat.le_refl _ | (simp; done) | (simp; omega) | omega))))) (HT3.out.below (by repeat (first | exact Below.refl _ _ | refine Below.drew ?_ | refine below_drewN ?_ _ | refine Below.alloc ?_ (by first | exact Nat.le_refl _ | (simp; done) | (simp; omega) | omega) _ | refine Below.setCell ?_ (by first | exact Nat.le_refl _ | (simp; done) | (simp; omega) | omega) _ | refine bExtW ?_ (by first | exact Nat.le_refl _ | (simp; done) | (simp; omega) | omega) | refine Below.trans ?_ (Below.mono (by assumption) (by first | exact Nat.le_refl _ | (simp; done) | (simp; omega) | omega)))))).mono ?_
    rintro r wx ⟨A4, C4, rfl, hI, hz, hb⟩
    obtain ⟨E4, d4, rfl⟩ := bExt hb
    have HI4 := Lib.hid hI
    clear hb hI hz
    (go_wp2_with fail; refine (sameC_self 4 en pn mn A1 C1 A4 C4 L1 _ (HI1.out.below (by repeat (first | exact Below.refl _ _ | refine Below.drew ?_ | refine below_drewN ?_ _ | refine Below.alloc ?_ (by first | exact Nat.le_refl _ | (simp; done) | (simp; omega) | omega) _ | refine Below.setCell ?_ (by first | exact Nat.le_refl _ | (simp; done) | (simp; omega) | omega) _ | refine bExtW ?_ (by first | exact Nat.le_refl _ | (simp; done) | (simp; omega) | omega) | refine Below.trans ?_ (Below.mono (by assumption) (by first | exact Nat.le_refl _ | (simp; done) | (simp; omega) | omega))))) (HI4.out.below (by repeat (first | exact Below.refl _ _ | refine Below.drew ?_ | refine below_drewN ?_ _ | refine Below.alloc ?_ (by first | exact Nat.le_refl _ | (simp; done) | (simp; omega) | omega) _ | refine Below.setCell ?_ (by first | exact Nat.le_refl _ | (simp; done) | (simp; omega) | omega) _ | refine bExtW ?_ (by first | exact Nat.le_refl _ | (simp; done) | (simp; omega) | omega) | refine Below.trans ?_ (Below.mono (by assumption) (by first | exact Nat.le_refl _ | (simp; done) | (simp; omega) | omega))))) hm1).mono ?_; rintro r w1 ⟨rfl, hb⟩; obtain ⟨E, d, rfl⟩ := bExt hb; clear hb)
    (go_wp2_with fail; refine (KST.out _ (HC.out.below (by repeat (first | exact Below.refl _ _ | refine Below.drew ?_ | refine below_drewN ?_ _ | refine Below.alloc ?_ (by first | exact Nat.le_refl _ | (simp; done) | (simp; omega) | omega) _ | refine Below.setCell ?_ (by first | exact Nat.le_refl _ | (simp; done) | (simp; omega) | omega) _ | refine bExtW ?_ (by first | exact Nat.le_refl _ | (simp; done) | (simp; omega) | omega) | refine Below.trans ?_ (Below.mono (by assumption) (by first | exact Nat.le_refl _ | (simp; done) | (simp; omega) | omega)))))).mono ?_; rintro r w1 ⟨rfl, hb⟩; obtain ⟨E, d, rfl⟩ := bExt hb; clear hb)
    go_wp2
    go_ret
    exact ⟨rfl, (by repeat (first | exact Below.refl _ _ | refine Below.drew ?_ | refine below_drewN ?_ _ | refine Below.alloc ?_ (by first | exact Nat.le_refl _ | (simp; done) | (simp; omega) | omega) _ | refine Below.setCell ?_ (by first | exact Nat.le_refl _ | (simp; done) | (simp; omega) | omega) _ | refine bExtW ?_ (by first | exact Nat.le_refl _ | (simp; done) | (simp; omega) | omega) | refine Below.trans ?_ (Below.mono (by assumption) (by first | exact Nat.le_refl _ | (simp; done) | (simp; omega) | omega))))⟩
theorem complete_walk (ea : Option Addr) (en ec : Nat) (es : List Int) (pa : Option Addr) (pn pc : Nat) (ps : List Int) (MW MH : Int) (ma : Option Addr) (mn mc : Nat) (mb : List Bool) (G W H : Int) (a : Option Addr) (n c : Nat) (cs : List Int) (w : World) (hS : SArg ea en ec es pa pn pc ps w) (hM : OkT w ma mn mc mb) (hC : IsInts w a n cs) (he : en ≤ 9223372036854775807) (hp : pn ≤ 9223372036854775807) (z1 : ea = none → ec = 0) (z2 : pa = none → pc = 0) (g1 : (-9223372036854775808 ≤ MW ∧ MW ≤ 9223372036854775807)) (g2 : (-9223372036854775808 ≤ MH ∧ MH ≤ 9223372036854775807)) (h0 : (-9223372036854775808 ≤ G ∧ G ≤ 9223372036854775807)) (h1 : (-9223372036854775808 ≤ W ∧ W ≤ 9223372036854775807)) (h2 : (-9223372036854775808 ≤ H ∧ H ≤ 9223372036854775807)) (cn : n ≤ 9223372036854775807) :
    Calls Try.prog 11 #[.agg #[.slice ea en ec, .slice pa pn pc], .agg #[.int .i64 (MW), .int .i64 (MH), .slice ma mn mc], .agg #[.int .i64 (G), .int .i64 (W), .int .i64 (H), .slice a n c]] w fun e w' => e = .returned (.bool true) ∧ Below w.heap.size w w' := by
  have hel := hS.e.1; have hpl := hS.p.1
  have h3 : mn ≤ 9223372036854775807 := Nat.le_trans hM.cap hM.lim
  by_cases hs : stE en pn es ps = 0
  · by_cases hw : wrT MW MH mn = 0
    · obtain ⟨W', H', rfl, rfl, hW, hH, hn⟩ := wrT_zero hw
      by_cases hf : W' ≠ en ∨ H' ≠ pn
      · exact comp_bad ea en ec es pa pn pc ps W' H' ma mn mc mb G W H a n c cs w hS hM hC he hp z1 z2 h0 h1 h2 cn 8 (by omega) (Lib.hid fun w x y => eSh_e3 ea en ec es pa pn pc ps W' H' ma mn mc w x he hp z1 z2 hs hW hH hn hf)
      · have hWe : W' = en := by omega
        have hHp : H' = pn := by omega
        subst hWe hHp
        obtain ⟨w1, w2, v1, v2, _⟩ := stE_zero hs
        have hL : (shL W' es ps mb mn).length = mn := shL_len _ _ _ _ _
        have hok : clOk W' es ps (shL W' es ps mb mn) mn := clOk_shL
        have hrg := range_shL (bs := mb) hn hel hpl hs
        refine comp_good ea W' ec es pa H' pc ps W' H' ma mn mc mb G W H a n c cs w hS hM hC he hp z1 z2 h0 h1 h2 cn (shL W' es ps mb mn) h3 (Lib.hid fun w x y => eSh_ok W' H' ea ec es pa pc ps ma mn mc mb w x z1 z2 hs y hW hH hn) (Lib.hid fun A C w x => (eStr_ok W' H' mn A C _ w x w2 v2 w1 v1 hn hrg).mono ?_) (Lib.hid fun A C w x y => (eCl_ok W' H' ea ec es pa pc ps A mn C _ w x z1 z2 hs y hW hH hn hrg).mono ?_) (Lib.hid fun A C w x y => ?_)
        · intro r w' h
          obtain ⟨h4, h5⟩ := h
          rcases h4 with ⟨h4, _⟩ | ⟨p, A, C, B, D, _, h4, _⟩
          · exact absurd h4 (soln_of hn hel hpl hs hok).not_stuck
          · exact ⟨⟨p, A, C, B, D, h4⟩, h5⟩
        · intro r w' h
          unfold ClPost at h
          rcases h with ⟨_, h⟩ | ⟨h, _⟩
          · exact h
          · exact absurd hok h
        · have := eSh_ok W' H' ea ec es pa pc ps A mn C (clB W' es (shL W' es ps mb mn) mn) w x z1 z2 hs y hW hH hn
          rwa [shL_clB hL hok] at this
    · exact comp_bad ea en ec es pa pn pc ps MW MH ma mn mc mb G W H a n c cs w hS hM hC he hp z1 z2 h0 h1 h2 cn _ hw (Lib.hid fun w x y => eSh_e2 ea en ec es pa pn pc ps MW MH ma mn mc w x he hp z1 z2 hs g1 g2 h3 hw)
  · exact comp_bad ea en ec es pa pn pc ps MW MH ma mn mc mb G W H a n c cs w hS hM hC he hp z1 z2 h0 h1 h2 cn _ hs (Lib.hid fun w x y => eSh_e1 ea en ec es pa pn pc ps MW MH ma mn mc w x he hp z1 z2 hs)
end Go.Proofs.Yticplgjpflaelaa
