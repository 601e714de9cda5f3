/- Lemmas and contracts of functions (what each call returns, and that it changes nothing that was there) that the proof of a law of this seat uses; each lemma states its own conditions. -/
import Derived.Test.YticplgjpflaelaaEf12
import Derived.Test.YticplgjpflaelaaEf7
import Derived.Test.YticplgjpflaelaaBit
namespace Go.Proofs.Yticplgjpflaelaa
open Go.RowKit
set_option linter.unusedVariables false
set_option linter.unusedSimpArgs false
open Ef
def colOk (l : List Int) : Bool := decide (∀ x ∈ l, 0 ≤ x ∧ x < 62)
set_option maxRecDepth 100000 in
set_option maxHeartbeats 8000000 in
theorem colours_any (a : Option Addr) (n c : Nat) (l : List Int) (w : World) (hi : IsInts w a n l) (hn : n ≤ 9223372036854775807) :
    Calls Try.prog 83 #[.slice a n c] w fun e w' => e = .returned (.bool (colOk l)) ∧ Below w.heap.size w w' := by
  have HI := Lib.hid hi; have HL := Lib.hid hi.1
  clear hi
  go_enter Try.func83, Try.ntmps83
  go_wp2_with fail
  go_loopw [7] (fun i wr => ∃ k : Nat, k ≤ n ∧ i = .int .i64 k ∧ Hid (∀ j, j < k → 0 ≤ l.getD j 0 ∧ l.getD j 0 < 62) ∧ Below w.heap.size w wr) (fun i _ => n - (intOf i).toNat)
  case atStart => exact ⟨0, Nat.zero_le _, rfl, Lib.hid fun j h => absurd h (by omega), Below.refl _ _⟩
  case round =>
    obtain ⟨k, hk, rfl, HJ, hbel⟩ := hrel
    have HBL := Lib.hid hbel
    by_cases hkn : k < n
    · obtain ⟨b, o, rfl, hb, hc⟩ := (HI.out.below hbel).2 (by omega)
      have c0 := hc k hkn
      have lb : LtW b wr := hb
      obtain ⟨x, hx⟩ : ∃ x, l.getD k 0 = x := ⟨_, rfl⟩
      rw [hx] at c0
      have HX := Lib.hid hx
      clear hc hb hx hbel
      by_cases h1 : x < 0
      · have t1 : decide (x < 0) = true := by simpa using h1
        have HF : Hid (colOk l = false) := Lib.hid (by
          unfold colOk
          rw [decide_eq_false_iff_not]
          intro h
          have hkl : k < l.length := by rw [HL.out]; exact hkn
          have := h l[k] (List.getElem_mem hkl)
          have e : l.getD k 0 = l[k] := by simp [List.getD, hkl]
          rw [← e, HX.out] at this
          omega)
        clear h1
        go_wp2
        go_ret
        exact ⟨by rw [HF.out]; rfl, HBL.out⟩
      · have t1 : decide (x < 0) = false := by simpa using h1
        by_cases h2 : 61 < x
        · have t2 : decide (61 < x) = true := by simpa using h2
          have HF : Hid (colOk l = false) := Lib.hid (by
            unfold colOk
            rw [decide_eq_false_iff_not]
            intro h
            have hkl : k < l.length := by rw [HL.out]; exact hkn
            have := h l[k] (List.getElem_mem hkl)
            have e : l.getD k 0 = l[k] := by simp [List.getD, hkl]
            rw [← e, HX.out] at this
            omega)
          clear h1 h2
          go_wp2
          go_ret
          exact ⟨by rw [HF.out]; rfl, HBL.out⟩
        · have t2 : decide (61 < x) = false := by simpa using h2
          have HJ2 : Hid (∀ j, j < k + 1 → 0 ≤ l.getD j 0 ∧ l.getD j 0 < 62) := Lib.hid fun j h => by
            by_cases e : j = k
            · rw [e, HX.out]; omega
            · exact HJ.out j (by omega)
          clear h1 h2
          go_wp2
          go_roundw
          case rel => exact ⟨k + 1, by omega, by go_num, HJ2, HBL.out⟩
          case measure => simp [intOf]; omega
    · obtain rfl : n = k := by omega
      have HF : Hid (colOk l = true) := Lib.hid (by
        unfold colOk
        rw [decide_eq_true_iff]
        intro x hx
        obtain ⟨i, hi, rfl⟩ := List.mem_iff_getElem.1 hx
        have := HJ.out i (by rw [← HL.out]; exact hi)
        simpa [List.getD, hi] using this)
      go_wp2
      go_ret
      exact ⟨by rw [HF.out]; rfl, HBL.out⟩
theorem stE_col {en pn : Nat} {es ps : List Int} (h : ¬ (en = 0 ∨ 64 < en ∨ pn = 0 ∨ 64 < pn)) : stE en pn es ps = if colOk es = true ∧ colOk ps = true then 0 else 3 := by
  unfold stE
  rw [if_neg h]
  by_cases hA : ∃ x ∈ es ++ ps, x < 0 ∨ 62 ≤ x
  · rw [if_pos hA, if_neg]
    rintro ⟨h1, h2⟩
    have h1 := of_decide_eq_true h1
    have h2 := of_decide_eq_true h2
    obtain ⟨x, hx, h3⟩ := hA
    rw [List.mem_append] at hx
    rcases hx with hx | hx
    · have := h1 x hx; omega
    · have := h2 x hx; omega
  · rw [if_neg hA, if_pos]
    refine ⟨decide_eq_true fun x hx => ?_, decide_eq_true fun x hx => ?_⟩
    · have : ¬ (x < 0 ∨ 62 ≤ x) := fun h3 => hA ⟨x, List.mem_append_left _ hx, h3⟩
      omega
    · have : ¬ (x < 0 ∨ 62 ≤ x) := fun h3 => hA ⟨x, List.mem_append_right _ hx, h3⟩
      omega
set_option maxRecDepth 100000 in
set_option maxHeartbeats 8000000 in
theorem r19Wrong_any (ea : Option Addr) (en ec : Nat) (es : List Int) (pa : Option Addr) (pn pc : Nat) (ps : List Int) (w : World) (hS : SArg ea en ec es pa pn pc ps w) (he : en ≤ 9223372036854775807) (hp : pn ≤ 9223372036854775807) :
    Calls Try.prog 69 #[.agg #[.slice ea en ec, .slice pa pn pc]] w fun e w' => e = .returned (.int .i64 (stE en pn es ps)) ∧ Below w.heap.size w w' := by
  have HC1 := Lib.hid (fun w h => colours_any ea en ec es w h he)
  have HC2 := Lib.hid (fun w h => colours_any pa pn pc ps w h hp)
  have HS := Lib.hid hS
  clear hS
  go_enter Try.func69, Try.ntmps69
  by_cases h1 : en = 0
  · have HE : Hid (stE en pn es ps = 5) := Lib.hid (by unfold stE; rw [if_pos (by omega)])
    have t1 : decide ((en : Int) < 1) = true := by simp; omega
    have t1' : decide (en < 1) = true := by simp; omega
    clear h1
    rw [HE.out]
    go_wp2
    go_ret
    exact ⟨rfl, (by repeat (first | exact Below.refl _ _ | refine Below.drew ?_ | refine below_drewN ?_ _ | refine Below.alloc ?_ (by first | exact Nat.le_refl _ | (simp; done) | (simp; omega) | omega) _ | refine Below.setCell ?_ (by first | exact Nat.le_refl _ | (simp; done) | (simp; omega) | omega) _ | refine bExtW ?_ (by first | exact Nat.le_refl _ | (simp; done) | (simp; omega) | omega) | refine Below.trans ?_ (Below.mono (by assumption) (by first | exact Nat.le_refl _ | (simp; done) | (simp; omega) | omega))))⟩
  have t1 : decide ((en : Int) < 1) = false := by simp; omega
  have t1' : decide (en < 1) = false := by simp; omega
  by_cases h2 : 64 < en
  · have HE : Hid (stE en pn es ps = 5) := Lib.hid (by unfold stE; rw [if_pos (by omega)])
    have t2 : decide ((64 : Int) < (en : Int)) = true := by simp; omega
    have t2' : decide (64 < en) = true := by simp; omega
    clear h1 h2
    rw [HE.out]
    go_wp2
    go_ret
    exact ⟨rfl, (by repeat (first | exact Below.refl _ _ | refine Below.drew ?_ | refine below_drewN ?_ _ | refine Below.alloc ?_ (by first | exact Nat.le_refl _ | (simp; done) | (simp; omega) | omega) _ | refine Below.setCell ?_ (by first | exact Nat.le_refl _ | (simp; done) | (simp; omega) | omega) _ | refine bExtW ?_ (by first | exact Nat.le_refl _ | (simp; done) | (simp; omega) | omega) | refine Below.trans ?_ (Below.mono (by assumption) (by first | exact Nat.le_refl _ | (simp; done) | (simp; omega) | omega))))⟩
  have t2 : decide ((64 : Int) < (en : Int)) = false := by simp; omega
  have t2' : decide (64 < en) = false := by simp; omega
  by_cases h3 : pn = 0
  · have HE : Hid (stE en pn es ps = 5) := Lib.hid (by unfold stE; rw [if_pos (by omega)])
    have t3 : decide ((pn : Int) < 1) = true := by simp; omega
    have t3' : decide (pn < 1) = true := by simp; omega
    clear h1 h2 h3
    rw [HE.out]
    go_wp2
    go_ret
    exact ⟨rfl, (by repeat (first | exact Below.refl _ _ | refine Below.drew ?_ | refine below_drewN ?_ _ | refine Below.alloc ?_ (by first | exact Nat.le_refl _ | (simp; done) | (simp; omega) | omega) _ | refine Below.setCell ?_ (by first | exact Nat.le_refl _ | (simp; done) | (simp; omega) | omega) _ | refine bExtW ?_ (by first | exact Nat.le_refl _ | (simp; done) | (simp; omega) | omega) | refine Below.trans ?_ (Below.mono (by assumption) (by first | exact Nat.le_refl _ | (simp; done) | (simp; omega) | omega))))⟩
  have t3 : decide ((pn : Int) < 1) = false := by simp; omega
  have t3' : decide (pn < 1) = false := by simp; omega
  by_cases h4 : 64 < pn
  · have HE : Hid (stE en pn es ps = 5) := Lib.hid (by unfold stE; rw [if_pos (by omega)])
    have t4 : decide ((64 : Int) < (pn : Int)) = true := by simp; omega
    have t4' : decide (64 < pn) = true := by simp; omega
    clear h1 h2 h3 h4
    rw [HE.out]
    go_wp2
    go_ret
    exact ⟨rfl, (by repeat (first | exact Below.refl _ _ | refine Below.drew ?_ | refine below_drewN ?_ _ | refine Below.alloc ?_ (by first | exact Nat.le_refl _ | (simp; done) | (simp; omega) | omega) _ | refine Below.setCell ?_ (by first | exact Nat.le_refl _ | (simp; done) | (simp; omega) | omega) _ | refine bExtW ?_ (by first | exact Nat.le_refl _ | (simp; done) | (simp; omega) | omega) | refine Below.trans ?_ (Below.mono (by assumption) (by first | exact Nat.le_refl _ | (simp; done) | (simp; omega) | omega))))⟩
  have t4 : decide ((64 : Int) < (pn : Int)) = false := by simp; omega
  have t4' : decide (64 < pn) = false := by simp; omega
  have HE0 := Lib.hid (stE_col (es := es) (ps := ps) (show ¬ (en = 0 ∨ 64 < en ∨ pn = 0 ∨ 64 < pn) by omega))
  clear h1 h2 h3 h4
  cases c1 : colOk es with
  | false =>
    have HE : Hid (stE en pn es ps = 3) := Lib.hid (by rw [HE0.out, c1, if_neg (by simp)])
    rw [c1] at HC1
    rw [HE.out]
    go_wp2_with fail
    refine (HC1.out _ (HS.out.e.below (by repeat (first | exact Below.refl _ _ | refine Below.drew ?_ | refine below_drewN ?_ _ | refine Below.alloc ?_ (by first | exact Nat.le_refl _ | (simp; done) | (simp; omega) | omega) _ | refine Below.setCell ?_ (by first | exact Nat.le_refl _ | (simp; done) | (simp; omega) | omega) _ | refine bExtW ?_ (by first | exact Nat.le_refl _ | (simp; done) | (simp; omega) | omega) | refine Below.trans ?_ (Below.mono (by assumption) (by first | exact Nat.le_refl _ | (simp; done) | (simp; omega) | omega)))))).mono ?_
    rintro r w1 ⟨rfl, hb⟩
    obtain ⟨E, d, rfl⟩ := bExt hb
    clear hb
    go_wp2
    go_ret
    exact ⟨rfl, (by repeat (first | exact Below.refl _ _ | refine Below.drew ?_ | refine below_drewN ?_ _ | refine Below.alloc ?_ (by first | exact Nat.le_refl _ | (simp; done) | (simp; omega) | omega) _ | refine Below.setCell ?_ (by first | exact Nat.le_refl _ | (simp; done) | (simp; omega) | omega) _ | refine bExtW ?_ (by first | exact Nat.le_refl _ | (simp; done) | (simp; omega) | omega) | refine Below.trans ?_ (Below.mono (by assumption) (by first | exact Nat.le_refl _ | (simp; done) | (simp; omega) | omega))))⟩
  | true =>
    rw [c1] at HC1
    cases c2 : colOk ps with
    | false =>
      have HE : Hid (stE en pn es ps = 3) := Lib.hid (by rw [HE0.out, c1, c2, if_neg (by simp)])
      rw [c2] at HC2
      rw [HE.out]
      go_wp2_with fail
      refine (HC1.out _ (HS.out.e.below (by repeat (first | exact Below.refl _ _ | refine Below.drew ?_ | refine below_drewN ?_ _ | refine Below.alloc ?_ (by first | exact Nat.le_refl _ | (simp; done) | (simp; omega) | omega) _ | refine Below.setCell ?_ (by first | exact Nat.le_refl _ | (simp; done) | (simp; omega) | omega) _ | refine bExtW ?_ (by first | exact Nat.le_refl _ | (simp; done) | (simp; omega) | omega) | refine Below.trans ?_ (Below.mono (by assumption) (by first | exact Nat.le_refl _ | (simp; done) | (simp; omega) | omega)))))).mono ?_
      rintro r w1 ⟨rfl, hb⟩
      obtain ⟨E, d, rfl⟩ := bExt hb
      clear hb
      go_wp2_with fail
      refine (HC2.out _ (HS.out.p.below (by repeat (first | exact Below.refl _ _ | refine Below.drew ?_ | refine below_drewN ?_ _ | refine Below.alloc ?_ (by first | exact Nat.le_refl _ | (simp; done) | (simp; omega) | omega) _ | refine Below.setCell ?_ (by first | exact Nat.le_refl _ | (simp; done) | (simp; omega) | omega) _ | refine bExtW ?_ (by first | exact Nat.le_refl _ | (simp; done) | (simp; omega) | omega) | refine Below.trans ?_ (Below.mono (by assumption) (by first | exact Nat.le_refl _ | (simp; done) | (simp; omega) | omega)))))).mono ?_
      rintro r w1 ⟨rfl, hb⟩
      obtain ⟨E2, d2, rfl⟩ := bExt hb
      clear hb
      go_wp2
      go_ret
      exact ⟨rfl, (by repeat (first | exact Below.refl _ _ | refine Below.drew ?_ | refine below_drewN ?_ _ | refine Below.alloc ?_ (by first | exact Nat.le_refl _ | (simp; done) | (simp; omega) | omega) _ | refine Below.setCell ?_ (by first | exact Nat.le_refl _ | (simp; done) | (simp; omega) | omega) _ | refine bExtW ?_ (by first | exact Nat.le_refl _ | (simp; done) | (simp; omega) | omega) | refine Below.trans ?_ (Below.mono (by assumption) (by first | exact Nat.le_refl _ | (simp; done) | (simp; omega) | omega))))⟩
    | true =>
      have HE : Hid (stE en pn es ps = 0) := Lib.hid (by rw [HE0.out, c1, c2, if_pos (by simp)])
      rw [c2] at HC2
      rw [HE.out]
      go_wp2_with fail
      refine (HC1.out _ (HS.out.e.below (by repeat (first | exact Below.refl _ _ | refine Below.drew ?_ | refine below_drewN ?_ _ | refine Below.alloc ?_ (by first | exact Nat.le_refl _ | (simp; done) | (simp; omega) | omega) _ | refine Below.setCell ?_ (by first | exact Nat.le_refl _ | (simp; done) | (simp; omega) | omega) _ | refine bExtW ?_ (by first | exact Nat.le_refl _ | (simp; done) | (simp; omega) | omega) | refine Below.trans ?_ (Below.mono (by assumption) (by first | exact Nat.le_refl _ | (simp; done) | (simp; omega) | omega)))))).mono ?_
      rintro r w1 ⟨rfl, hb⟩
      obtain ⟨E, d, rfl⟩ := bExt hb
      clear hb
      go_wp2_with fail
      refine (HC2.out _ (HS.out.p.below (by repeat (first | exact Below.refl _ _ | refine Below.drew ?_ | refine below_drewN ?_ _ | refine Below.alloc ?_ (by first | exact Nat.le_refl _ | (simp; done) | (simp; omega) | omega) _ | refine Below.setCell ?_ (by first | exact Nat.le_refl _ | (simp; done) | (simp; omega) | omega) _ | refine bExtW ?_ (by first | exact Nat.le_refl _ | (simp; done) | (simp; omega) | omega) | refine Below.trans ?_ (Below.mono (by assumption) (by first | exact Nat.le_refl _ | (simp; done) | (simp; omega) | omega)))))).mono ?_
      rintro r w1 ⟨rfl, hb⟩
      obtain ⟨E2, d2, rfl⟩ := bExt hb
      clear hb
      go_wp2
      go_ret
      exact ⟨rfl, (by repeat (first | exact Below.refl _ _ | refine Below.drew ?_ | refine below_drewN ?_ _ | refine Below.alloc ?_ (by first | exact Nat.le_refl _ | (simp; done) | (simp; omega) | omega) _ | refine Below.setCell ?_ (by first | exact Nat.le_refl _ | (simp; done) | (simp; omega) | omega) _ | refine bExtW ?_ (by first | exact Nat.le_refl _ | (simp; done) | (simp; omega) | omega) | refine Below.trans ?_ (Below.mono (by assumption) (by first | exact Nat.le_refl _ | (simp; done) | (simp; omega) | omega))))⟩
set_option maxRecDepth 100000 in
set_option maxHeartbeats 8000000 in
theorem r19Same_any (ea : Option Addr) (en ec : Nat) (es : List Int) (pa : Option Addr) (pn pc : Nat) (ps : List Int) (ea2 : Option Addr) (en2 ec2 : Nat) (es2 : List Int) (pa2 : Option Addr) (pn2 pc2 : Nat) (ps2 : List Int) (w : World) (hS : SArg ea en ec es pa pn pc ps w) (hT : SArg ea2 en2 ec2 es2 pa2 pn2 pc2 ps2 w)
    (m1 : en ≤ 9223372036854775807) (m2 : pn ≤ 9223372036854775807) (m3 : en2 ≤ 9223372036854775807) (m4 : pn2 ≤ 9223372036854775807) (he : es = es2) (hp : ps = ps2) :
    Calls Try.prog 34 #[.agg #[.slice ea en ec, .slice pa pn pc], .agg #[.slice ea2 en2 ec2, .slice pa2 pn2 pc2]] w fun e w' => e = .returned (.bool true) ∧ Below w.heap.size w w' := by
  subst he hp
  have HC1 := Lib.hid (fun w h k => SameNumbers_any ea en ec es ea2 en2 ec2 es w h k m1 m3)
  have HC2 := Lib.hid (fun w h k => SameNumbers_any pa pn pc ps pa2 pn2 pc2 ps w h k m2 m4)
  rw [decide_eq_true (p := (es = es)) rfl] at HC1
  rw [decide_eq_true (p := (ps = ps)) rfl] at HC2
  have HS := Lib.hid hS; have HT := Lib.hid hT
  clear hS hT
  go_enter Try.func34, Try.ntmps34
  go_wp2_with fail
  refine (HC1.out _ (HS.out.e.below (by repeat (first | exact Below.refl _ _ | refine Below.drew ?_ | refine below_drewN ?_ _ | refine Below.alloc ?_ (by first | exact Nat.le_refl _ | (simp; done) | (simp; omega) | omega) _ | refine Below.setCell ?_ (by first | exact Nat.le_refl _ | (simp; done) | (simp; omega) | omega) _ | refine bExtW ?_ (by first | exact Nat.le_refl _ | (simp; done) | (simp; omega) | omega) | refine Below.trans ?_ (Below.mono (by assumption) (by first | exact Nat.le_refl _ | (simp; done) | (simp; omega) | omega))))) (HT.out.e.below (by repeat (first | exact Below.refl _ _ | refine Below.drew ?_ | refine below_drewN ?_ _ | refine Below.alloc ?_ (by first | exact Nat.le_refl _ | (simp; done) | (simp; omega) | omega) _ | refine Below.setCell ?_ (by first | exact Nat.le_refl _ | (simp; done) | (simp; omega) | omega) _ | refine bExtW ?_ (by first | exact Nat.le_refl _ | (simp; done) | (simp; omega) | omega) | refine Below.trans ?_ (Below.mono (by assumption) (by first | exact Nat.le_refl _ | (simp; done) | (simp; omega) | omega)))))).mono ?_
  rintro r w1 ⟨rfl, hb⟩
  obtain ⟨E, d, rfl⟩ := bExt hb
  clear hb
  go_wp2_with fail
  refine (HC2.out _ (HS.out.p.below (by repeat (first | exact Below.refl _ _ | refine Below.drew ?_ | refine below_drewN ?_ _ | refine Below.alloc ?_ (by first | exact Nat.le_refl _ | (simp; done) | (simp; omega) | omega) _ | refine Below.setCell ?_ (by first | exact Nat.le_refl _ | (simp; done) | (simp; omega) | omega) _ | refine bExtW ?_ (by first | exact Nat.le_refl _ | (simp; done) | (simp; omega) | omega) | refine Below.trans ?_ (Below.mono (by assumption) (by first | exact Nat.le_refl _ | (simp; done) | (simp; omega) | omega))))) (HT.out.p.below (by repeat (first | exact Below.refl _ _ | refine Below.drew ?_ | refine below_drewN ?_ _ | refine Below.alloc ?_ (by first | exact Nat.le_refl _ | (simp; done) | (simp; omega) | omega) _ | refine Below.setCell ?_ (by first | exact Nat.le_refl _ | (simp; done) | (simp; omega) | omega) _ | refine bExtW ?_ (by first | exact Nat.le_refl _ | (simp; done) | (simp; omega) | omega) | refine Below.trans ?_ (Below.mono (by assumption) (by first | exact Nat.le_refl _ | (simp; done) | (simp; omega) | omega)))))).mono ?_
  rintro r w1 ⟨rfl, hb⟩
  obtain ⟨E2, d2, rfl⟩ := bExt hb
  clear hb
  go_wp2
  go_ret
  exact ⟨rfl, (by repeat (first | exact Below.refl _ _ | refine Below.drew ?_ | refine below_drewN ?_ _ | refine Below.alloc ?_ (by first | exact Nat.le_refl _ | (simp; done) | (simp; omega) | omega) _ | refine Below.setCell ?_ (by first | exact Nat.le_refl _ | (simp; done) | (simp; omega) | omega) _ | refine bExtW ?_ (by first | exact Nat.le_refl _ | (simp; done) | (simp; omega) | omega) | refine Below.trans ?_ (Below.mono (by assumption) (by first | exact Nat.le_refl _ | (simp; done) | (simp; omega) | omega))))⟩
end Go.Proofs.Yticplgjpflaelaa
