/- Lemmas and contracts of functions (what each call returns, and that it changes nothing that was there) that the proof of a law of this seat uses; each lemma states its own conditions. -/
import Derived.Test.YticplgjpflaelaaEf4
namespace Go.Proofs.Yticplgjpflaelaa
open Go.RowKit
set_option linter.unusedVariables false
set_option linter.unusedSimpArgs false
/-- What is wrong with threads. -/
def stE (en pn : Nat) (es ps : List Int) : Int := if en = 0 ∨ 64 < en ∨ pn = 0 ∨ 64 < pn then 5 else if ∃ x ∈ es ++ ps, x < 0 ∨ 62 ≤ x then 3 else 0
theorem stE_zero {en pn : Nat} {es ps : List Int} (h : stE en pn es ps = 0) : 1 ≤ en ∧ en ≤ 64 ∧ 1 ≤ pn ∧ pn ≤ 64 ∧ ∀ x ∈ es ++ ps, 0 ≤ x ∧ x < 62 := by
  unfold stE at h
  split at h
  · omega
  · split at h
    · omega
    · rename_i h1 h2
      refine ⟨by omega, by omega, by omega, by omega, fun x hx => ?_⟩
      by_cases e : x < 0 ∨ 62 ≤ x
      · exact absurd ⟨x, hx, e⟩ h2
      · omega
theorem stE_ok {en pn : Nat} {es ps : List Int} (h1 : 1 ≤ en) (h2 : en ≤ 64) (h3 : 1 ≤ pn) (h4 : pn ≤ 64) (h : ∀ x ∈ es ++ ps, 0 ≤ x ∧ x < 62) : stE en pn es ps = 0 := by
  unfold stE
  rw [if_neg (by omega), if_neg (by rintro ⟨x, hx, e⟩; have := h x hx; omega)]
theorem ints_of_any {w : World} {base n c : Nat} {A : Option Addr} {l : List Int} (hl : l.length = n) (h : w.ownsRow base 3 1 (.slice A n c) n (l.map i64v)) : IsInts w A n l := by
  subst hl
  obtain ⟨a, c', e, h1, _⟩ := ints_owns h
  injection e with e1 _ _
  subst e1
  exact h1
set_option maxRecDepth 100000 in
set_option maxHeartbeats 8000000 in
theorem ewrong_any (ea : Option Addr) (en ec : Nat) (es : List Int) (pa : Option Addr) (pn pc : Nat) (ps : List Int) (w : World) (hE : IsInts w ea en es) (hP : IsInts w pa pn ps) (he : en ≤ 9223372036854775807) (hp : pn ≤ 9223372036854775807) (z1 : ea = none → ec = 0) (z2 : pa = none → pc = 0) :
    Calls Try.prog 68 #[.agg #[.slice ea en ec, .slice pa pn pc]] w fun e w' => e = .returned (.int .i64 (stE en pn es ps)) ∧ Below w.heap.size w w' := by
  have HCO : Hid (∀ (b : Nat) (w' : World), w'.cell? ⟨b, 0, none⟩ = some (.slice ea en ec) → w'.cell? ⟨b, 1, none⟩ = some (.slice pa pn pc) → b < w'.heap.size → IsInts w' ea en es → IsInts w' pa pn ps → 1 ≤ en + pn → en ≤ 400 → pn ≤ 400 → Calls Try.prog 82 #[.slice (some ⟨b, 0, none⟩) 2 2] w' (IPost (es ++ ps) w')) := Lib.hid fun b w' h1 h2 h3 h4 h5 h6 h7 h8 => concat_two b ea en ec es pa pn pc ps w' h1 h2 h3 h4 h5 z1 z2 h6 h7 h8
  clear z1 z2
  rcases Nat.lt_trichotomy en pn with o | o | o
  · skip
    by_cases hm : 64 < pn
    · have HT : Hid (stE en pn es ps = 5) := Lib.hid (by unfold stE; rw [if_pos (by omega)])
      have b1 : decide ((64 : Int) < (pn : Int)) = true := by simp; omega
      clear hE hP hm HCO
      go_enter Try.func68, Try.ntmps68
      go_wp2
      go_ret
      exact ⟨by rw [HT.out]; rfl, (by repeat (first | exact Below.refl _ _ | refine Below.drew ?_ | refine below_drewN ?_ _ | refine Below.alloc ?_ (by first | exact Nat.le_refl _ | (simp; done) | (simp; omega) | omega) _ | refine Below.setCell ?_ (by first | exact Nat.le_refl _ | (simp; done) | (simp; omega) | omega) _ | refine bExtW ?_ (by first | exact Nat.le_refl _ | (simp; done) | (simp; omega) | omega) | refine Below.trans ?_ (Below.mono (by assumption) (by first | exact Nat.le_refl _ | (simp; done) | (simp; omega) | omega))))⟩
    · have b1 : decide ((64 : Int) < (pn : Int)) = false := by simp; omega
      by_cases h0 : en = 0
      · have HT : Hid (stE en pn es ps = 5) := Lib.hid (by unfold stE; rw [if_pos (by omega)])
        have b2 : (en == 0) = true := by simp; omega
        have b3 : ((en : Int) == 0) = true := by simp; omega
        clear hE hP hm h0 HCO
        go_enter Try.func68, Try.ntmps68
        go_wp2
        go_ret
        exact ⟨by rw [HT.out]; rfl, (by repeat (first | exact Below.refl _ _ | refine Below.drew ?_ | refine below_drewN ?_ _ | refine Below.alloc ?_ (by first | exact Nat.le_refl _ | (simp; done) | (simp; omega) | omega) _ | refine Below.setCell ?_ (by first | exact Nat.le_refl _ | (simp; done) | (simp; omega) | omega) _ | refine bExtW ?_ (by first | exact Nat.le_refl _ | (simp; done) | (simp; omega) | omega) | refine Below.trans ?_ (Below.mono (by assumption) (by first | exact Nat.le_refl _ | (simp; done) | (simp; omega) | omega))))⟩
      · have HBAD : Hid ((∃ x ∈ es ++ ps, x < 0 ∨ 62 ≤ x) → stE en pn es ps = 3) := Lib.hid fun h => by unfold stE; rw [if_neg (by omega), if_pos h]
        have HGOOD : Hid ((∀ x ∈ es ++ ps, 0 ≤ x ∧ x < 62) → stE en pn es ps = 0) := Lib.hid fun h => by unfold stE; rw [if_neg (by omega), if_neg (by rintro ⟨x, hx, e⟩; have := h x hx; omega)]
        have b2 : (en == 0) = false := by simp; omega
        have b3 : ((en : Int) == 0) = false := by simp; omega
        have HCC : Hid (∀ (b : Nat) (w' : World), w'.cell? ⟨b, 0, none⟩ = some (.slice ea en ec) → w'.cell? ⟨b, 1, none⟩ = some (.slice pa pn pc) → b < w'.heap.size → IsInts w' ea en es → IsInts w' pa pn ps → Calls Try.prog 82 #[.slice (some ⟨b, 0, none⟩) 2 2] w' (IPost (es ++ ps) w')) := Lib.hid fun b w' h1 h2 h3 h4 h5 => HCO.out b w' h1 h2 h3 h4 h5 (by omega) (by omega) (by omega)
        have HE := Lib.hid hE; have HP := Lib.hid hP
        have HL : Hid ((es ++ ps).length = en + pn) := Lib.hid (by rw [List.length_append, hE.1, hP.1])
        have hsm : en + pn ≤ 128 := by omega
        clear hE hP HCO hm h0
        go_enter Try.func68, Try.ntmps68
        go_wp2_with fail
        refine (HCC.out _ _ (by simp [go_sem]) (by simp [go_sem]) (by simp) (HE.out.below (by repeat (first | exact Below.refl _ _ | refine Below.drew ?_ | refine below_drewN ?_ _ | refine Below.alloc ?_ (by first | exact Nat.le_refl _ | (simp; done) | (simp; omega) | omega) _ | refine Below.setCell ?_ (by first | exact Nat.le_refl _ | (simp; done) | (simp; omega) | omega) _ | refine bExtW ?_ (by first | exact Nat.le_refl _ | (simp; done) | (simp; omega) | omega) | refine Below.trans ?_ (Below.mono (by assumption) (by first | exact Nat.le_refl _ | (simp; done) | (simp; omega) | omega))))) (HP.out.below (by repeat (first | exact Below.refl _ _ | refine Below.drew ?_ | refine below_drewN ?_ _ | refine Below.alloc ?_ (by first | exact Nat.le_refl _ | (simp; done) | (simp; omega) | omega) _ | refine Below.setCell ?_ (by first | exact Nat.le_refl _ | (simp; done) | (simp; omega) | omega) _ | refine bExtW ?_ (by first | exact Nat.le_refl _ | (simp; done) | (simp; omega) | omega) | refine Below.trans ?_ (Below.mono (by assumption) (by first | exact Nat.le_refl _ | (simp; done) | (simp; omega) | omega)))))).mono ?_
        rintro r w1 ⟨A, C, rfl, ho, hb⟩
        rw [HL.out] at ho ⊢
        have hb1 : Below w.heap.size w w1 := Below.trans (by repeat (first | exact Below.refl _ _ | refine Below.drew ?_ | refine below_drewN ?_ _ | refine Below.alloc ?_ (by first | exact Nat.le_refl _ | (simp; done) | (simp; omega) | omega) _ | refine Below.setCell ?_ (by first | exact Nat.le_refl _ | (simp; done) | (simp; omega) | omega) _ | refine bExtW ?_ (by first | exact Nat.le_refl _ | (simp; done) | (simp; omega) | omega) | refine Below.trans ?_ (Below.mono (by assumption) (by first | exact Nat.le_refl _ | (simp; done) | (simp; omega) | omega)))) (hb.mono (by first | exact Nat.le_refl _ | (simp; done) | (simp; omega) | omega))
        have HIA := Lib.hid (ints_of_any HL.out ho)
        clear ho hb
        obtain ⟨LL, hLL⟩ : ∃ LL, es ++ ps = LL := ⟨_, rfl⟩
        rw [hLL] at HL HIA HBAD HGOOD
        obtain ⟨NN, hNN⟩ : ∃ NN, en + pn = NN := ⟨_, rfl⟩
        rw [hNN] at HL HIA hsm ⊢
        have HB1 := Lib.hid hb1
        clear hLL hNN hb1
        go_wp2_with fail
        go_loopw [32] (fun iv wr => ∃ k : Nat, k ≤ NN ∧ iv = .int .i64 k ∧ Hid (∀ j, j < k → 0 ≤ LL.getD j 0 ∧ LL.getD j 0 < 62) ∧ Below w1.heap.size w1 wr) (fun iv _ => NN - (intOf iv).toNat)
        case atStart => exact ⟨0, by omega, rfl, Lib.hid fun j h => absurd h (by omega), Below.refl _ _⟩
        case round =>
          obtain ⟨k, hk, rfl, HK, hbel⟩ := hrel
          have HBE := Lib.hid hbel
          by_cases hkn : k < NN
          · obtain ⟨b, o, rfl, hb, hc⟩ := (HIA.out.below hbel).2 (by omega)
            have c0 := hc k hkn
            have lb : LtW b wr := hb
            have HM : Hid (LL.getD k 0 ∈ LL) := Lib.hid (by
              have hkl : k < LL.length := by rw [HL.out]; exact hkn
              rw [List.getD_eq_getElem?_getD, List.getElem?_eq_getElem hkl]
              exact List.getElem_mem hkl)
            obtain ⟨x, hx⟩ : ∃ x, LL.getD k 0 = x := ⟨_, rfl⟩
            rw [hx] at c0 HM
            have HX := Lib.hid hx
            clear hc hb hx hbel
            by_cases h1 : x < 0
            · have HT := Lib.hid (HBAD.out ⟨x, HM.out, .inl h1⟩)
              go_wp2
              go_ret
              exact ⟨by rw [HT.out]; rfl, HB1.out.trans (HBE.out.mono HB1.out.size)⟩
            · by_cases h2 : 62 ≤ x
              · have HT := Lib.hid (HBAD.out ⟨x, HM.out, .inr h2⟩)
                have t1 : decide (x < 0) = false := by simpa using h1
                go_wp2
                go_ret
                exact ⟨by rw [HT.out]; rfl, HB1.out.trans (HBE.out.mono HB1.out.size)⟩
              · have t1 : decide (x < 0) = false := by simpa using h1
                have t3 : decide (62 ≤ x) = false := by simpa using h2
                go_wp2
                go_roundw
                case rel => exact ⟨k + 1, by omega, by go_num, Lib.hid fun j hj => (by
                  by_cases e : j = k
                  · subst e; rw [HX.out]; omega
                  · exact HK.out j (by omega)), HBE.out⟩
                case measure => simp [intOf]; omega
          · have HT := Lib.hid (HGOOD.out (fun x hx => by
              obtain ⟨j, hj, rfl⟩ := List.mem_iff_getElem.1 hx
              have := HK.out j (by have := HL.out; omega)
              rw [List.getD_eq_getElem?_getD, List.getElem?_eq_getElem hj] at this
              exact this))
            clear hbel
            go_wp2
            go_ret
            exact ⟨by rw [HT.out]; rfl, HB1.out.trans (HBE.out.mono HB1.out.size)⟩
  · subst o
    by_cases hm : 64 < en
    · have HT : Hid (stE en en es ps = 5) := Lib.hid (by unfold stE; rw [if_pos (by omega)])
      have b1 : decide ((64 : Int) < (en : Int)) = true := by simp; omega
      clear hE hP hm HCO
      go_enter Try.func68, Try.ntmps68
      go_wp2
      go_ret
      exact ⟨by rw [HT.out]; rfl, (by repeat (first | exact Below.refl _ _ | refine Below.drew ?_ | refine below_drewN ?_ _ | refine Below.alloc ?_ (by first | exact Nat.le_refl _ | (simp; done) | (simp; omega) | omega) _ | refine Below.setCell ?_ (by first | exact Nat.le_refl _ | (simp; done) | (simp; omega) | omega) _ | refine bExtW ?_ (by first | exact Nat.le_refl _ | (simp; done) | (simp; omega) | omega) | refine Below.trans ?_ (Below.mono (by assumption) (by first | exact Nat.le_refl _ | (simp; done) | (simp; omega) | omega))))⟩
    · have b1 : decide ((64 : Int) < (en : Int)) = false := by simp; omega
      by_cases h0 : en = 0
      · have HT : Hid (stE en en es ps = 5) := Lib.hid (by unfold stE; rw [if_pos (by omega)])
        have b2 : (en == 0) = true := by simp; omega
        have b3 : ((en : Int) == 0) = true := by simp; omega
        clear hE hP hm h0 HCO
        go_enter Try.func68, Try.ntmps68
        go_wp2
        go_ret
        exact ⟨by rw [HT.out]; rfl, (by repeat (first | exact Below.refl _ _ | refine Below.drew ?_ | refine below_drewN ?_ _ | refine Below.alloc ?_ (by first | exact Nat.le_refl _ | (simp; done) | (simp; omega) | omega) _ | refine Below.setCell ?_ (by first | exact Nat.le_refl _ | (simp; done) | (simp; omega) | omega) _ | refine bExtW ?_ (by first | exact Nat.le_refl _ | (simp; done) | (simp; omega) | omega) | refine Below.trans ?_ (Below.mono (by assumption) (by first | exact Nat.le_refl _ | (simp; done) | (simp; omega) | omega))))⟩
      · have HBAD : Hid ((∃ x ∈ es ++ ps, x < 0 ∨ 62 ≤ x) → stE en en es ps = 3) := Lib.hid fun h => by unfold stE; rw [if_neg (by omega), if_pos h]
        have HGOOD : Hid ((∀ x ∈ es ++ ps, 0 ≤ x ∧ x < 62) → stE en en es ps = 0) := Lib.hid fun h => by unfold stE; rw [if_neg (by omega), if_neg (by rintro ⟨x, hx, e⟩; have := h x hx; omega)]
        have b2 : (en == 0) = false := by simp; omega
        have b3 : ((en : Int) == 0) = false := by simp; omega
        have HCC : Hid (∀ (b : Nat) (w' : World), w'.cell? ⟨b, 0, none⟩ = some (.slice ea en ec) → w'.cell? ⟨b, 1, none⟩ = some (.slice pa en pc) → b < w'.heap.size → IsInts w' ea en es → IsInts w' pa en ps → Calls Try.prog 82 #[.slice (some ⟨b, 0, none⟩) 2 2] w' (IPost (es ++ ps) w')) := Lib.hid fun b w' h1 h2 h3 h4 h5 => HCO.out b w' h1 h2 h3 h4 h5 (by omega) (by omega) (by omega)
        have HE := Lib.hid hE; have HP := Lib.hid hP
        have HL : Hid ((es ++ ps).length = en + en) := Lib.hid (by rw [List.length_append, hE.1, hP.1])
        have hsm : en + en ≤ 128 := by omega
        clear hE hP HCO hm h0
        go_enter Try.func68, Try.ntmps68
        go_wp2_with fail
        refine (HCC.out _ _ (by simp [go_sem]) (by simp [go_sem]) (by simp) (HE.out.below (by repeat (first | exact Below.refl _ _ | refine Below.drew ?_ | refine below_drewN ?_ _ | refine Below.alloc ?_ (by first | exact Nat.le_refl _ | (simp; done) | (simp; omega) | omega) _ | refine Below.setCell ?_ (by first | exact Nat.le_refl _ | (simp; done) | (simp; omega) | omega) _ | refine bExtW ?_ (by first | exact Nat.le_refl _ | (simp; done) | (simp; omega) | omega) | refine Below.trans ?_ (Below.mono (by assumption) (by first | exact Nat.le_refl _ | (simp; done) | (simp; omega) | omega))))) (HP.out.below (by repeat (first | exact Below.refl _ _ | refine Below.drew ?_ | refine below_drewN ?_ _ | refine Below.alloc ?_ (by first | exact Nat.le_refl _ | (simp; done) | (simp; omega) | omega) _ | refine Below.setCell ?_ (by first | exact Nat.le_refl _ | (simp; done) | (simp; omega) | omega) _ | refine bExtW ?_ (by first | exact Nat.le_refl _ | (simp; done) | (simp; omega) | omega) | refine Below.trans ?_ (Below.mono (by assumption) (by first | exact Nat.le_refl _ | (simp; done) | (simp; omega) | omega)))))).mono ?_
        rintro r w1 ⟨A, C, rfl, ho, hb⟩
        rw [HL.out] at ho ⊢
        have hb1 : Below w.heap.size w w1 := Below.trans (by repeat (first | exact Below.refl _ _ | refine Below.drew ?_ | refine below_drewN ?_ _ | refine Below.alloc ?_ (by first | exact Nat.le_refl _ | (simp; done) | (simp; omega) | omega) _ | refine Below.setCell ?_ (by first | exact Nat.le_refl _ | (simp; done) | (simp; omega) | omega) _ | refine bExtW ?_ (by first | exact Nat.le_refl _ | (simp; done) | (simp; omega) | omega) | refine Below.trans ?_ (Below.mono (by assumption) (by first | exact Nat.le_refl _ | (simp; done) | (simp; omega) | omega)))) (hb.mono (by first | exact Nat.le_refl _ | (simp; done) | (simp; omega) | omega))
        have HIA := Lib.hid (ints_of_any HL.out ho)
        clear ho hb
        obtain ⟨LL, hLL⟩ : ∃ LL, es ++ ps = LL := ⟨_, rfl⟩
        rw [hLL] at HL HIA HBAD HGOOD
        obtain ⟨NN, hNN⟩ : ∃ NN, en + en = NN := ⟨_, rfl⟩
        rw [hNN] at HL HIA hsm ⊢
        have HB1 := Lib.hid hb1
        clear hLL hNN hb1
        go_wp2_with fail
        go_loopw [32] (fun iv wr => ∃ k : Nat, k ≤ NN ∧ iv = .int .i64 k ∧ Hid (∀ j, j < k → 0 ≤ LL.getD j 0 ∧ LL.getD j 0 < 62) ∧ Below w1.heap.size w1 wr) (fun iv _ => NN - (intOf iv).toNat)
        case atStart => exact ⟨0, by omega, rfl, Lib.hid fun j h => absurd h (by omega), Below.refl _ _⟩
        case round =>
          obtain ⟨k, hk, rfl, HK, hbel⟩ := hrel
          have HBE := Lib.hid hbel
          by_cases hkn : k < NN
          · obtain ⟨b, o, rfl, hb, hc⟩ := (HIA.out.below hbel).2 (by omega)
            have c0 := hc k hkn
            have lb : LtW b wr := hb
            have HM : Hid (LL.getD k 0 ∈ LL) := Lib.hid (by
              have hkl : k < LL.length := by rw [HL.out]; exact hkn
              rw [List.getD_eq_getElem?_getD, List.getElem?_eq_getElem hkl]
              exact List.getElem_mem hkl)
            obtain ⟨x, hx⟩ : ∃ x, LL.getD k 0 = x := ⟨_, rfl⟩
            rw [hx] at c0 HM
            have HX := Lib.hid hx
            clear hc hb hx hbel
            by_cases h1 : x < 0
            · have HT := Lib.hid (HBAD.out ⟨x, HM.out, .inl h1⟩)
              go_wp2
              go_ret
              exact ⟨by rw [HT.out]; rfl, HB1.out.trans (HBE.out.mono HB1.out.size)⟩
            · by_cases h2 : 62 ≤ x
              · have HT := Lib.hid (HBAD.out ⟨x, HM.out, .inr h2⟩)
                have t1 : decide (x < 0) = false := by simpa using h1
                go_wp2
                go_ret
                exact ⟨by rw [HT.out]; rfl, HB1.out.trans (HBE.out.mono HB1.out.size)⟩
              · have t1 : decide (x < 0) = false := by simpa using h1
                have t3 : decide (62 ≤ x) = false := by simpa using h2
                go_wp2
                go_roundw
                case rel => exact ⟨k + 1, by omega, by go_num, Lib.hid fun j hj => (by
                  by_cases e : j = k
                  · subst e; rw [HX.out]; omega
                  · exact HK.out j (by omega)), HBE.out⟩
                case measure => simp [intOf]; omega
          · have HT := Lib.hid (HGOOD.out (fun x hx => by
              obtain ⟨j, hj, rfl⟩ := List.mem_iff_getElem.1 hx
              have := HK.out j (by have := HL.out; omega)
              rw [List.getD_eq_getElem?_getD, List.getElem?_eq_getElem hj] at this
              exact this))
            clear hbel
            go_wp2
            go_ret
            exact ⟨by rw [HT.out]; rfl, HB1.out.trans (HBE.out.mono HB1.out.size)⟩
  · skip
    by_cases hm : 64 < en
    · have HT : Hid (stE en pn es ps = 5) := Lib.hid (by unfold stE; rw [if_pos (by omega)])
      have b1 : decide ((64 : Int) < (en : Int)) = true := by simp; omega
      clear hE hP hm HCO
      go_enter Try.func68, Try.ntmps68
      go_wp2
      go_ret
      exact ⟨by rw [HT.out]; rfl, (by repeat (first | exact Below.refl _ _ | refine Below.drew ?_ | refine below_drewN ?_ _ | refine Below.alloc ?_ (by first | exact Nat.le_refl _ | (simp; done) | (simp; omega) | omega) _ | refine Below.setCell ?_ (by first | exact Nat.le_refl _ | (simp; done) | (simp; omega) | omega) _ | refine bExtW ?_ (by first | exact Nat.le_refl _ | (simp; done) | (simp; omega) | omega) | refine Below.trans ?_ (Below.mono (by assumption) (by first | exact Nat.le_refl _ | (simp; done) | (simp; omega) | omega))))⟩
    · have b1 : decide ((64 : Int) < (en : Int)) = false := by simp; omega
      by_cases h0 : pn = 0
      · have HT : Hid (stE en pn es ps = 5) := Lib.hid (by unfold stE; rw [if_pos (by omega)])
        have b2 : (pn == 0) = true := by simp; omega
        have b3 : ((pn : Int) == 0) = true := by simp; omega
        clear hE hP hm h0 HCO
        go_enter Try.func68, Try.ntmps68
        go_wp2
        go_ret
        exact ⟨by rw [HT.out]; rfl, (by repeat (first | exact Below.refl _ _ | refine Below.drew ?_ | refine below_drewN ?_ _ | refine Below.alloc ?_ (by first | exact Nat.le_refl _ | (simp; done) | (simp; omega) | omega) _ | refine Below.setCell ?_ (by first | exact Nat.le_refl _ | (simp; done) | (simp; omega) | omega) _ | refine bExtW ?_ (by first | exact Nat.le_refl _ | (simp; done) | (simp; omega) | omega) | refine Below.trans ?_ (Below.mono (by assumption) (by first | exact Nat.le_refl _ | (simp; done) | (simp; omega) | omega))))⟩
      · have HBAD : Hid ((∃ x ∈ es ++ ps, x < 0 ∨ 62 ≤ x) → stE en pn es ps = 3) := Lib.hid fun h => by unfold stE; rw [if_neg (by omega), if_pos h]
        have HGOOD : Hid ((∀ x ∈ es ++ ps, 0 ≤ x ∧ x < 62) → stE en pn es ps = 0) := Lib.hid fun h => by unfold stE; rw [if_neg (by omega), if_neg (by rintro ⟨x, hx, e⟩; have := h x hx; omega)]
        have b2 : (pn == 0) = false := by simp; omega
        have b3 : ((pn : Int) == 0) = false := by simp; omega
        have HCC : Hid (∀ (b : Nat) (w' : World), w'.cell? ⟨b, 0, none⟩ = some (.slice ea en ec) → w'.cell? ⟨b, 1, none⟩ = some (.slice pa pn pc) → b < w'.heap.size → IsInts w' ea en es → IsInts w' pa pn ps → Calls Try.prog 82 #[.slice (some ⟨b, 0, none⟩) 2 2] w' (IPost (es ++ ps) w')) := Lib.hid fun b w' h1 h2 h3 h4 h5 => HCO.out b w' h1 h2 h3 h4 h5 (by omega) (by omega) (by omega)
        have HE := Lib.hid hE; have HP := Lib.hid hP
        have HL : Hid ((es ++ ps).length = en + pn) := Lib.hid (by rw [List.length_append, hE.1, hP.1])
        have hsm : en + pn ≤ 128 := by omega
        clear hE hP HCO hm h0
        go_enter Try.func68, Try.ntmps68
        go_wp2_with fail
        refine (HCC.out _ _ (by simp [go_sem]) (by simp [go_sem]) (by simp) (HE.out.below (by repeat (first | exact Below.refl _ _ | refine Below.drew ?_ | refine below_drewN ?_ _ | refine Below.alloc ?_ (by first | exact Nat.le_refl _ | (simp; done) | (simp; omega) | omega) _ | refine Below.setCell ?_ (by first | exact Nat.le_refl _ | (simp; done) | (simp; omega) | omega) _ | refine bExtW ?_ (by first | exact Nat.le_refl _ | (simp; done) | (simp; omega) | omega) | refine Below.trans ?_ (Below.mono (by assumption) (by first | exact Nat.le_refl _ | (simp; done) | (simp; omega) | omega))))) (HP.out.below (by repeat (first | exact Below.refl _ _ | refine Below.drew ?_ | refine below_drewN ?_ _ | refine Below.alloc ?_ (by first | exact Nat.le_refl _ | (simp; done) | (simp; omega) | omega) _ | refine Below.setCell ?_ (by first | exact Nat.le_refl _ | (simp; done) | (simp; omega) | omega) _ | refine bExtW ?_ (by first | exact Nat.le_refl _ | (simp; done) | (simp; omega) | omega) | refine Below.trans ?_ (Below.mono (by assumption) (by first | exact Nat.le_refl _ | (simp; done) | (simp; omega) | omega)))))).mono ?_
        rintro r w1 ⟨A, C, rfl, ho, hb⟩
        rw [HL.out] at ho ⊢
        have hb1 : Below w.heap.size w w1 := Below.trans (by repeat (first | exact Below.refl _ _ | refine Below.drew ?_ | refine below_drewN ?_ _ | refine Below.alloc ?_ (by first | exact Nat.le_refl _ | (simp; done) | (simp; omega) | omega) _ | refine Below.setCell ?_ (by first | exact Nat.le_refl _ | (simp; done) | (simp; omega) | omega) _ | refine bExtW ?_ (by first | exact Nat.le_refl _ | (simp; done) | (simp; omega) | omega) | refine Below.trans ?_ (Below.mono (by assumption) (by first | exact Nat.le_refl _ | (simp; done) | (simp; omega) | omega)))) (hb.mono (by first | exact Nat.le_refl _ | (simp; done) | (simp; omega) | omega))
        have HIA := Lib.hid (ints_of_any HL.out ho)
        clear ho hb
        obtain ⟨LL, hLL⟩ : ∃ LL, es ++ ps = LL := ⟨_, rfl⟩
        rw [hLL] at HL HIA HBAD HGOOD
        obtain ⟨NN, hNN⟩ : ∃ NN, en + pn = NN := ⟨_, rfl⟩
        rw [hNN] at HL HIA hsm ⊢
        have HB1 := Lib.hid hb1
        clear hLL hNN hb1
        go_wp2_with fail
        go_loopw [32] (fun iv wr => ∃ k : Nat, k ≤ NN ∧ iv = .int .i64 k ∧ Hid (∀ j, j < k → 0 ≤ LL.getD j 0 ∧ LL.getD j 0 < 62) ∧ Below w1.heap.size w1 wr) (fun iv _ => NN - (intOf iv).toNat)
        case atStart => exact ⟨0, by omega, rfl, Lib.hid fun j h => absurd h (by omega), Below.refl _ _⟩
        case round =>
          obtain ⟨k, hk, rfl, HK, hbel⟩ := hrel
          have HBE := Lib.hid hbel
          by_cases hkn : k < NN
          · obtain ⟨b, o, rfl, hb, hc⟩ := (HIA.out.below hbel).2 (by omega)
            have c0 := hc k hkn
            have lb : LtW b wr := hb
            have HM : Hid (LL.getD k 0 ∈ LL) := Lib.hid (by
              have hkl : k < LL.length := by rw [HL.out]; exact hkn
              rw [List.getD_eq_getElem?_getD, List.getElem?_eq_getElem hkl]
              exact List.getElem_mem hkl)
            obtain ⟨x, hx⟩ : ∃ x, LL.getD k 0 = x := ⟨_, rfl⟩
            rw [hx] at c0 HM
            have HX := Lib.hid hx
            clear hc hb hx hbel
            by_cases h1 : x < 0
            · have HT := Lib.hid (HBAD.out ⟨x, HM.out, .inl h1⟩)
              go_wp2
              go_ret
              exact ⟨by rw [HT.out]; rfl, HB1.out.trans (HBE.out.mono HB1.out.size)⟩
            · by_cases h2 : 62 ≤ x
              · have HT := Lib.hid (HBAD.out ⟨x, HM.out, .inr h2⟩)
                have t1 : decide (x < 0) = false := by simpa using h1
                go_wp2
                go_ret
                exact ⟨by rw [HT.out]; rfl, HB1.out.trans (HBE.out.mono HB1.out.size)⟩
              · have t1 : decide (x < 0) = false := by simpa using h1
                have t3 : decide (62 ≤ x) = false := by simpa using h2
                go_wp2
                go_roundw
                case rel => exact ⟨k + 1, by omega, by go_num, Lib.hid fun j hj => (by
                  by_cases e : j = k
                  · subst e; rw [HX.out]; omega
                  · exact HK.out j (by omega)), HBE.out⟩
                case measure => simp [intOf]; omega
          · have HT := Lib.hid (HGOOD.out (fun x hx => by
              obtain ⟨j, hj, rfl⟩ := List.mem_iff_getElem.1 hx
              have := HK.out j (by have := HL.out; omega)
              rw [List.getD_eq_getElem?_getD, List.getElem?_eq_getElem hj] at this
              exact this))
            clear hbel
            go_wp2
            go_ret
            exact ⟨by rw [HT.out]; rfl, HB1.out.trans (HBE.out.mono HB1.out.size)⟩
end Go.Proofs.Yticplgjpflaelaa
