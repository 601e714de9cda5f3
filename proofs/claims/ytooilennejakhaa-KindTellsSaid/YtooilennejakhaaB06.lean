/- Lemmas and contracts of functions (what each call returns, and that it changes nothing that was there) that the proof of a law of this seat uses; each lemma states its own conditions. -/
import Derived.Test.YtooilennejakhaaB05
import Derived.IntWalk
import Derived.RangeFuncNested
import Derived.RangeFuncBox
import Derived.RangeFuncBound
import Derived.RangeFuncCalls
import Derived.RangeFuncLeaves
import Derived.Shelf.Abstract
import Derived.OwnWalkIn
import Derived.TacticsInMore
import Derived.LoopNIn
import Derived.LoopIn
namespace Go.Proofs.Ytooilennejakhaa
open Go.RowKit
set_option linter.unusedVariables false
set_option linter.unusedSimpArgs false
/-- What is wrong with a chart. -/
def chE (G W H : Int) (n : Nat) (cs : List Int) : Int :=
  if G ≠ 4 ∧ G ≠ 6 then 1 else if W < 1 ∨ 64 < W ∨ H < 1 ∨ 64 < H then 3 else if (n : Int) ≠ W * H then 8 else if ∃ x ∈ cs, x < 0 ∨ 62 ≤ x then 3 else 0
theorem chE_zero {G W H : Int} {n : Nat} {cs : List Int} (h : chE G W H n cs = 0) : (G = 4 ∨ G = 6) ∧ ∃ W' H' : Nat, W = W' ∧ H = H' ∧ 1 ≤ W' ∧ W' ≤ 64 ∧ 1 ≤ H' ∧ H' ≤ 64 ∧ n = W' * H' ∧ ∀ x ∈ cs, 0 ≤ x ∧ x < 62 := by
  unfold chE at h
  split at h
  · omega
  · split at h
    · omega
    · split at h
      · omega
      · split at h
        · omega
        · rename_i h1 h2 h3 h4
          refine ⟨by omega, W.toNat, H.toNat, by omega, by omega, by omega, by omega, by omega, by omega, ?_, fun x hx => ?_⟩
          · have e : ((W.toNat * H.toNat : Nat) : Int) = W * H := by rw [Int.natCast_mul, Int.toNat_of_nonneg (by omega), Int.toNat_of_nonneg (by omega)]
            omega
          · by_cases e : x < 0 ∨ 62 ≤ x
            · exact absurd ⟨x, hx, e⟩ h4
            · omega
theorem chE_ok {G : Int} {W H n : Nat} {cs : List Int} (hG : G = 4 ∨ G = 6) (hW : 1 ≤ W) (hW2 : W ≤ 64) (hH : 1 ≤ H) (hH2 : H ≤ 64) (hn : n = W * H) (hc : ∀ x ∈ cs, 0 ≤ x ∧ x < 62) : chE G W H n cs = 0 := by
  unfold chE
  rw [if_neg (by omega), if_neg (by omega), if_neg (by rw [hn, Int.natCast_mul]; simp), if_neg (by rintro ⟨x, hx, e⟩; have := hc x hx; omega)]
set_option maxRecDepth 100000 in
set_option maxHeartbeats 8000000 in
theorem chWrong_any (G W H : Int) (a : Option Addr) (n c : Nat) (cs : List Int) (w : World) (hI : IsInts w a n cs) (h0 : (-9223372036854775808 ≤ G ∧ G ≤ 9223372036854775807)) (h1 : (-9223372036854775808 ≤ W ∧ W ≤ 9223372036854775807)) (h2 : (-9223372036854775808 ≤ H ∧ H ≤ 9223372036854775807)) (h3 : n ≤ 9223372036854775807) :
    Calls Try.prog 25 #[.agg #[.int .i64 (G), .int .i64 (W), .int .i64 (H), .slice a n c]] w fun e w' => e = .returned (.int .i64 (chE G W H n cs)) ∧ Below w.heap.size w w' := by
  by_cases hG : G ≠ 4 ∧ G ≠ 6
  · have HT : Hid (chE G W H n cs = 1) := Lib.hid (by unfold chE; rw [if_pos hG])
    have g1 : (G != 4) = true := by simpa using hG.1
    have g2 : (G != 6) = true := by simpa using hG.2
    clear hG hI
    go_enter Try.func25, Try.ntmps25
    go_wp2
    go_ret
    exact ⟨by rw [HT.out]; rfl, (by repeat (first | exact Below.refl _ _ | refine Below.drew ?_ | refine below_drewN ?_ _ | refine Below.alloc ?_ (by first | exact Nat.le_refl _ | (simp; done) | (simp; omega) | omega) _ | refine Below.setCell ?_ (by first | exact Nat.le_refl _ | (simp; done) | (simp; omega) | omega) _ | refine bExtW ?_ (by first | exact Nat.le_refl _ | (simp; done) | (simp; omega) | omega) | refine Below.trans ?_ (Below.mono (by assumption) (by first | exact Nat.le_refl _ | (simp; done) | (simp; omega) | omega))))⟩
  · have hG2 : ((G != 4) = false) ∨ ((G != 4) = true ∧ (G != 6) = false) := by
      by_cases e : G = 4
      · left; simpa using e
      · right; exact ⟨by simpa using e, by simp; omega⟩
    by_cases hr : W < 1 ∨ 64 < W ∨ H < 1 ∨ 64 < H
    · have HT : Hid (chE G W H n cs = 3) := Lib.hid (by unfold chE; rw [if_neg hG, if_pos hr])
      clear hG
      rcases hG2 with g1 | ⟨g1, g2⟩
      all_goals
        rcases (show W < 1 ∨ (1 ≤ W ∧ 64 < W) ∨ (1 ≤ W ∧ W ≤ 64 ∧ H < 1) ∨ (1 ≤ W ∧ W ≤ 64 ∧ 1 ≤ H ∧ 64 < H) by omega) with h | ⟨h, h'⟩ | ⟨h, h', h''⟩ | ⟨h, h', h'', h3⟩
        all_goals
          clear hr hI
          go_enter Try.func25, Try.ntmps25
          go_wp2
          go_ret
          exact ⟨by rw [HT.out]; rfl, (by repeat (first | exact Below.refl _ _ | refine Below.drew ?_ | refine below_drewN ?_ _ | refine Below.alloc ?_ (by first | exact Nat.le_refl _ | (simp; done) | (simp; omega) | omega) _ | refine Below.setCell ?_ (by first | exact Nat.le_refl _ | (simp; done) | (simp; omega) | omega) _ | refine bExtW ?_ (by first | exact Nat.le_refl _ | (simp; done) | (simp; omega) | omega) | refine Below.trans ?_ (Below.mono (by assumption) (by first | exact Nat.le_refl _ | (simp; done) | (simp; omega) | omega))))⟩
    · have hr' : 1 ≤ W ∧ W ≤ 64 ∧ 1 ≤ H ∧ H ≤ 64 := by omega
      obtain ⟨r1, r2, r3, r4⟩ := hr'
      have hm := mul64 (W := W) (H := H) (by omega)
      obtain ⟨P, hP⟩ : ∃ P, W * H = P := ⟨_, rfl⟩
      by_cases he : (n : Int) = W * H
      · have HBAD : Hid ((∃ x ∈ cs, x < 0 ∨ 62 ≤ x) → chE G W H n cs = 3) := Lib.hid fun h => by unfold chE; rw [if_neg hG, if_neg hr, if_neg (by simpa using he), if_pos h]
        have HGOOD : Hid ((∀ x ∈ cs, 0 ≤ x ∧ x < 62) → chE G W H n cs = 0) := Lib.hid fun h => by unfold chE; rw [if_neg hG, if_neg hr, if_neg (by simpa using he), if_neg (by rintro ⟨x, hx, e⟩; have := h x hx; omega)]
        rw [hP] at hm he
        have hn4 : n ≤ 4096 := by omega
        have hb : ((n : Int) != P) = false := by simpa using he
        have HI := Lib.hid hI
        clear hr hG he hI
        rcases hG2 with g1 | ⟨g1, g2⟩
        · skip
          go_enter Try.func25, Try.ntmps25
          go_wp2_with fail
          go_loopw [46] (fun i wr => ∃ (k : Nat) (E : Array Obj) (d : Nat), k ≤ n ∧ i = .int .i64 k ∧ Hid (∀ j, j < k → 0 ≤ cs.getD j 0 ∧ cs.getD j 0 < 62) ∧ wr = extW (w.alloc (.cells #[.int .i64 (G), .int .i64 (W), .int .i64 (H), .slice a n c] 24)) E d) (fun i _ => n - (intOf i).toNat)
          case atStart => exact ⟨0, #[], _, by omega, rfl, Lib.hid fun j h => absurd h (by omega), extW_zero _⟩
          case round =>
            obtain ⟨k, E, d, hk, rfl, HK, rfl⟩ := hrel
            by_cases hkn : k < n
            · obtain ⟨b, o, rfl, hb, hc⟩ := HI.out.2 (by omega)
              have c0 := hc k hkn
              have lb : LtW b w := hb
              have HM : Hid (cs.getD k 0 ∈ cs) := Lib.hid (by
                have hkl : k < cs.length := by rw [HI.out.1]; exact hkn
                rw [List.getD_eq_getElem?_getD, List.getElem?_eq_getElem hkl]
                exact List.getElem_mem hkl)
              obtain ⟨x, hx⟩ : ∃ x, cs.getD k 0 = x := ⟨_, rfl⟩
              rw [hx] at c0 HM
              have HX := Lib.hid hx
              clear hc hb hx
              by_cases h1 : x < 0
              · have HT := Lib.hid (HBAD.out ⟨x, HM.out, .inl h1⟩)
                go_wp2
                go_ret
                exact ⟨by rw [HT.out]; rfl, (by repeat (first | exact Below.refl _ _ | refine Below.drew ?_ | refine below_drewN ?_ _ | refine Below.alloc ?_ (by first | exact Nat.le_refl _ | (simp; done) | (simp; omega) | omega) _ | refine Below.setCell ?_ (by first | exact Nat.le_refl _ | (simp; done) | (simp; omega) | omega) _ | refine bExtW ?_ (by first | exact Nat.le_refl _ | (simp; done) | (simp; omega) | omega) | refine Below.trans ?_ (Below.mono (by assumption) (by first | exact Nat.le_refl _ | (simp; done) | (simp; omega) | omega))))⟩
              · by_cases h2 : 62 ≤ x
                · have HT := Lib.hid (HBAD.out ⟨x, HM.out, .inr h2⟩)
                  have t1 : decide (x < 0) = false := by simpa using h1
                  have t2 : decide (61 < x) = true := by simp; omega
                  go_wp2
                  go_ret
                  exact ⟨by rw [HT.out]; rfl, (by repeat (first | exact Below.refl _ _ | refine Below.drew ?_ | refine below_drewN ?_ _ | refine Below.alloc ?_ (by first | exact Nat.le_refl _ | (simp; done) | (simp; omega) | omega) _ | refine Below.setCell ?_ (by first | exact Nat.le_refl _ | (simp; done) | (simp; omega) | omega) _ | refine bExtW ?_ (by first | exact Nat.le_refl _ | (simp; done) | (simp; omega) | omega) | refine Below.trans ?_ (Below.mono (by assumption) (by first | exact Nat.le_refl _ | (simp; done) | (simp; omega) | omega))))⟩
                · have t1 : decide (x < 0) = false := by simpa using h1
                  have t2 : decide (61 < x) = false := by simp; omega
                  have t3 : decide (62 ≤ x) = false := by simpa using h2
                  go_wp2
                  go_roundw
                  case rel => exact ⟨k + 1, E, d, by omega, by go_num, Lib.hid fun j hj => (by
                    by_cases e : j = k
                    · subst e; rw [HX.out]; omega
                    · exact HK.out j (by omega)), rfl⟩
                  case measure => simp [intOf]; omega
            · have HT := Lib.hid (HGOOD.out (fun x hx => by
                obtain ⟨j, hj, rfl⟩ := List.mem_iff_getElem.1 hx
                have := HK.out j (by have := HI.out.1; omega)
                rw [List.getD_eq_getElem?_getD, List.getElem?_eq_getElem hj] at this
                exact this))
              go_wp2
              go_ret
              exact ⟨by rw [HT.out]; rfl, (by repeat (first | exact Below.refl _ _ | refine Below.drew ?_ | refine below_drewN ?_ _ | refine Below.alloc ?_ (by first | exact Nat.le_refl _ | (simp; done) | (simp; omega) | omega) _ | refine Below.setCell ?_ (by first | exact Nat.le_refl _ | (simp; done) | (simp; omega) | omega) _ | refine bExtW ?_ (by first | exact Nat.le_refl _ | (simp; done) | (simp; omega) | omega) | refine Below.trans ?_ (Below.mono (by assumption) (by first | exact Nat.le_refl _ | (simp; done) | (simp; omega) | omega))))⟩
        · skip
          go_enter Try.func25, Try.ntmps25
          go_wp2_with fail
          go_loopw [46] (fun i wr => ∃ (k : Nat) (E : Array Obj) (d : Nat), k ≤ n ∧ i = .int .i64 k ∧ Hid (∀ j, j < k → 0 ≤ cs.getD j 0 ∧ cs.getD j 0 < 62) ∧ wr = extW (w.alloc (.cells #[.int .i64 (G), .int .i64 (W), .int .i64 (H), .slice a n c] 24)) E d) (fun i _ => n - (intOf i).toNat)
          case atStart => exact ⟨0, #[], _, by omega, rfl, Lib.hid fun j h => absurd h (by omega), extW_zero _⟩
          case round =>
            obtain ⟨k, E, d, hk, rfl, HK, rfl⟩ := hrel
            by_cases hkn : k < n
            · obtain ⟨b, o, rfl, hb, hc⟩ := HI.out.2 (by omega)
              have c0 := hc k hkn
              have lb : LtW b w := hb
              have HM : Hid (cs.getD k 0 ∈ cs) := Lib.hid (by
                have hkl : k < cs.length := by rw [HI.out.1]; exact hkn
                rw [List.getD_eq_getElem?_getD, List.getElem?_eq_getElem hkl]
                exact List.getElem_mem hkl)
              obtain ⟨x, hx⟩ : ∃ x, cs.getD k 0 = x := ⟨_, rfl⟩
              rw [hx] at c0 HM
              have HX := Lib.hid hx
              clear hc hb hx
              by_cases h1 : x < 0
              · have HT := Lib.hid (HBAD.out ⟨x, HM.out, .inl h1⟩)
                go_wp2
                go_ret
                exact ⟨by rw [HT.out]; rfl, (by repeat (first | exact Below.refl _ _ | refine Below.drew ?_ | refine below_drewN ?_ _ | refine Below.alloc ?_ (by first | exact Nat.le_refl _ | (simp; done) | (simp; omega) | omega) _ | refine Below.setCell ?_ (by first | exact Nat.le_refl _ | (simp; done) | (simp; omega) | omega) _ | refine bExtW ?_ (by first | exact Nat.le_refl _ | (simp; done) | (simp; omega) | omega) | refine Below.trans ?_ (Below.mono (by assumption) (by first | exact Nat.le_refl _ | (simp; done) | (simp; omega) | omega))))⟩
              · by_cases h2 : 62 ≤ x
                · have HT := Lib.hid (HBAD.out ⟨x, HM.out, .inr h2⟩)
                  have t1 : decide (x < 0) = false := by simpa using h1
                  have t2 : decide (61 < x) = true := by simp; omega
                  go_wp2
                  go_ret
                  exact ⟨by rw [HT.out]; rfl, (by repeat (first | exact Below.refl _ _ | refine Below.drew ?_ | refine below_drewN ?_ _ | refine Below.alloc ?_ (by first | exact Nat.le_refl _ | (simp; done) | (simp; omega) | omega) _ | refine Below.setCell ?_ (by first | exact Nat.le_refl _ | (simp; done) | (simp; omega) | omega) _ | refine bExtW ?_ (by first | exact Nat.le_refl _ | (simp; done) | (simp; omega) | omega) | refine Below.trans ?_ (Below.mono (by assumption) (by first | exact Nat.le_refl _ | (simp; done) | (simp; omega) | omega))))⟩
                · have t1 : decide (x < 0) = false := by simpa using h1
                  have t2 : decide (61 < x) = false := by simp; omega
                  have t3 : decide (62 ≤ x) = false := by simpa using h2
                  go_wp2
                  go_roundw
                  case rel => exact ⟨k + 1, E, d, by omega, by go_num, Lib.hid fun j hj => (by
                    by_cases e : j = k
                    · subst e; rw [HX.out]; omega
                    · exact HK.out j (by omega)), rfl⟩
                  case measure => simp [intOf]; omega
            · have HT := Lib.hid (HGOOD.out (fun x hx => by
                obtain ⟨j, hj, rfl⟩ := List.mem_iff_getElem.1 hx
                have := HK.out j (by have := HI.out.1; omega)
                rw [List.getD_eq_getElem?_getD, List.getElem?_eq_getElem hj] at this
                exact this))
              go_wp2
              go_ret
              exact ⟨by rw [HT.out]; rfl, (by repeat (first | exact Below.refl _ _ | refine Below.drew ?_ | refine below_drewN ?_ _ | refine Below.alloc ?_ (by first | exact Nat.le_refl _ | (simp; done) | (simp; omega) | omega) _ | refine Below.setCell ?_ (by first | exact Nat.le_refl _ | (simp; done) | (simp; omega) | omega) _ | refine bExtW ?_ (by first | exact Nat.le_refl _ | (simp; done) | (simp; omega) | omega) | refine Below.trans ?_ (Below.mono (by assumption) (by first | exact Nat.le_refl _ | (simp; done) | (simp; omega) | omega))))⟩
      · have HT : Hid (chE G W H n cs = 8) := Lib.hid (by unfold chE; rw [if_neg hG, if_neg hr, if_pos he])
        rw [hP] at hm he
        have hb : ((n : Int) != P) = true := by simpa using he
        clear hr hG he hI
        rcases hG2 with g1 | ⟨g1, g2⟩
        all_goals
          go_enter Try.func25, Try.ntmps25
          go_wp2
          go_ret
          exact ⟨by rw [HT.out]; rfl, (by repeat (first | exact Below.refl _ _ | refine Below.drew ?_ | refine below_drewN ?_ _ | refine Below.alloc ?_ (by first | exact Nat.le_refl _ | (simp; done) | (simp; omega) | omega) _ | refine Below.setCell ?_ (by first | exact Nat.le_refl _ | (simp; done) | (simp; omega) | omega) _ | refine bExtW ?_ (by first | exact Nat.le_refl _ | (simp; done) | (simp; omega) | omega) | refine Below.trans ?_ (Below.mono (by assumption) (by first | exact Nat.le_refl _ | (simp; done) | (simp; omega) | omega))))⟩
set_option maxRecDepth 100000 in
set_option maxHeartbeats 8000000 in
theorem r2Wrong_any (G W H : Int) (a : Option Addr) (n c : Nat) (cs : List Int) (w : World) (hI : IsInts w a n cs) (h0 : (-9223372036854775808 ≤ G ∧ G ≤ 9223372036854775807)) (h1 : (-9223372036854775808 ≤ W ∧ W ≤ 9223372036854775807)) (h2 : (-9223372036854775808 ≤ H ∧ H ≤ 9223372036854775807)) (h3 : n ≤ 9223372036854775807) :
    Calls Try.prog 38 #[.agg #[.int .i64 (G), .int .i64 (W), .int .i64 (H), .slice a n c]] w fun e w' => e = .returned (.int .i64 (chE G W H n cs)) ∧ Below w.heap.size w w' := by
  by_cases hG : G ≠ 4 ∧ G ≠ 6
  · have HT : Hid (chE G W H n cs = 1) := Lib.hid (by unfold chE; rw [if_pos hG])
    have g1 : (G != 4) = true := by simpa using hG.1
    have g2 : (G != 6) = true := by simpa using hG.2
    clear hG hI
    go_enter Try.func38, Try.ntmps38
    go_wp2
    go_ret
    exact ⟨by rw [HT.out]; rfl, (by repeat (first | exact Below.refl _ _ | refine Below.drew ?_ | refine below_drewN ?_ _ | refine Below.alloc ?_ (by first | exact Nat.le_refl _ | (simp; done) | (simp; omega) | omega) _ | refine Below.setCell ?_ (by first | exact Nat.le_refl _ | (simp; done) | (simp; omega) | omega) _ | refine bExtW ?_ (by first | exact Nat.le_refl _ | (simp; done) | (simp; omega) | omega) | refine Below.trans ?_ (Below.mono (by assumption) (by first | exact Nat.le_refl _ | (simp; done) | (simp; omega) | omega))))⟩
  · have hG2 : ((G != 4) = false) ∨ ((G != 4) = true ∧ (G != 6) = false) := by
      by_cases e : G = 4
      · left; simpa using e
      · right; exact ⟨by simpa using e, by simp; omega⟩
    by_cases hr : W < 1 ∨ 64 < W ∨ H < 1 ∨ 64 < H
    · have HT : Hid (chE G W H n cs = 3) := Lib.hid (by unfold chE; rw [if_neg hG, if_pos hr])
      clear hG
      rcases hG2 with g1 | ⟨g1, g2⟩
      all_goals
        rcases (show W < 1 ∨ (1 ≤ W ∧ 64 < W) ∨ (1 ≤ W ∧ W ≤ 64 ∧ H < 1) ∨ (1 ≤ W ∧ W ≤ 64 ∧ 1 ≤ H ∧ 64 < H) by omega) with h | ⟨h, h'⟩ | ⟨h, h', h''⟩ | ⟨h, h', h'', h3⟩
        all_goals
          clear hr hI
          go_enter Try.func38, Try.ntmps38
          go_wp2
          go_ret
          exact ⟨by rw [HT.out]; rfl, (by repeat (first | exact Below.refl _ _ | refine Below.drew ?_ | refine below_drewN ?_ _ | refine Below.alloc ?_ (by first | exact Nat.le_refl _ | (simp; done) | (simp; omega) | omega) _ | refine Below.setCell ?_ (by first | exact Nat.le_refl _ | (simp; done) | (simp; omega) | omega) _ | refine bExtW ?_ (by first | exact Nat.le_refl _ | (simp; done) | (simp; omega) | omega) | refine Below.trans ?_ (Below.mono (by assumption) (by first | exact Nat.le_refl _ | (simp; done) | (simp; omega) | omega))))⟩
    · have hr' : 1 ≤ W ∧ W ≤ 64 ∧ 1 ≤ H ∧ H ≤ 64 := by omega
      obtain ⟨r1, r2, r3, r4⟩ := hr'
      have hm := mul64 (W := W) (H := H) (by omega)
      obtain ⟨P, hP⟩ : ∃ P, W * H = P := ⟨_, rfl⟩
      by_cases he : (n : Int) = W * H
      · have HBAD : Hid ((∃ x ∈ cs, x < 0 ∨ 62 ≤ x) → chE G W H n cs = 3) := Lib.hid fun h => by unfold chE; rw [if_neg hG, if_neg hr, if_neg (by simpa using he), if_pos h]
        have HGOOD : Hid ((∀ x ∈ cs, 0 ≤ x ∧ x < 62) → chE G W H n cs = 0) := Lib.hid fun h => by unfold chE; rw [if_neg hG, if_neg hr, if_neg (by simpa using he), if_neg (by rintro ⟨x, hx, e⟩; have := h x hx; omega)]
        rw [hP] at hm he
        have hn4 : n ≤ 4096 := by omega
        have hb : ((n : Int) != P) = false := by simpa using he
        have HI := Lib.hid hI
        clear hr hG he hI
        rcases hG2 with g1 | ⟨g1, g2⟩
        · skip
          go_enter Try.func38, Try.ntmps38
          go_wp2_with fail
          go_loopw [43] (fun i wr => ∃ (k : Nat) (E : Array Obj) (d : Nat), k ≤ n ∧ i = .int .i64 k ∧ Hid (∀ j, j < k → 0 ≤ cs.getD j 0 ∧ cs.getD j 0 < 62) ∧ wr = extW (w.alloc (.cells #[.int .i64 (G), .int .i64 (W), .int .i64 (H), .slice a n c] 24)) E d) (fun i _ => n - (intOf i).toNat)
          case atStart => exact ⟨0, #[], _, by omega, rfl, Lib.hid fun j h => absurd h (by omega), extW_zero _⟩
          case round =>
            obtain ⟨k, E, d, hk, rfl, HK, rfl⟩ := hrel
            by_cases hkn : k < n
            · obtain ⟨b, o, rfl, hb, hc⟩ := HI.out.2 (by omega)
              have c0 := hc k hkn
              have lb : LtW b w := hb
              have HM : Hid (cs.getD k 0 ∈ cs) := Lib.hid (by
                have hkl : k < cs.length := by rw [HI.out.1]; exact hkn
                rw [List.getD_eq_getElem?_getD, List.getElem?_eq_getElem hkl]
                exact List.getElem_mem hkl)
              obtain ⟨x, hx⟩ : ∃ x, cs.getD k 0 = x := ⟨_, rfl⟩
              rw [hx] at c0 HM
              have HX := Lib.hid hx
              clear hc hb hx
              by_cases h1 : x < 0
              · have HT := Lib.hid (HBAD.out ⟨x, HM.out, .inl h1⟩)
                go_wp2
                go_ret
                exact ⟨by rw [HT.out]; rfl, (by repeat (first | exact Below.refl _ _ | refine Below.drew ?_ | refine below_drewN ?_ _ | refine Below.alloc ?_ (by first | exact Nat.le_refl _ | (simp; done) | (simp; omega) | omega) _ | refine Below.setCell ?_ (by first | exact Nat.le_refl _ | (simp; done) | (simp; omega) | omega) _ | refine bExtW ?_ (by first | exact Nat.le_refl _ | (simp; done) | (simp; omega) | omega) | refine Below.trans ?_ (Below.mono (by assumption) (by first | exact Nat.le_refl _ | (simp; done) | (simp; omega) | omega))))⟩
              · by_cases h2 : 62 ≤ x
                · have HT := Lib.hid (HBAD.out ⟨x, HM.out, .inr h2⟩)
                  have t1 : decide (x < 0) = false := by simpa using h1
                  have t2 : decide (61 < x) = true := by simp; omega
                  go_wp2
                  go_ret
                  exact ⟨by rw [HT.out]; rfl, (by repeat (first | exact Below.refl _ _ | refine Below.drew ?_ | refine below_drewN ?_ _ | refine Below.alloc ?_ (by first | exact Nat.le_refl _ | (simp; done) | (simp; omega) | omega) _ | refine Below.setCell ?_ (by first | exact Nat.le_refl _ | (simp; done) | (simp; omega) | omega) _ | refine bExtW ?_ (by first | exact Nat.le_refl _ | (simp; done) | (simp; omega) | omega) | refine Below.trans ?_ (Below.mono (by assumption) (by first | exact Nat.le_refl _ | (simp; done) | (simp; omega) | omega))))⟩
                · have t1 : decide (x < 0) = false := by simpa using h1
                  have t2 : decide (61 < x) = false := by simp; omega
                  have t3 : decide (62 ≤ x) = false := by simpa using h2
                  go_wp2
                  go_roundw
                  case rel => exact ⟨k + 1, E, d, by omega, by go_num, Lib.hid fun j hj => (by
                    by_cases e : j = k
                    · subst e; rw [HX.out]; omega
                    · exact HK.out j (by omega)), rfl⟩
                  case measure => simp [intOf]; omega
            · have HT := Lib.hid (HGOOD.out (fun x hx => by
                obtain ⟨j, hj, rfl⟩ := List.mem_iff_getElem.1 hx
                have := HK.out j (by have := HI.out.1; omega)
                rw [List.getD_eq_getElem?_getD, List.getElem?_eq_getElem hj] at this
                exact this))
              go_wp2
              go_ret
              exact ⟨by rw [HT.out]; rfl, (by repeat (first | exact Below.refl _ _ | refine Below.drew ?_ | refine below_drewN ?_ _ | refine Below.alloc ?_ (by first | exact Nat.le_refl _ | (simp; done) | (simp; omega) | omega) _ | refine Below.setCell ?_ (by first | exact Nat.le_refl _ | (simp; done) | (simp; omega) | omega) _ | refine bExtW ?_ (by first | exact Nat.le_refl _ | (simp; done) | (simp; omega) | omega) | refine Below.trans ?_ (Below.mono (by assumption) (by first | exact Nat.le_refl _ | (simp; done) | (simp; omega) | omega))))⟩
        · skip
          go_enter Try.func38, Try.ntmps38
          go_wp2_with fail
          go_loopw [43] (fun i wr => ∃ (k : Nat) (E : Array Obj) (d : Nat), k ≤ n ∧ i = .int .i64 k ∧ Hid (∀ j, j < k → 0 ≤ cs.getD j 0 ∧ cs.getD j 0 < 62) ∧ wr = extW (w.alloc (.cells #[.int .i64 (G), .int .i64 (W), .int .i64 (H), .slice a n c] 24)) E d) (fun i _ => n - (intOf i).toNat)
          case atStart => exact ⟨0, #[], _, by omega, rfl, Lib.hid fun j h => absurd h (by omega), extW_zero _⟩
          case round =>
            obtain ⟨k, E, d, hk, rfl, HK, rfl⟩ := hrel
            by_cases hkn : k < n
            · obtain ⟨b, o, rfl, hb, hc⟩ := HI.out.2 (by omega)
              have c0 := hc k hkn
              have lb : LtW b w := hb
              have HM : Hid (cs.getD k 0 ∈ cs) := Lib.hid (by
                have hkl : k < cs.length := by rw [HI.out.1]; exact hkn
                rw [List.getD_eq_getElem?_getD, List.getElem?_eq_getElem hkl]
                exact List.getElem_mem hkl)
              obtain ⟨x, hx⟩ : ∃ x, cs.getD k 0 = x := ⟨_, rfl⟩
              rw [hx] at c0 HM
              have HX := Lib.hid hx
              clear hc hb hx
              by_cases h1 : x < 0
              · have HT := Lib.hid (HBAD.out ⟨x, HM.out, .inl h1⟩)
                go_wp2
                go_ret
                exact ⟨by rw [HT.out]; rfl, (by repeat (first | exact Below.refl _ _ | refine Below.drew ?_ | refine below_drewN ?_ _ | refine Below.alloc ?_ (by first | exact Nat.le_refl _ | (simp; done) | (simp; omega) | omega) _ | refine Below.setCell ?_ (by first | exact Nat.le_refl _ | (simp; done) | (simp; omega) | omega) _ | refine bExtW ?_ (by first | exact Nat.le_refl _ | (simp; done) | (simp; omega) | omega) | refine Below.trans ?_ (Below.mono (by assumption) (by first | exact Nat.le_refl _ | (simp; done) | (simp; omega) | omega))))⟩
              · by_cases h2 : 62 ≤ x
                · have HT := Lib.hid (HBAD.out ⟨x, HM.out, .inr h2⟩)
                  have t1 : decide (x < 0) = false := by simpa using h1
                  have t2 : decide (61 < x) = true := by simp; omega
                  go_wp2
                  go_ret
                  exact ⟨by rw [HT.out]; rfl, (by repeat (first | exact Below.refl _ _ | refine Below.drew ?_ | refine below_drewN ?_ _ | refine Below.alloc ?_ (by first | exact Nat.le_refl _ | (simp; done) | (simp; omega) | omega) _ | refine Below.setCell ?_ (by first | exact Nat.le_refl _ | (simp; done) | (simp; omega) | omega) _ | refine bExtW ?_ (by first | exact Nat.le_refl _ | (simp; done) | (simp; omega) | omega) | refine Below.trans ?_ (Below.mono (by assumption) (by first | exact Nat.le_refl _ | (simp; done) | (simp; omega) | omega))))⟩
                · have t1 : decide (x < 0) = false := by simpa using h1
                  have t2 : decide (61 < x) = false := by simp; omega
                  have t3 : decide (62 ≤ x) = false := by simpa using h2
                  go_wp2
                  go_roundw
                  case rel => exact ⟨k + 1, E, d, by omega, by go_num, Lib.hid fun j hj => (by
                    by_cases e : j = k
                    · subst e; rw [HX.out]; omega
                    · exact HK.out j (by omega)), rfl⟩
                  case measure => simp [intOf]; omega
            · have HT := Lib.hid (HGOOD.out (fun x hx => by
                obtain ⟨j, hj, rfl⟩ := List.mem_iff_getElem.1 hx
                have := HK.out j (by have := HI.out.1; omega)
                rw [List.getD_eq_getElem?_getD, List.getElem?_eq_getElem hj] at this
                exact this))
              go_wp2
              go_ret
              exact ⟨by rw [HT.out]; rfl, (by repeat (first | exact Below.refl _ _ | refine Below.drew ?_ | refine below_drewN ?_ _ | refine Below.alloc ?_ (by first | exact Nat.le_refl _ | (simp; done) | (simp; omega) | omega) _ | refine Below.setCell ?_ (by first | exact Nat.le_refl _ | (simp; done) | (simp; omega) | omega) _ | refine bExtW ?_ (by first | exact Nat.le_refl _ | (simp; done) | (simp; omega) | omega) | refine Below.trans ?_ (Below.mono (by assumption) (by first | exact Nat.le_refl _ | (simp; done) | (simp; omega) | omega))))⟩
      · have HT : Hid (chE G W H n cs = 8) := Lib.hid (by unfold chE; rw [if_neg hG, if_neg hr, if_pos he])
        rw [hP] at hm he
        have hb : ((n : Int) != P) = true := by simpa using he
        clear hr hG he hI
        rcases hG2 with g1 | ⟨g1, g2⟩
        all_goals
          go_enter Try.func38, Try.ntmps38
          go_wp2
          go_ret
          exact ⟨by rw [HT.out]; rfl, (by repeat (first | exact Below.refl _ _ | refine Below.drew ?_ | refine below_drewN ?_ _ | refine Below.alloc ?_ (by first | exact Nat.le_refl _ | (simp; done) | (simp; omega) | omega) _ | refine Below.setCell ?_ (by first | exact Nat.le_refl _ | (simp; done) | (simp; omega) | omega) _ | refine bExtW ?_ (by first | exact Nat.le_refl _ | (simp; done) | (simp; omega) | omega) | refine Below.trans ?_ (Below.mono (by assumption) (by first | exact Nat.le_refl _ | (simp; done) | (simp; omega) | omega))))⟩
end Go.Proofs.Ytooilennejakhaa

namespace Go.Proofs.Ytooilennejakhaa
open Go.RowKit
set_option linter.unusedVariables false
set_option linter.unusedSimpArgs false
open Go.Shelf
attribute [local go_sem] Oper.semAt_some
/-- Block tb holds right truths. -/
structure TB (tb W H : Nat) (a : Option Addr) (n c : Nat) (bs : List Bool) (w : World) : Prop where
  c0 : w.cell? ⟨tb, 0, none⟩ = some (.int .i64 (W))
  c1 : w.cell? ⟨tb, 1, none⟩ = some (.int .i64 (H))
  c2 : w.cell? ⟨tb, 2, none⟩ = some (.slice a n c)
  bits : IsBools w a n bs
theorem TB.below {tb W H : Nat} {a : Option Addr} {n c : Nat} {bs : List Bool} {w w' : World} (h : TB tb W H a n c bs w) (hb : Below w.heap.size w w') : TB tb W H a n c bs w' :=
  ⟨bCs hb h.c0, bCs hb h.c1, bCs hb h.c2, h.bits.below hb⟩
theorem IsBools.kept {W W' : World} {row : Option Nat} {a : Option Addr} {n : Nat} {bs : List Bool} (h : IsBools W a n bs) (hg : W.grownBy W' row) (hr : ∀ r, row = some r → ∃ o : Obj, W.heap[r]? = some o ∧ o.isCells = false) : IsBools W' a n bs := by
  refine ⟨h.1, fun hn => ?_⟩
  obtain ⟨b, o, h1, h2, h3⟩ := h.2 hn
  exact ⟨b, o, h1, Nat.lt_of_lt_of_le h2 hg.size, fun j hj => cell_kept (h3 j hj) hg hr⟩
theorem TB.kept {tb W H : Nat} {a : Option Addr} {n c : Nat} {bs : List Bool} {w w' : World} {row : Option Nat} (h : TB tb W H a n c bs w) (hg : w.grownBy w' row) (hr : ∀ r, row = some r → ∃ o : Obj, w.heap[r]? = some o ∧ o.isCells = false) : TB tb W H a n c bs w' :=
  ⟨cell_kept h.c0 hg hr, cell_kept h.c1 hg hr, cell_kept h.c2 hg hr, h.bits.kept hg hr⟩
theorem rowIs_kept {W W' : World} {row : Option Nat} {b t n : Nat} {f : Nat → Value} (h : W.rowIs b t n f) (hg : W.grownBy W' row) (hr : ∀ r, row = some r → ∃ o : Obj, W.heap[r]? = some o ∧ o.isCells = false) : W'.rowIs b t n f := by
  have hlt := h.lt
  refine h.of_block (hg.block b hlt fun e => ?_)
  obtain ⟨o, ho, hc⟩ := hr b e.symm
  obtain ⟨cs, hb, _⟩ := h
  rw [hb] at ho; cases ho; cases hc
/-- Row y. -/
def rowV (a : Option Addr) (c W y : Nat) : Value := .slice (if c = y * W then a else a.map (·.add (y * W))) W (c - y * W)
theorem fin_take {H k : Nat} (hk : k < H) : (List.finRange H).take (k+1) = (List.finRange H).take k ++ [⟨k, hk⟩] := by
  rw [List.take_succ_eq_append_getElem (by simpa using hk)]
  simp
end Go.Proofs.Ytooilennejakhaa

namespace Go.Proofs.Ytooilennejakhaa
open Go.RowKit
set_option linter.unusedVariables false
set_option linter.unusedSimpArgs false
theorem own_form {w : World} {base e size n : Nat} {v : Value} {xs : List Value} (h : w.ownsRow base e size v n xs) : ∃ A c, v = .slice A n c := by
  rcases h.2 with ⟨rfl, rfl⟩ | ⟨g, cap, cur, rfl, _⟩
  · exact ⟨_, _, rfl⟩
  · exact ⟨_, _, rfl⟩
theorem ownBelow {w w' : World} {base e size n : Nat} {v : Value} {xs : List Value} (h : w.ownsRow base e size v n xs) (hb : Below w.heap.size w w') : w'.ownsRow base e size v n xs := by
  obtain ⟨h1, h2⟩ := h
  refine ⟨h1, ?_⟩
  rcases h2 with h2 | ⟨g, cap, cur, e1, e2, e3, e4⟩
  · exact .inl h2
  · refine .inr ⟨g, cap, cur, e1, e2, ?_, e4⟩
    rw [hb.block g (by
      rcases Nat.lt_or_ge g w.heap.size with hlt | hge
      · exact hlt
      · rw [Array.getElem?_eq_none hge] at e3; cases e3)]
    exact e3
def natV (l : List Nat) : List Value := l.map fun x : Nat => Value.int .i64 (x : Int)
theorem natV_snoc (l : List Nat) (x : Nat) : natV (l ++ [x]) = natV l ++ [.int .i64 (x)] := by simp [natV]
def natI (l : List Nat) : List Int := l.map fun x : Nat => (x : Int)
theorem natI_map (l : List Nat) : (natI l).map (Value.int .i64) = natV l := by simp [natI, natV]
theorem filter_snoc (k : Nat) (f : Nat → Bool) : (List.range (k+1)).filter f = (List.range k).filter f ++ (if f k then [k] else []) := by
  rw [List.range_succ, List.filter_append]
  by_cases h : f k = true <;> simp [h]
theorem IsInts.of_nats {w : World} {base : Nat} {v : Value} {L : List Nat} (h : w.ownsRow base 3 1 v L.length (natV L)) : ∃ a c, v = .slice a L.length c ∧ IsInts w a L.length (natI L) :=
  IsInts.of_owns (zs := natI L) (n := L.length) (by simp [natI]) (by rw [natI_map]; exact h)
end Go.Proofs.Ytooilennejakhaa
