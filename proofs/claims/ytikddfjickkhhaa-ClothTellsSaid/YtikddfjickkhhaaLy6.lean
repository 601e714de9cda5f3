/- Lemmas and contracts of functions (what each call returns, and that it changes nothing that was there) that the proof of a law of this seat uses; each lemma states its own conditions. -/
import Derived.Test.YtikddfjickkhhaaLy5
import Derived.Test.YtikddfjickkhhaaSm
import Derived.Test.YtikddfjickkhhaaCl4
namespace Go.Proofs.Ytikddfjickkhhaa
open Go.RowKit
set_option linter.unusedVariables false
set_option linter.unusedSimpArgs false
open Cl
theorem lists_ext {L M : List (List Int)} {n : Nat} (h1 : L.length = n) (h2 : M.length = n) (h : ∀ j, j < n → L.getD j [] = M.getD j []) : L = M := by
  apply List.ext_getElem (by omega)
  intro i hi hj
  have := h i (by omega)
  rwa [List.getD_eq_getElem?_getD, List.getD_eq_getElem?_getD, List.getElem?_eq_getElem hi, List.getElem?_eq_getElem hj] at this
set_option maxRecDepth 100000 in
set_option maxHeartbeats 8000000 in
theorem SameLists_any (a1 : Option Addr) (n1 c1 : Nat) (L1 : List (List Int)) (a2 : Option Addr) (n2 c2 : Nat) (L2 : List (List Int)) (w : World) (hi : IsLists w a1 n1 L1) (hj : IsLists w a2 n2 L2) (m1 : n1 ≤ 9223372036854775807) (m2 : n2 ≤ 9223372036854775807) (hl1 : ∀ j, (L1.getD j []).length ≤ 9223372036854775807) (hl2 : ∀ j, (L2.getD j []).length ≤ 9223372036854775807) :
    Calls Try.prog 29 #[.slice a1 n1 c1, .slice a2 n2 c2] w fun e w' => e = .returned (.bool (decide (L1 = L2))) ∧ Below w.heap.size w w' := by
  have e1 := hi.1
  have e2 := hj.1
  by_cases hnn : n1 = n2
  · subst hnn
    have HE := Lib.hid (fun h => lists_ext e1 e2 h)
    have HI := Lib.hid hi; have HJ := Lib.hid hj; have HL1 := Lib.hid hl1; have HL2 := Lib.hid hl2
    have hnn2 : ((n1 : Int) != (n1 : Int)) = false := by simp
    have hnn3 : (n1 != n1) = false := by simp
    clear hi hj e1 e2 hl1 hl2
    go_enter Try.func29, Try.ntmps29
    go_wp2_with fail
    go_loopw [13] (fun i wr => ∃ k : Nat, k ≤ n1 ∧ i = .int .i64 k ∧ Hid (∀ j, j < k → L1.getD j [] = L2.getD j []) ∧ Below w.heap.size w wr) (fun i _ => n1 - (intOf i).toNat)
    case atStart => exact ⟨0, Nat.zero_le _, rfl, Lib.hid (by omega), Below.refl _ _⟩
    case round =>
      obtain ⟨k, hk, rfl, HK, hbel⟩ := hrel
      by_cases hkn : k < n1
      · obtain ⟨b1, o1, rfl, l1, q1⟩ := (HI.out.below hbel).2 (by omega)
        obtain ⟨b2, o2, rfl, l2, q2⟩ := (HJ.out.below hbel).2 (by omega)
        obtain ⟨A1, cc1, e1, I1⟩ := q1 k hkn
        obtain ⟨A2, cc2, e2, I2⟩ := q2 k hkn
        have lb1 : LtW b1 wr := l1
        have lb2 : LtW b2 wr := l2
        have HS := Lib.hid (fun wq h1 h2 => SameNumbers_any A1 (L1.getD k []).length cc1 (L1.getD k []) A2 (L2.getD k []).length cc2 (L2.getD k []) wq h1 h2 (HL1.out k) (HL2.out k))
        have HI1 := Lib.hid I1; have HI2 := Lib.hid I2
        have HB := Lib.hid hbel
        have i0 : (0 : Int) ≤ (k : Int) := by omega
        have i1 : (k : Int) < (n1 : Int) := by omega
        have hsz := hbel.size
        clear q1 q2 I1 I2 hbel l1 l2
        by_cases he : L1.getD k [] = L2.getD k []
        · rw [decide_eq_true he] at HS
          have HK2 : Hid (∀ j, j < k + 1 → L1.getD j [] = L2.getD j []) := Lib.hid fun j hj => by
            by_cases e : j = k
            · subst e; exact he
            · exact HK.out j (by omega)
          clear he
          generalize (L1.getD k []).length = x1 at *
          generalize (L2.getD k []).length = x2 at *
          go_wp2_with fail
          (refine wp_region_ext (by kernel_rfl) (by kernel_rfl) ?_; (repeat (first | ((with_reducible refine ext_step (fun K hK => ?_)); go_simp; first | (refine hK _ ?_; clear hK K) | (apply Exists.intro; refine ⟨fun _ _ => ?_, hK _ ?_⟩; (go_at_call 26; exact extOf (HS.out _ (HI1.out.below (by repeat (first | exact Below.refl _ _ | refine Below.drew ?_ | refine below_drewN ?_ _ | refine Below.alloc ?_ (by first | exact Nat.le_refl _ | (simp; done) | (simp; omega) | omega) _ | refine Below.setCell ?_ (by first | exact Nat.le_refl _ | (simp; done) | (simp; omega) | omega) _ | refine bExtW ?_ (by first | exact Nat.le_refl _ | (simp; done) | (simp; omega) | omega) | refine Below.trans ?_ (Below.mono (by assumption) (by first | exact Nat.le_refl _ | (simp; done) | (simp; omega) | omega))))) (HI2.out.below (by repeat (first | exact Below.refl _ _ | refine Below.drew ?_ | refine below_drewN ?_ _ | refine Below.alloc ?_ (by first | exact Nat.le_refl _ | (simp; done) | (simp; omega) | omega) _ | refine Below.setCell ?_ (by first | exact Nat.le_refl _ | (simp; done) | (simp; omega) | omega) _ | refine bExtW ?_ (by first | exact Nat.le_refl _ | (simp; done) | (simp; omega) | omega) | refine Below.trans ?_ (Below.mono (by assumption) (by first | exact Nat.le_refl _ | (simp; done) | (simp; omega) | omega))))))); clear hK K)))); refine wpQuiet_nil ?_; intro E d)
          go_wp2
          go_roundw
          case rel => exact ⟨k + 1, by omega, by go_num, HK2, bExtW HB.out hsz⟩
          case measure => simp [intOf]; omega
        · rw [decide_eq_false he] at HS
          have HN : Hid (¬ L1 = L2) := Lib.hid (fun h => he (by rw [h]))
          clear he
          generalize (L1.getD k []).length = x1 at *
          generalize (L2.getD k []).length = x2 at *
          go_wp2_with fail
          (refine wp_region_ext (by kernel_rfl) (by kernel_rfl) ?_; (repeat (first | ((with_reducible refine ext_step (fun K hK => ?_)); go_simp; first | (refine hK _ ?_; clear hK K) | (apply Exists.intro; refine ⟨fun _ _ => ?_, hK _ ?_⟩; (go_at_call 26; exact extOf (HS.out _ (HI1.out.below (by repeat (first | exact Below.refl _ _ | refine Below.drew ?_ | refine below_drewN ?_ _ | refine Below.alloc ?_ (by first | exact Nat.le_refl _ | (simp; done) | (simp; omega) | omega) _ | refine Below.setCell ?_ (by first | exact Nat.le_refl _ | (simp; done) | (simp; omega) | omega) _ | refine bExtW ?_ (by first | exact Nat.le_refl _ | (simp; done) | (simp; omega) | omega) | refine Below.trans ?_ (Below.mono (by assumption) (by first | exact Nat.le_refl _ | (simp; done) | (simp; omega) | omega))))) (HI2.out.below (by repeat (first | exact Below.refl _ _ | refine Below.drew ?_ | refine below_drewN ?_ _ | refine Below.alloc ?_ (by first | exact Nat.le_refl _ | (simp; done) | (simp; omega) | omega) _ | refine Below.setCell ?_ (by first | exact Nat.le_refl _ | (simp; done) | (simp; omega) | omega) _ | refine bExtW ?_ (by first | exact Nat.le_refl _ | (simp; done) | (simp; omega) | omega) | refine Below.trans ?_ (Below.mono (by assumption) (by first | exact Nat.le_refl _ | (simp; done) | (simp; omega) | omega))))))); clear hK K)))); refine wpQuiet_nil ?_; intro E d)
          go_wp2
          go_ret
          exact ⟨by rw [decide_eq_false HN.out]; rfl, bExtW HB.out (by have := HB.out.size; omega)⟩
      · obtain rfl : n1 = k := by omega
        have HQ := Lib.hid (HE.out HK.out)
        have HB := Lib.hid hbel
        clear hbel
        go_wp2
        go_ret
        exact ⟨by rw [decide_eq_true HQ.out]; rfl, HB.out⟩
  · have HN : Hid (¬ L1 = L2) := Lib.hid (fun h => hnn (by rw [← e1, ← e2, h]))
    have hnn2 : ((n1 : Int) != (n2 : Int)) = true := by simp; omega
    have hnn3 : (n1 != n2) = true := by simp [hnn]
    clear hi hj e1 e2 hl1 hl2 hnn
    go_enter Try.func29, Try.ntmps29
    go_wp2
    go_ret
    exact ⟨by rw [decide_eq_false HN.out]; rfl, (by repeat (first | exact Below.refl _ _ | refine Below.drew ?_ | refine below_drewN ?_ _ | refine Below.alloc ?_ (by first | exact Nat.le_refl _ | (simp; done) | (simp; omega) | omega) _ | refine Below.setCell ?_ (by first | exact Nat.le_refl _ | (simp; done) | (simp; omega) | omega) _ | refine bExtW ?_ (by first | exact Nat.le_refl _ | (simp; done) | (simp; omega) | omega) | refine Below.trans ?_ (Below.mono (by assumption) (by first | exact Nat.le_refl _ | (simp; done) | (simp; omega) | omega))))⟩
theorem lift_len (n : Nat) (ab : Nat → Nat → Bool) : (lift n ab).length ≤ n := by
  rcases lift_cases n ab with ⟨h, _⟩ | ⟨s, _, _, h⟩
  · rw [h]; simp
  · rw [h]; have := cnt_le n (fun a => wp ab n a s); unfold cnt at this; omega
theorem layers_len (n : Nat) (ab : Nat → Nat → Bool) : (layers n ab).length ≤ n := by
  unfold layers
  rw [List.length_map, heads_len]
  exact cnt_le _ _
theorem layers_lens (n : Nat) (ab : Nat → Nat → Bool) (j : Nat) : ((natLL (layers n ab)).getD j []).length ≤ n := by
  rw [natLL_get]
  unfold natI
  rw [List.length_map, List.getD_eq_getElem?_getD]
  rcases Nat.lt_or_ge j (layers n ab).length with h | h
  · rw [List.getElem?_eq_getElem h, Option.getD_some]
    obtain ⟨x, _, hx⟩ := List.mem_map.1 (show (layers n ab)[j] ∈ (heads n ab).map (sheet n ab) from List.getElem_mem h)
    rw [← hx]
    exact cnt_le n _
  · rw [List.getElem?_eq_none h]; simp
set_option maxRecDepth 100000 in
set_option maxHeartbeats 8000000 in
theorem ctells_walk (W H : Int) (a : Option Addr) (n c : Nat) (bs : List Bool) (w : World) (hi : IsBools w a n bs) (h1 : (-9223372036854775808 ≤ W ∧ W ≤ 9223372036854775807)) (h2 : (-9223372036854775808 ≤ H ∧ H ≤ 9223372036854775807)) (h3 : n ≤ 9223372036854775807) :
    Calls Try.prog 6 #[.agg #[.int .i64 (W), .int .i64 (H), .slice a n c]] w fun e w' => e = .returned (.bool true) ∧ Below w.heap.size w w' := by
  have HI := Lib.hid hi
  by_cases he : wrC W H n = 0
  · obtain ⟨hq, hn0⟩ := wrC_zero he
    obtain ⟨W, H, rfl, rfl, hW, hH, hn⟩ := wrT_zero hq
    have HLi := Lib.hid (fun w (hi : IsBools w a n bs) => Lift_ok W H a n c bs w hi hW hH hn he)
    have HrL := Lib.hid (fun w (hi : IsBools w a n bs) => rLift_ok W H a n c bs w hi hW hH hn he)
    have HHa := Lib.hid (fun w (hi : IsBools w a n bs) => Hangs_ok W H a n c bs w hi hW hH hn he)
    have HLa := Lib.hid (fun w (hi : IsBools w a n bs) => Layers_ok W H a n c bs w hi hW hH hn he)
    have HrA := Lib.hid (fun w (hi : IsBools w a n bs) => rLayers_ok W H a n c bs w hi hW hH hn he)
    have l1 := lift_len (W+H) (abM W H bs)
    have l2 := layers_len (W+H) (abM W H bs)
    have l3 := Lib.hid (layers_lens (W+H) (abM W H bs))
    have hWH : W + H ≤ 128 := by omega
    clear hi he hq hn hn0 h1 h2 h3
    generalize lift (W+H) (abM W H bs) = L at *
    generalize layers (W+H) (abM W H bs) = LY at *
    generalize W + H = N at *
    go_enter Try.func6, Try.ntmps6
    go_wp2_with fail
    refine (HLi.out _ (HI.out.below (by repeat (first | exact Below.refl _ _ | refine Below.drew ?_ | refine below_drewN ?_ _ | refine Below.alloc ?_ (by first | exact Nat.le_refl _ | (simp; done) | (simp; omega) | omega) _ | refine Below.setCell ?_ (by first | exact Nat.le_refl _ | (simp; done) | (simp; omega) | omega) _ | refine bExtW ?_ (by first | exact Nat.le_refl _ | (simp; done) | (simp; omega) | omega) | refine Below.trans ?_ (Below.mono (by assumption) (by first | exact Nat.le_refl _ | (simp; done) | (simp; omega) | omega)))))).mono ?_
    rintro r w1 ⟨A1, c1, rfl, hL1, hb⟩
    obtain ⟨E, d, rfl⟩ := bExt hb
    have HL1 := Lib.hid hL1
    clear hb hL1
    go_wp2_with fail
    refine (HrL.out _ (HI.out.below (by repeat (first | exact Below.refl _ _ | refine Below.drew ?_ | refine below_drewN ?_ _ | refine Below.alloc ?_ (by first | exact Nat.le_refl _ | (simp; done) | (simp; omega) | omega) _ | refine Below.setCell ?_ (by first | exact Nat.le_refl _ | (simp; done) | (simp; omega) | omega) _ | refine bExtW ?_ (by first | exact Nat.le_refl _ | (simp; done) | (simp; omega) | omega) | refine Below.trans ?_ (Below.mono (by assumption) (by first | exact Nat.le_refl _ | (simp; done) | (simp; omega) | omega)))))).mono ?_
    rintro r w1 ⟨A2, c2, rfl, hL2, hb⟩
    obtain ⟨E2, d2, rfl⟩ := bExt hb
    have HL2 := Lib.hid hL2
    clear hb hL2
    go_wp2_with fail
    refine (SameNumbers_any A1 L.length c1 (natI L) A2 L.length c2 (natI L) _ (HL1.out.below (by repeat (first | exact Below.refl _ _ | refine Below.drew ?_ | refine below_drewN ?_ _ | refine Below.alloc ?_ (by first | exact Nat.le_refl _ | (simp; done) | (simp; omega) | omega) _ | refine Below.setCell ?_ (by first | exact Nat.le_refl _ | (simp; done) | (simp; omega) | omega) _ | refine bExtW ?_ (by first | exact Nat.le_refl _ | (simp; done) | (simp; omega) | omega) | refine Below.trans ?_ (Below.mono (by assumption) (by first | exact Nat.le_refl _ | (simp; done) | (simp; omega) | omega))))) (HL2.out.below (by repeat (first | exact Below.refl _ _ | refine Below.drew ?_ | refine below_drewN ?_ _ | refine Below.alloc ?_ (by first | exact Nat.le_refl _ | (simp; done) | (simp; omega) | omega) _ | refine Below.setCell ?_ (by first | exact Nat.le_refl _ | (simp; done) | (simp; omega) | omega) _ | refine bExtW ?_ (by first | exact Nat.le_refl _ | (simp; done) | (simp; omega) | omega) | refine Below.trans ?_ (Below.mono (by assumption) (by first | exact Nat.le_refl _ | (simp; done) | (simp; omega) | omega))))) (by omega) (by omega)).mono ?_
    rw [decide_eq_true (p := natI L = natI L) rfl]
    rintro r w1 ⟨rfl, hb⟩
    obtain ⟨E3, d3, rfl⟩ := bExt hb
    clear hb
    go_wp2_with fail
    refine (HHa.out _ (HI.out.below (by repeat (first | exact Below.refl _ _ | refine Below.drew ?_ | refine below_drewN ?_ _ | refine Below.alloc ?_ (by first | exact Nat.le_refl _ | (simp; done) | (simp; omega) | omega) _ | refine Below.setCell ?_ (by first | exact Nat.le_refl _ | (simp; done) | (simp; omega) | omega) _ | refine bExtW ?_ (by first | exact Nat.le_refl _ | (simp; done) | (simp; omega) | omega) | refine Below.trans ?_ (Below.mono (by assumption) (by first | exact Nat.le_refl _ | (simp; done) | (simp; omega) | omega)))))).mono ?_
    rintro r w1 ⟨rfl, hb⟩
    obtain ⟨E4, d4, rfl⟩ := bExt hb
    clear hb
    obtain ⟨bb, hbb⟩ : ∃ b, (((L.length : Nat) : Int) == 0) = b := ⟨_, rfl⟩
    have hbb2 : (L.length == 0) = bb := by rw [← hbb, Bool.eq_iff_iff]; simp
    clear hbb hbb2
    go_wp2_with fail
    refine (HLa.out _ (HI.out.below (by repeat (first | exact Below.refl _ _ | refine Below.drew ?_ | refine below_drewN ?_ _ | refine Below.alloc ?_ (by first | exact Nat.le_refl _ | (simp; done) | (simp; omega) | omega) _ | refine Below.setCell ?_ (by first | exact Nat.le_refl _ | (simp; done) | (simp; omega) | omega) _ | refine bExtW ?_ (by first | exact Nat.le_refl _ | (simp; done) | (simp; omega) | omega) | refine Below.trans ?_ (Below.mono (by assumption) (by first | exact Nat.le_refl _ | (simp; done) | (simp; omega) | omega)))))).mono ?_
    rintro r w1 ⟨A5, c5, rfl, hL5, hb⟩
    obtain ⟨E5, d5, rfl⟩ := bExt hb
    have HL5 := Lib.hid hL5
    clear hb hL5
    go_wp2_with fail
    refine (HrA.out _ (HI.out.below (by repeat (first | exact Below.refl _ _ | refine Below.drew ?_ | refine below_drewN ?_ _ | refine Below.alloc ?_ (by first | exact Nat.le_refl _ | (simp; done) | (simp; omega) | omega) _ | refine Below.setCell ?_ (by first | exact Nat.le_refl _ | (simp; done) | (simp; omega) | omega) _ | refine bExtW ?_ (by first | exact Nat.le_refl _ | (simp; done) | (simp; omega) | omega) | refine Below.trans ?_ (Below.mono (by assumption) (by first | exact Nat.le_refl _ | (simp; done) | (simp; omega) | omega)))))).mono ?_
    rintro r w1 ⟨A6, c6, rfl, hL6, hb⟩
    obtain ⟨E6, d6, rfl⟩ := bExt hb
    have HL6 := Lib.hid hL6
    clear hb hL6
    go_wp2_with fail
    refine (SameLists_any A5 LY.length c5 (natLL LY) A6 LY.length c6 (natLL LY) _ (HL5.out.below (by repeat (first | exact Below.refl _ _ | refine Below.drew ?_ | refine below_drewN ?_ _ | refine Below.alloc ?_ (by first | exact Nat.le_refl _ | (simp; done) | (simp; omega) | omega) _ | refine Below.setCell ?_ (by first | exact Nat.le_refl _ | (simp; done) | (simp; omega) | omega) _ | refine bExtW ?_ (by first | exact Nat.le_refl _ | (simp; done) | (simp; omega) | omega) | refine Below.trans ?_ (Below.mono (by assumption) (by first | exact Nat.le_refl _ | (simp; done) | (simp; omega) | omega))))) (HL6.out.below (by repeat (first | exact Below.refl _ _ | refine Below.drew ?_ | refine below_drewN ?_ _ | refine Below.alloc ?_ (by first | exact Nat.le_refl _ | (simp; done) | (simp; omega) | omega) _ | refine Below.setCell ?_ (by first | exact Nat.le_refl _ | (simp; done) | (simp; omega) | omega) _ | refine bExtW ?_ (by first | exact Nat.le_refl _ | (simp; done) | (simp; omega) | omega) | refine Below.trans ?_ (Below.mono (by assumption) (by first | exact Nat.le_refl _ | (simp; done) | (simp; omega) | omega))))) (by omega) (by omega) (fun j => by have := l3.out j; omega) (fun j => by have := l3.out j; omega)).mono ?_
    rw [decide_eq_true (p := natLL LY = natLL LY) rfl]
    rintro r w1 ⟨rfl, hb⟩
    obtain ⟨E7, d7, rfl⟩ := bExt hb
    clear hb
    go_wp2
    go_ret
    exact ⟨rfl, (by repeat (first | exact Below.refl _ _ | refine Below.drew ?_ | refine below_drewN ?_ _ | refine Below.alloc ?_ (by first | exact Nat.le_refl _ | (simp; done) | (simp; omega) | omega) _ | refine Below.setCell ?_ (by first | exact Nat.le_refl _ | (simp; done) | (simp; omega) | omega) _ | refine bExtW ?_ (by first | exact Nat.le_refl _ | (simp; done) | (simp; omega) | omega) | refine Below.trans ?_ (Below.mono (by assumption) (by first | exact Nat.le_refl _ | (simp; done) | (simp; omega) | omega))))⟩
  · have HLi := Lib.hid (fun w => Lift_bad W H a n c w h1 h2 h3 he)
    have HrL := Lib.hid (fun w => rLift_bad W H a n c w h1 h2 h3 he)
    have HHa := Lib.hid (fun w => Hangs_bad W H a n c w h1 h2 h3 he)
    have HLa := Lib.hid (fun w => Layers_bad W H a n c w h1 h2 h3 he)
    have HrA := Lib.hid (fun w => rLayers_bad W H a n c w h1 h2 h3 he)
    have hne : (wrC W H n == 0) = false := by simpa using he
    have hne2 : (wrC W H n != wrC W H n) = false := by simp
    have hne3 : (wrC W H n == wrC W H n) = true := by simp
    clear hi he
    generalize wrC W H n = q at *
    have IZ : ∀ w, IsInts w none 0 [] := fun w => ⟨rfl, fun h => absurd h (by omega)⟩
    have LZ : ∀ w, IsLists w none 0 [] := fun w => ⟨rfl, fun h => absurd h (by omega)⟩
    have HIZ := Lib.hid IZ; have HLZ := Lib.hid LZ
    clear IZ LZ
    go_enter Try.func6, Try.ntmps6
    (go_wp2_with fail; refine (HLi.out _).mono ?_; rintro r w1 ⟨rfl, hb⟩; obtain ⟨E, d, rfl⟩ := bExt hb; clear hb)
    (go_wp2_with fail; refine (HrL.out _).mono ?_; rintro r w1 ⟨rfl, hb⟩; obtain ⟨E, d, rfl⟩ := bExt hb; clear hb)
    go_wp2_with fail
    refine (SameNumbers_any none 0 0 [] none 0 0 [] _ (HIZ.out _) (HIZ.out _) (by omega) (by omega)).mono ?_
    rw [decide_eq_true (p := ([] : List Int) = []) rfl]
    rintro r w1 ⟨rfl, hb⟩
    obtain ⟨E3, d3, rfl⟩ := bExt hb
    clear hb
    (go_wp2_with fail; refine (HHa.out _).mono ?_; rintro r w1 ⟨rfl, hb⟩; obtain ⟨E, d, rfl⟩ := bExt hb; clear hb)
    (go_wp2_with fail; refine (HLa.out _).mono ?_; rintro r w1 ⟨rfl, hb⟩; obtain ⟨E, d, rfl⟩ := bExt hb; clear hb)
    (go_wp2_with fail; refine (HrA.out _).mono ?_; rintro r w1 ⟨rfl, hb⟩; obtain ⟨E, d, rfl⟩ := bExt hb; clear hb)
    go_wp2_with fail
    refine (SameLists_any none 0 0 [] none 0 0 [] _ (HLZ.out _) (HLZ.out _) (by omega) (by omega) (fun j => by simp) (fun j => by simp)).mono ?_
    rw [decide_eq_true (p := ([] : List (List Int)) = []) rfl]
    rintro r w1 ⟨rfl, hb⟩
    obtain ⟨E7, d7, rfl⟩ := bExt hb
    clear hb
    go_wp2
    go_ret
    exact ⟨rfl, (by repeat (first | exact Below.refl _ _ | refine Below.drew ?_ | refine below_drewN ?_ _ | refine Below.alloc ?_ (by first | exact Nat.le_refl _ | (simp; done) | (simp; omega) | omega) _ | refine Below.setCell ?_ (by first | exact Nat.le_refl _ | (simp; done) | (simp; omega) | omega) _ | refine bExtW ?_ (by first | exact Nat.le_refl _ | (simp; done) | (simp; omega) | omega) | refine Below.trans ?_ (Below.mono (by assumption) (by first | exact Nat.le_refl _ | (simp; done) | (simp; omega) | omega))))⟩
end Go.Proofs.Ytikddfjickkhhaa
