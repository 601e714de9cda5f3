/- Lemmas and contracts of functions (what each call returns, and that it changes nothing that was there) that the proof of a law of this seat uses; each lemma states its own conditions. -/
import Derived.Test.YtikddfjickkhhaaCl5
import Derived.Test.YtikddfjickkhhaaCl2
namespace Go.Proofs.Ytikddfjickkhhaa
open Go.RowKit
set_option linter.unusedVariables false
set_option linter.unusedSimpArgs false
open Cl
theorem inL_take_succ {zs : List Int} {k : Nat} (hk : k < zs.length) (x : Nat) : inL (zs.take (k+1)) x = (inL (zs.take k) x || (zs.getD k 0 == (x : Int))) := by
  unfold inL
  rw [List.take_succ_eq_append_getElem hk, List.any_append]
  simp [List.getD, hk]
theorem inRg_false {n : Nat} {zs : List Int} {k : Nat} (hk : k < zs.length) (h : zs.getD k 0 < 0 ∨ (n : Int) ≤ zs.getD k 0) : inRg n zs = false := by
  unfold inRg
  rw [List.all_eq_false]
  refine ⟨zs.getD k 0, ?_, ?_⟩
  · simp [List.getD, hk]
  · rw [decide_eq_true_eq]; omega
theorem inRg_true {n : Nat} {zs : List Int} (h : ∀ j, j < zs.length → 0 ≤ zs.getD j 0 ∧ zs.getD j 0 < n) : inRg n zs = true := by
  unfold inRg
  rw [List.all_eq_true]
  intro z hz
  obtain ⟨j, hj, rfl⟩ := List.getElem_of_mem hz
  have := h j hj
  rw [List.getD_eq_getElem?_getD, List.getElem?_eq_getElem hj] at this
  simpa using this
set_option maxRecDepth 100000 in
set_option maxHeartbeats 8000000 in
theorem free_any (W H : Nat) (a : Option Addr) (n c : Nat) (bs : List Bool) (a2 : Option Addr) (n2 c2 : Nat) (zs : List Int) (w : World) (h : IsBools w a n bs) (hz : IsInts w a2 n2 zs) (h1 : W ≤ 64) (h2 : H ≤ 64) (hn : n = W * H) (hn2 : n2 ≤ 9223372036854775807) :
    Calls Try.prog 20 #[.agg #[.int .i64 (W), .int .i64 (H), .slice a n c], .slice a2 n2 c2] w fun e w' => e = .returned (.bool (freeV (W+H) (abM W H bs) zs)) ∧ Below w.heap.size w w' := by
  have HL := Lib.hid (fun (w' : World) (hC : IsBools w' a n bs) (i j : Nat) (hi : i < W+H) (hj : j < W+H) => lies_any W H a n c bs w' hC h1 h2 hn i j hi hj)
  have HC := Lib.hid h
  have HZ := Lib.hid hz
  have hNl : W + H ≤ 128 := by omega
  have hWH : (W : Int) + (H : Int) = ((W + H : Nat) : Int) := by omega
  clear h hz hn
  generalize hN : W + H = N at *
  have HN := Lib.hid hN
  generalize abM W H bs = ab at *
  clear hN
  have hmk := makeRow okBools rfl N (by omega) (by omega)
  go_enter Try.func20, Try.ntmps20
  go_wp2_with fail
  have hrow : ((w.alloc (.cells #[.int .i64 (W), .int .i64 (H), .slice a n c] 26)).alloc (.cells (madeCells #[Value.bool false] N) 4)).rowIs (w.heap.size+1) 4 N (fun x => .bool (inL (zs.take 0) x)) := by
    have h1 := (World.rowIs_made (w.alloc (.cells #[.int .i64 (W), .int .i64 (H), .slice a n c] 26)) (.bool false) N 4)
    rw [World.size_alloc] at h1
    exact h1.congr fun i hi => by simp [inL]
  have hB0 : Below w.heap.size w ((w.alloc (.cells #[.int .i64 (W), .int .i64 (H), .slice a n c] 26)).alloc (.cells (madeCells #[Value.bool false] N) 4)) := (by repeat (first | exact Below.refl _ _ | refine Below.drew ?_ | refine below_drewN ?_ _ | refine Below.alloc ?_ (by first | exact Nat.le_refl _ | (simp; done) | (simp; omega) | omega) _ | refine Below.setCell ?_ (by first | exact Nat.le_refl _ | (simp; done) | (simp; omega) | omega) _ | refine bExtW ?_ (by first | exact Nat.le_refl _ | (simp; done) | (simp; omega) | omega) | refine Below.trans ?_ (Below.mono (by assumption) (by first | exact Nat.le_refl _ | (simp; done) | (simp; omega) | omega))))
  have hm0 : ((w.alloc (.cells #[.int .i64 (W), .int .i64 (H), .slice a n c] 26)).alloc (.cells (madeCells #[Value.bool false] N) 4)).cell? ⟨w.heap.size, 0, none⟩ = some (.int .i64 (W)) := by simp [go_sem]
  have hm1 : ((w.alloc (.cells #[.int .i64 (W), .int .i64 (H), .slice a n c] 26)).alloc (.cells (madeCells #[Value.bool false] N) 4)).cell? ⟨w.heap.size, 1, none⟩ = some (.int .i64 (H)) := by simp [go_sem]
  have hm2 : ((w.alloc (.cells #[.int .i64 (W), .int .i64 (H), .slice a n c] 26)).alloc (.cells (madeCells #[Value.bool false] N) 4)).cell? ⟨w.heap.size, 2, none⟩ = some (.slice a n c) := by simp [go_sem]
  have hsz : ((w.alloc (.cells #[.int .i64 (W), .int .i64 (H), .slice a n c] 26)).alloc (.cells (madeCells #[Value.bool false] N) 4)).heap.size = w.heap.size + 1 + 1 := by simp
  generalize ((w.alloc (.cells #[.int .i64 (W), .int .i64 (H), .slice a n c] 26)).alloc (.cells (madeCells #[Value.bool false] N) 4)) = W0 at *
  obtain ⟨q, hq⟩ : ∃ q, q = w.heap.size := ⟨_, rfl⟩
  rw [← hq] at hrow hm0 hm1 hm2 hsz ⊢
  have HQ := Lib.hid hq
  obtain ⟨g, hg⟩ : ∃ g, g = q + 1 := ⟨_, rfl⟩
  rw [← hg] at hrow hsz ⊢
  have hqg : q < g := by omega
  have HG := Lib.hid hg
  have HB0 := Lib.hid hB0
  have hzl := HZ.out.1
  have HZL := Lib.hid hzl
  clear hq hg hB0 hmk hWH hzl
  go_loopw [19] (fun i wr => ∃ k : Nat, k ≤ n2 ∧ i = .int .i64 k ∧ wr.rowIs g 4 N (fun x => .bool (inL (zs.take k) x)) ∧ Below g W0 wr ∧ g < wr.heap.size ∧ Hid (∀ j, j < k → 0 ≤ zs.getD j 0 ∧ zs.getD j 0 < N)) (fun i _ => n2 - (intOf i).toNat)
  case atStart => exact ⟨0, Nat.zero_le _, rfl, hrow, Below.refl _ _, by omega, Lib.hid (by omega)⟩
  case round =>
    clear hrow hsz
    obtain ⟨k, hk, rfl, hrow, hbel, hgl, HR⟩ := hrel
    have hBw : Below w.heap.size w wr := HB0.out.trans (hbel.mono (by have := HQ.out; omega))
    have hfr := hrow.frozen
    by_cases hkn : k < n2
    · obtain ⟨b, o, rfl, hbl, hc⟩ := (HZ.out.below hBw).2 (by omega)
      have c0 := hc k hkn
      obtain ⟨z, hz⟩ : ∃ z, z = zs.getD k 0 := ⟨_, rfl⟩
      have HT := Lib.hid (inL_take_succ (zs := zs) (k := k) (by rw [HZL.out]; exact hkn))
      have HF : Hid (z < 0 ∨ (N : Int) ≤ z → freeV N ab zs = false) := Lib.hid fun h => by unfold freeV; rw [inRg_false (k := k) (by rw [HZL.out]; exact hkn) (by rw [← hz]; exact h)]; rfl
      rw [← hz] at c0 HT
      have hz' := Lib.hid hz
      have HBW := Lib.hid hBw
      have HR0 := Lib.hid hrow
      have HB := Lib.hid hbel
      clear hc hz hrow hbel hBw
      by_cases h0 : z < 0
      · have HF' := Lib.hid (HF.out (.inl h0))
        clear hfr
        go_wp2
        go_ret
        exact ⟨by rw [HF'.out]; rfl, HBW.out⟩
      · by_cases hN2 : (N : Int) ≤ z
        · have HF' := Lib.hid (HF.out (.inr hN2))
          clear hfr
          go_wp2
          go_ret
          exact ⟨by rw [HF'.out]; rfl, HBW.out⟩
        · obtain ⟨y, rfl⟩ := Int.eq_ofNat_of_zero_le (show 0 ≤ z by omega)
          have hyN : y < N := by omega
          have cy := HR0.out.cell hyN
          have fy := hfr y
          clear hfr
          have HR1 : Hid ((wr.setCell ⟨g, y, none⟩ (.bool true)).rowIs g 4 N (fun x => .bool (inL (zs.take (k+1)) x))) := Lib.hid ((HR0.out.set y (.bool true)).congr fun i hi => by
            rw [HT.out i]
            by_cases e : i = y
            · subst e; simp
            · rw [if_neg e]
              have : ((y : Int) == (i : Int)) = false := by simp; omega
              simp [this])
          have HB1 : Hid (Below g W0 (wr.setCell ⟨g, y, none⟩ (.bool true))) := Lib.hid (HB.out.setCell (by simp) _)
          have HM : Hid (∀ j, j < k + 1 → 0 ≤ zs.getD j 0 ∧ zs.getD j 0 < N) := Lib.hid (by
            intro j hj
            by_cases e : j = k
            · subst e; rw [← hz'.out]; omega
            · exact HR.out j (by omega))
          go_wp2
          go_roundw
          case rel => exact ⟨k + 1, by omega, by go_num, HR1.out, HB1.out, by rw [World.size_setCell]; exact hgl, HM⟩
          case measure => simp [intOf]; omega
    · obtain rfl : k = n2 := by omega
      have hm0 := (hbel.cell (p := ⟨q, 0, none⟩) hqg).trans hm0
      have hm1 := (hbel.cell (p := ⟨q, 1, none⟩) hqg).trans hm1
      have hm2 := (hbel.cell (p := ⟨q, 2, none⟩) hqg).trans hm2
      rw [List.take_of_length_le (by rw [HZL.out]; omega)] at hrow
      have HRg : Hid (inRg N zs = true) := Lib.hid (inRg_true (by rw [HZL.out]; exact HR.out))
      have hcell : ∀ x, x < N → wr.cell? ⟨g, x, none⟩ = some (.bool (inL zs x)) := fun x hx => hrow.cell hx
      have HCE := Lib.hid hcell
      have HBW := Lib.hid hBw
      clear hrow hbel hfr hBw HZ HR hcell
      generalize hf : inL zs = f at *
      have HF := Lib.hid hf
      clear hf
      go_wp2_with fail
      generalize wr = W1 at *
      go_loopw [37, 8] (fun i nn wr => ∃ x : Nat, x ≤ N ∧ i = .int .i64 x ∧ nn = .int .i64 (cnt x f) ∧ Below W1.heap.size W1 wr ∧ Hid (∀ a, a < x → f a = false → ∀ b, b < N → f b = true → ab a b = false)) (fun i _ _ => N - (intOf i).toNat)
      case atStart => exact ⟨0, Nat.zero_le _, rfl, rfl, Below.refl _ _, Lib.hid (by omega)⟩
      case round =>
        obtain ⟨x, hx, rfl, rfl, hbel, HM⟩ := hrel
        have hcl := cnt_le x f
        by_cases hxN : x < N
        · have c0 := bCs hbel (HCE.out x hxN)
          have HCS := Lib.hid (cnt_succ x f)
          have HB := Lib.hid hbel
          clear hbel
          generalize cnt x f = m at *
          cases hfx : f x with
          | true =>
            rw [hfx] at c0
            have HM1 : Hid (∀ a, a < x + 1 → f a = false → ∀ b, b < N → f b = true → ab a b = false) := Lib.hid (by
              intro a ha hfa
              by_cases e : a = x
              · subst e; rw [hfx] at hfa; cases hfa
              · exact HM.out a (by omega) hfa)
            have HCS2 : Hid (cnt (x+1) f = m + 1) := Lib.hid (by rw [HCS.out, hfx]; rfl)
            clear hfx
            go_wp2
            go_roundw
            case rel => exact ⟨x + 1, by omega, by go_num, by rw [HCS2.out]; go_num, HB.out, HM1⟩
            case measure => simp [intOf]; omega
          | false =>
            rw [hfx] at c0
            have HFX := Lib.hid hfx
            have HCS2 : Hid (cnt (x+1) f = m) := Lib.hid (by rw [HCS.out, hfx]; simp)
            clear hfx
            go_wp2_with fail
            go_loopw [48] (fun i wr => ∃ j : Nat, j ≤ N ∧ i = .int .i64 j ∧ Below W1.heap.size W1 wr ∧ Hid (∀ b, b < j → f b = true → ab x b = false)) (fun i _ => N - (intOf i).toNat)
            case atStart => exact ⟨0, Nat.zero_le _, rfl, HB.out, Lib.hid (by omega)⟩
            case round =>
              clear c0
              obtain ⟨j, hj, rfl, hbel, HJ⟩ := hrel
              by_cases hjN : j < N
              · have c0 := bCs hbel (HCE.out j hjN)
                have m0 := bCs hbel hm0; have m1 := bCs hbel hm1; have m2 := bCs hbel hm2
                have HBj := Lib.hid hbel
                have HCj := Lib.hid (HC.out.below (HBW.out.trans (hbel.mono HBW.out.size)))
                clear hbel
                cases hfj : f j with
                | false =>
                  rw [hfj] at c0
                  have HJ1 : Hid (∀ b, b < j + 1 → f b = true → ab x b = false) := Lib.hid (by
                    intro b hb hfb
                    by_cases e : b = j
                    · subst e; rw [hfj] at hfb; cases hfb
                    · exact HJ.out b (by omega) hfb)
                  clear hfj
                  go_wp2
                  go_roundw
                  case rel => exact ⟨j + 1, by omega, by go_num, HBj.out, HJ1⟩
                  case measure => simp [intOf]; omega
                | true =>
                  rw [hfj] at c0
                  have HFJ := Lib.hid hfj
                  clear hfj
                  cases hab : ab x j with
                  | false =>
                    have HAB := Lib.hid hab
                    have HJ1 : Hid (∀ b, b < j + 1 → f b = true → ab x b = false) := Lib.hid (by
                      intro b hb hfb
                      by_cases e : b = j
                      · subst e; exact hab
                      · exact HJ.out b (by omega) hfb)
                    clear hab
                    go_wp2_with fail
                    refine (HL.out _ HCj.out x j hxN hjN).mono ?_
                    rintro r w1 ⟨rfl, hb⟩
                    rw [HAB.out]
                    have HB2 := Lib.hid (HBj.out.trans (hb.mono HBj.out.size))
                    clear hb
                    go_wp2
                    go_roundw
                    case rel => exact ⟨j + 1, by omega, by go_num, HB2.out, HJ1⟩
                    case measure => simp [intOf]; omega
                  | true =>
                    have HAB := Lib.hid hab
                    have HV : Hid (freeV N ab zs = false) := Lib.hid (by
                      unfold freeV
                      rw [HF.out, decide_eq_false (p := closedB N ab f) (fun h => by have := h x hxN HFX.out j hjN HFJ.out; rw [hab] at this; cases this)]
                      simp)
                    clear hab
                    go_wp2_with fail
                    refine (HL.out _ HCj.out x j hxN hjN).mono ?_
                    rintro r w1 ⟨rfl, hb⟩
                    rw [HAB.out]
                    have HB2 := Lib.hid (HBj.out.trans (hb.mono HBj.out.size))
                    clear hb
                    go_wp2
                    go_ret
                    exact ⟨by rw [HV.out]; rfl, HBW.out.trans (HB2.out.mono HBW.out.size)⟩
              · obtain rfl : j = N := by omega
                have HBj := Lib.hid hbel
                have HM1 : Hid (∀ a, a < x + 1 → f a = false → ∀ b, b < j → f b = true → ab a b = false) := Lib.hid (by
                  intro a ha hfa
                  by_cases e : a = x
                  · subst e; exact HJ.out
                  · exact HM.out a (by omega) hfa)
                clear hbel
                go_wp2
                go_roundw
                case rel => exact ⟨x + 1, by omega, by go_num, by rw [HCS2.out], HBj.out, HM1⟩
                case measure => simp [intOf]; omega
        · obtain rfl : x = N := by omega
          have HB := Lib.hid hbel
          have HV : Hid (freeV x ab zs = (decide (0 < (cnt x f : Int)) && decide ((cnt x f : Int) < x))) := Lib.hid (by
            unfold freeV
            rw [HF.out, HRg.out, decide_eq_true (p := closedB x ab f) HM.out]
            simp)
          clear hbel
          generalize cnt x f = m at *
          by_cases hm : 0 < m
          · go_wp2
            go_ret
            exact ⟨by rw [HV.out]; simp [hm], HBW.out.trans (HB.out.mono HBW.out.size)⟩
          · go_wp2
            go_ret
            exact ⟨by rw [HV.out]; simp [hm], HBW.out.trans (HB.out.mono HBW.out.size)⟩
end Go.Proofs.Ytikddfjickkhhaa
