/- Lemmas and contracts of functions (what each call returns, and that it changes nothing that was there) that the proof of a law of this seat uses; each lemma states its own conditions. -/
import Derived.Test.YtkffljkgblcgdaaDr4
namespace Go.Proofs.Ytkffljkgblcgdaa
open Go.RowKit
set_option linter.unusedVariables false
set_option linter.unusedSimpArgs false
open Lo
set_option maxRecDepth 100000 in
set_option maxHeartbeats 8000000 in
theorem used_any (a : Option Addr) (n c : Nat) (L : List Int) (w : World) (hi : IsInts w a n L) (hn : n ≤ 64) :
    Calls Try.prog 19 #[.slice a n c] w fun e w' => e = .returned (.int .i64 (usedN (fun i => L.getD i 0) n)) ∧ Below w.heap.size w w' := by
  have HI := Lib.hid hi
  clear hi
  obtain ⟨f, hf⟩ : ∃ f, (fun i => L.getD i 0) = f := ⟨_, rfl⟩
  have HF : Hid (∀ i, L.getD i 0 = f i) := Lib.hid fun i => by rw [← hf]
  rw [hf]
  clear hf
  go_enter Try.func19, Try.ntmps19
  go_wp2_with fail
  go_loopw [9, 3] (fun i m wr => ∃ k : Nat, k ≤ n ∧ i = .int .i64 k ∧ m = .int .i64 (usedN f k) ∧ Below w.heap.size w wr) (fun i _ _ => n - (intOf i).toNat)
  case atStart => exact ⟨0, Nat.zero_le _, rfl, rfl, Below.refl _ _⟩
  case round =>
    obtain ⟨k, hk, rfl, rfl, hbel⟩ := hrel
    have hub := usedN_bd f k
    have HU : Hid (usedN f (k+1) = usedN f k + (if ∀ j, j < k → f j ≠ f k then 1 else 0)) := Lib.hid rfl
    have HB := Lib.hid hbel
    clear hbel
    generalize hu : usedN f k = u at *
    have HUE := Lib.hid hu
    clear hu
    by_cases hkn : k < n
    · go_wp2_with fail
      obtain ⟨wo, hwo⟩ : ∃ wo : World, wo = wr := ⟨_, rfl⟩
      subst hwo
      go_loopw [6, 5] (fun j fi wr => ∃ (jj : Nat) (b : Bool), jj ≤ k ∧ j = .int .i64 jj ∧ fi = .bool b ∧ Hid (b = true ↔ ∀ i, i < jj → f i ≠ f k) ∧ Below w.heap.size w wr) (fun j _ _ => k - (intOf j).toNat)
      case atStart => exact ⟨0, true, Nat.zero_le _, rfl, rfl, Lib.hid ⟨fun _ i hi => absurd hi (by omega), fun _ => rfl⟩, HB.out⟩
      case round =>
        obtain ⟨jj, b, hj, rfl, rfl, hb, hbel⟩ := hrel
        have HB2 := Lib.hid hbel
        obtain ⟨q, o, rfl, hq, hc⟩ := (HI.out.below hbel).2 (by omega)
        clear hbel HB
        by_cases hjk : jj < k
        · have hjn : jj < n := by omega
          have c1 := hc jj (by omega)
          have c2 := hc k hkn
          rw [HF.out] at c1 c2
          have lb : LtW q wr := hq
          clear hc hq
          obtain ⟨x, hx⟩ : ∃ x, f jj = x := ⟨_, rfl⟩
          obtain ⟨y, hy⟩ : ∃ y, f k = y := ⟨_, rfl⟩
          rw [hx] at c1
          rw [hy] at c2
          have HX := Lib.hid hx; have HY := Lib.hid hy
          clear hx hy
          cases b with
          | true =>
            by_cases hxy : x = y
            · subst hxy
              have hd : (x != x) = false := by simp
              go_wp2_with fail
              (refine wp_region_ext (by kernel_rfl) (by kernel_rfl) ?_; (repeat (first | ((with_reducible refine ext_step (fun K hK => ?_)); go_simp; first | (refine hK _ ?_; clear hK K) | (apply Exists.intro; refine ⟨fun _ _ => ?_, hK _ ?_⟩; fail; clear hK K)))); refine wpQuiet_nil ?_; intro E d)
              go_wp2
              go_roundw
              case rel => exact ⟨jj + 1, false, by omega, by go_num, by first | rfl | trivial, Lib.hid ⟨fun h => by simp at h, fun h => absurd (HX.out.trans HY.out.symm) (h jj (by omega))⟩, bExtW HB2.out HB2.out.size⟩
              case measure => simp [intOf]; omega
            · have hd : (x != y) = true := by simpa using hxy
              have HXY := Lib.hid hxy
              clear hxy
              go_wp2_with fail
              (refine wp_region_ext (by kernel_rfl) (by kernel_rfl) ?_; (repeat (first | ((with_reducible refine ext_step (fun K hK => ?_)); go_simp; first | (refine hK _ ?_; clear hK K) | (apply Exists.intro; refine ⟨fun _ _ => ?_, hK _ ?_⟩; fail; clear hK K)))); refine wpQuiet_nil ?_; intro E d)
              go_wp2
              go_roundw
              case rel => exact ⟨jj + 1, true, by omega, by go_num, by first | rfl | trivial, Lib.hid ⟨fun _ i hi => by
                by_cases e : i = jj
                · rw [e, HX.out, HY.out]; exact HXY.out
                · exact hb.out.1 (by first | trivial | rfl) i (by omega), fun _ => rfl⟩, bExtW HB2.out HB2.out.size⟩
              case measure => simp [intOf]; omega
          | false =>
            go_wp2_with fail
            (refine wp_region_ext (by kernel_rfl) (by kernel_rfl) ?_; (repeat (first | ((with_reducible refine ext_step (fun K hK => ?_)); go_simp; first | (refine hK _ ?_; clear hK K) | (apply Exists.intro; refine ⟨fun _ _ => ?_, hK _ ?_⟩; fail; clear hK K)))); refine wpQuiet_nil ?_; intro E d)
            go_wp2
            go_roundw
            case rel => exact ⟨jj + 1, false, by omega, by go_num, by first | rfl | trivial, Lib.hid ⟨fun h => by simp at h, fun h => hb.out.2 fun i hi => h i (Nat.lt_succ_of_lt hi)⟩, bExtW HB2.out HB2.out.size⟩
            case measure => simp [intOf]; omega
        · obtain rfl : jj = k := by omega
          clear hc hq
          cases b with
          | true =>
            have HU2 := Lib.hid (HU.out.trans (by rw [if_pos (hb.out.1 rfl)]))
            go_wp2
            go_roundw
            case rel => exact ⟨jj + 1, by omega, by go_num, by rw [HU2.out]; go_num, HB2.out⟩
            case measure => simp [intOf]; omega
          | false =>
            have HU2 := Lib.hid (HU.out.trans (by rw [if_neg (fun h => by have := hb.out.2 h; simp at this)]))
            go_wp2
            go_roundw
            case rel => exact ⟨jj + 1, by omega, by go_num, by rw [HU2.out]; rfl, HB2.out⟩
            case measure => simp [intOf]; omega
    · obtain rfl : n = k := by omega
      go_wp2
      go_ret
      exact ⟨by rw [HUE.out]; rfl, HB.out⟩
set_option maxRecDepth 100000 in
set_option maxHeartbeats 8000000 in
theorem alive6_any (w : World) :
    Calls Try.prog 15 #[] w fun r w' => r = .returned (.bool true) ∧ Below w.heap.size w w' := by
  have HL1 : Hid ((ends 2 1 [true, true]).length = 1) := Lib.hid (by decide +kernel)
  have HL2 : Hid ((picks 2 1 [true, true]).length = 1) := Lib.hid (by decide +kernel)
  go_enter Try.func15, Try.ntmps15
  go_wp2_with fail
  refine (dFew_ok 2 1 2 (some ⟨w.heap.size, 0, none⟩) 2 [true, true] _ ⟨⟨rfl, fun _ => ⟨w.heap.size, 0, rfl, by simp, ?_⟩⟩, by omega, by omega⟩ (by omega) (by omega) rfl (by omega)).mono ?_
  · intro j hj
    have hj2 : j = 0 ∨ j = 1 := by omega
    rcases hj2 with rfl | rfl <;> simp
  rintro r w1 ⟨A1, c1, A2, c2, A5, c5, rfl, _, _, _, hb, _⟩
  rw [HL1.out, HL2.out]
  obtain ⟨E, d, rfl⟩ := bExt hb
  clear hb
  go_wp2
  go_ret
  exact ⟨rfl, (by repeat (first | exact Below.refl _ _ | refine Below.drew ?_ | refine below_drewN ?_ _ | refine Below.alloc ?_ (by first | exact Nat.le_refl _ | (simp; done) | (simp; omega) | omega) _ | refine Below.setCell ?_ (by first | exact Nat.le_refl _ | (simp; done) | (simp; omega) | omega) _ | refine bExtW ?_ (by first | exact Nat.le_refl _ | (simp; done) | (simp; omega) | omega) | refine Below.trans ?_ (Below.mono (by assumption) (by first | exact Nat.le_refl _ | (simp; done) | (simp; omega) | omega))))⟩
end Go.Proofs.Ytkffljkgblcgdaa
