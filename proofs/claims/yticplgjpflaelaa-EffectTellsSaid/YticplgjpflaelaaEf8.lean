/- Lemmas and contracts of functions (what each call returns, and that it changes nothing that was there) that the proof of a law of this seat uses; each lemma states its own conditions. -/
import Derived.Test.YticplgjpflaelaaEf7
namespace Go.Proofs.Yticplgjpflaelaa
open Go.RowKit
set_option linter.unusedVariables false
set_option linter.unusedSimpArgs false
open Ef
set_option maxRecDepth 100000 in
set_option maxHeartbeats 8000000 in
theorem sameC_self (G W H : Int) (n : Nat) (a1 : Option Addr) (c1 : Nat) (a2 : Option Addr) (c2 : Nat) (l : List Int) (w : World) (h1 : IsInts w a1 n l) (h2 : IsInts w a2 n l) (hn : n ≤ 9223372036854775807) :
    Calls Try.prog 32 #[.agg #[.int .i64 (G), .int .i64 (W), .int .i64 (H), .slice a1 n c1], .agg #[.int .i64 (G), .int .i64 (W), .int .i64 (H), .slice a2 n c2]] w fun e w' => e = .returned (.bool true) ∧ Below w.heap.size w w' := by
  have b1 : (G != G) = false := by simp
  have b2 : (W != W) = false := by simp
  have b3 : (H != H) = false := by simp
  have b4 : ((n : Int) != (n : Int)) = false := by simp
  have HI := Lib.hid (h1.below (w' := ((w.alloc (.cells #[.int .i64 (G), .int .i64 (W), .int .i64 (H), .slice a1 n c1] 50)).alloc (.cells #[.int .i64 (G), .int .i64 (W), .int .i64 (H), .slice a2 n c2] 50))) (by repeat (first | exact Below.refl _ _ | refine Below.drew ?_ | refine below_drewN ?_ _ | refine Below.alloc ?_ (by first | exact Nat.le_refl _ | (simp; done) | (simp; omega) | omega) _ | refine Below.setCell ?_ (by first | exact Nat.le_refl _ | (simp; done) | (simp; omega) | omega) _ | refine bExtW ?_ (by first | exact Nat.le_refl _ | (simp; done) | (simp; omega) | omega) | refine Below.trans ?_ (Below.mono (by assumption) (by first | exact Nat.le_refl _ | (simp; done) | (simp; omega) | omega)))))
  have HJ := Lib.hid (h2.below (w' := ((w.alloc (.cells #[.int .i64 (G), .int .i64 (W), .int .i64 (H), .slice a1 n c1] 50)).alloc (.cells #[.int .i64 (G), .int .i64 (W), .int .i64 (H), .slice a2 n c2] 50))) (by repeat (first | exact Below.refl _ _ | refine Below.drew ?_ | refine below_drewN ?_ _ | refine Below.alloc ?_ (by first | exact Nat.le_refl _ | (simp; done) | (simp; omega) | omega) _ | refine Below.setCell ?_ (by first | exact Nat.le_refl _ | (simp; done) | (simp; omega) | omega) _ | refine bExtW ?_ (by first | exact Nat.le_refl _ | (simp; done) | (simp; omega) | omega) | refine Below.trans ?_ (Below.mono (by assumption) (by first | exact Nat.le_refl _ | (simp; done) | (simp; omega) | omega)))))
  have d1 : ((w.alloc (.cells #[.int .i64 (G), .int .i64 (W), .int .i64 (H), .slice a1 n c1] 50)).alloc (.cells #[.int .i64 (G), .int .i64 (W), .int .i64 (H), .slice a2 n c2] 50)).cell? ⟨w.heap.size, 3, none⟩ = some (.slice a1 n c1) := by simp [go_sem]
  have d2 : ((w.alloc (.cells #[.int .i64 (G), .int .i64 (W), .int .i64 (H), .slice a1 n c1] 50)).alloc (.cells #[.int .i64 (G), .int .i64 (W), .int .i64 (H), .slice a2 n c2] 50)).cell? ⟨w.heap.size + 1, 3, none⟩ = some (.slice a2 n c2) := by simp [go_sem]
  have q1 : LtW w.heap.size ((w.alloc (.cells #[.int .i64 (G), .int .i64 (W), .int .i64 (H), .slice a1 n c1] 50)).alloc (.cells #[.int .i64 (G), .int .i64 (W), .int .i64 (H), .slice a2 n c2] 50)) := by unfold LtW; simp; omega
  have q2 : LtW (w.heap.size + 1) ((w.alloc (.cells #[.int .i64 (G), .int .i64 (W), .int .i64 (H), .slice a1 n c1] 50)).alloc (.cells #[.int .i64 (G), .int .i64 (W), .int .i64 (H), .slice a2 n c2] 50)) := by unfold LtW; simp
  have HB : Hid (Below w.heap.size w ((w.alloc (.cells #[.int .i64 (G), .int .i64 (W), .int .i64 (H), .slice a1 n c1] 50)).alloc (.cells #[.int .i64 (G), .int .i64 (W), .int .i64 (H), .slice a2 n c2] 50))) := Lib.hid (by repeat (first | exact Below.refl _ _ | refine Below.drew ?_ | refine below_drewN ?_ _ | refine Below.alloc ?_ (by first | exact Nat.le_refl _ | (simp; done) | (simp; omega) | omega) _ | refine Below.setCell ?_ (by first | exact Nat.le_refl _ | (simp; done) | (simp; omega) | omega) _ | refine bExtW ?_ (by first | exact Nat.le_refl _ | (simp; done) | (simp; omega) | omega) | refine Below.trans ?_ (Below.mono (by assumption) (by first | exact Nat.le_refl _ | (simp; done) | (simp; omega) | omega))))
  clear h1 h2
  go_enter Try.func32, Try.ntmps32
  go_wp2_with fail
  generalize ((w.alloc (.cells #[.int .i64 (G), .int .i64 (W), .int .i64 (H), .slice a1 n c1] 50)).alloc (.cells #[.int .i64 (G), .int .i64 (W), .int .i64 (H), .slice a2 n c2] 50)) = W0 at *
  clear b1 b2 b3 b4
  go_loopw [37] (fun i wr => ∃ (k : Nat) (E : Array Obj) (d : Nat), k ≤ n ∧ i = .int .i64 k ∧ wr = extW W0 E d) (fun i _ => n - (intOf i).toNat)
  case atStart => exact ⟨0, _, _, by omega, rfl, extW_zero _⟩
  case round =>
    obtain ⟨k, E0, d0, hk, rfl, rfl⟩ := hrel
    by_cases hkn : k < n
    · obtain ⟨p1, o1, rfl, hp1, hc1⟩ := HI.out.2 (by omega)
      obtain ⟨p2, o2, rfl, hp2, hc2⟩ := HJ.out.2 (by omega)
      have k1 := hc1 k hkn
      have k2 := hc2 k hkn
      have l1 : LtW p1 W0 := hp1
      have l2 : LtW p2 W0 := hp2
      obtain ⟨x, hx⟩ : ∃ x, l.getD k 0 = x := ⟨_, rfl⟩
      rw [hx] at k1 k2
      have t1 : (x != x) = false := by simp
      clear hc1 hc2 hp1 hp2 hx
      go_wp2_with fail
      (refine wp_region_ext (by kernel_rfl) (by kernel_rfl) ?_; (repeat (first | ((with_reducible refine ext_step (fun K hK => ?_)); go_simp; first | (refine hK _ ?_; clear hK K) | (apply Exists.intro; refine ⟨fun _ _ => ?_, hK _ ?_⟩; fail; clear hK K)))); refine wpQuiet_nil ?_; intro E d)
      rw [extW_extW]
      go_wp2
      go_roundw
      case rel => exact ⟨k + 1, _, _, by omega, by go_num, rfl⟩
      case measure => simp [intOf]; omega
    · go_wp2
      go_ret
      exact ⟨rfl, bExtW HB.out HB.out.size⟩
/-- What String tells of the smallest picture. -/
theorem alive_list {p : List Int} (h : Str 1 [5] 2 2 p) : p = [0, 5] := by
  have hq : Soln 1 [5] 2 [0, 5] := by
    refine ⟨rfl, fun i hi => ?_, fun i hi => ?_, fun a ha _ b v hb hv => ?_⟩
    · have : i = 0 ∨ i = 1 := by simp at hi; omega
      rcases this with rfl | rfl <;> decide
    · have : i = 0 ∨ i = 1 := by omega
      rcases this with rfl | rfl <;> decide
    · have ha2 : a = 0 ∨ a = 1 := by simp at ha; omega
      have hb2 : b = 0 ∨ b = 1 := by simp at hb; omega
      rcases ha2 with rfl | rfl <;> rcases hb2 with rfl | rfl <;> simp [crs] at hv <;> subst hv <;> simp [g]
  obtain ⟨a, b, c, _, e⟩ := h.inv
  have e0 := e 0 (by omega); have e1 := e 1 (by omega)
  have h0 : g p 0 = 0 := by
    by_cases h0 : g p 0 = g [0, 5] 0
    · rw [h0]; rfl
    · have := h.first hq (i := 0) (by omega) (fun j hj => absurd hj (by omega)) h0
      have h3 : g [0, 5] 0 = 0 := rfl
      omega
  have hv : crs 1 [5] 0 1 = some 5 := by decide
  have h1 : g p 1 = 5 := by
    rcases c 0 (by omega) (by omega) 1 5 (by omega) hv with h | h
    · omega
    · exact h
  refine ext_g (by rw [a]; rfl) fun i hi => ?_
  have : i = 0 ∨ i = 1 := by omega
  rcases this with rfl | rfl
  · rw [h0]; rfl
  · rw [h1]; rfl
theorem alive_stuck : ¬ Stuck 1 [5] 2 := by
  have hq : Soln 1 [5] 2 [0, 5] := by
    refine ⟨rfl, fun i hi => ?_, fun i hi => ?_, fun a ha _ b v hb hv => ?_⟩
    · have : i = 0 ∨ i = 1 := by simp at hi; omega
      rcases this with rfl | rfl <;> decide
    · have : i = 0 ∨ i = 1 := by omega
      rcases this with rfl | rfl <;> decide
    · have ha2 : a = 0 ∨ a = 1 := by simp at ha; omega
      have hb2 : b = 0 ∨ b = 1 := by simp at hb; omega
      rcases ha2 with rfl | rfl <;> rcases hb2 with rfl | rfl <;> simp [crs] at hv <;> subst hv <;> simp [g]
  exact hq.not_stuck
set_option maxRecDepth 100000 in
set_option maxHeartbeats 8000000 in
theorem alive19_any (w : World) : Calls Try.prog 27 #[] w fun e w' => e = .returned (.bool true) ∧ Below w.heap.size w w' := by
  have HK : Hid (∀ a w, IsInts w a 1 [5] → Calls Try.prog 28 #[.agg #[.int .i64 (4), .int .i64 (1), .int .i64 (1), .slice a 1 1]] w (StrPostE 1 1 2 [5] w)) := Lib.hid fun a w h => eStr_ok 1 1 1 a 1 [5] w h (by omega) (by omega) (by omega) (by omega) rfl (by intro x hx; simp at hx; subst hx; omega)
  have HOK : Hid (IsInts (w.alloc (.cells #[.int .i64 (5)] 3)) (some ⟨w.heap.size, 0, none⟩) 1 [5]) := Lib.hid ⟨rfl, fun _ => ⟨_, 0, rfl, by simp, fun j hj => by
    obtain rfl : j = 0 := by omega
    simp⟩⟩
  go_enter Try.func27, Try.ntmps27
  go_wp2_with fail
  refine (HK.out _ _ HOK.out).mono ?_
  rintro r w1 ⟨hr, hb⟩
  rcases hr with ⟨hs, _⟩ | ⟨p, A, C, B, D, hp, rfl, h1, h2⟩
  · exact absurd hs alive_stuck
  · rw [alive_list hp] at h1 h2
    obtain ⟨b1, o1, rfl, hl1, hc1⟩ := h1.2 (by omega)
    obtain ⟨b2, o2, rfl, hl2, hc2⟩ := h2.2 (by omega)
    have x1 : w1.cell? ⟨b1, o1, none⟩ = some (.int .i64 (0)) := hc1 0 (by omega)
    have x2 : w1.cell? ⟨b2, o2, none⟩ = some (.int .i64 (5)) := hc2 0 (by omega)
    have l1 : LtW b1 w1 := hl1
    have l2 : LtW b2 w1 := hl2
    have hb2 : Below w.heap.size w w1 := Below.trans (by repeat (first | exact Below.refl _ _ | refine Below.drew ?_ | refine below_drewN ?_ _ | refine Below.alloc ?_ (by first | exact Nat.le_refl _ | (simp; done) | (simp; omega) | omega) _ | refine Below.setCell ?_ (by first | exact Nat.le_refl _ | (simp; done) | (simp; omega) | omega) _ | refine bExtW ?_ (by first | exact Nat.le_refl _ | (simp; done) | (simp; omega) | omega) | refine Below.trans ?_ (Below.mono (by assumption) (by first | exact Nat.le_refl _ | (simp; done) | (simp; omega) | omega)))) (hb.mono (by first | exact Nat.le_refl _ | (simp; done) | (simp; omega) | omega))
    have HB := Lib.hid hb2
    clear hc1 hc2 hl1 hl2 h1 h2 hp hb hb2
    go_wp2
    go_ret
    exact ⟨rfl, HB.out.alloc HB.out.size _⟩
end Go.Proofs.Yticplgjpflaelaa
