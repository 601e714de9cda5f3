/- Lemmas and contracts of functions (what each call returns, and that it changes nothing that was there) that the proof of a law of this seat uses; each lemma states its own conditions. -/
import Derived.Test.YtdaacjaibfcacaaB46
import Derived.Test.YtdaacjaibfcacaaB44
namespace Go.Proofs.Ytdaacjaibfcacaa
open Go.RowKit
set_option linter.unusedVariables false
set_option linter.unusedSimpArgs false
open Ef
set_option maxRecDepth 100000 in
set_option maxHeartbeats 8000000 in
theorem sameC_self (G W H : Int) (n : Nat) (a1 : Option Addr) (c1 : Nat) (a2 : Option Addr) (c2 : Nat) (l : List Int) (w : World) (h1 : IsInts w a1 n l) (h2 : IsInts w a2 n l) (hn : n ≤ 9223372036854775807) :
    Calls Try.prog 47 #[.agg #[.int .i64 (G), .int .i64 (W), .int .i64 (H), .slice a1 n c1], .agg #[.int .i64 (G), .int .i64 (W), .int .i64 (H), .slice a2 n c2]] w fun e w' => e = .returned (.bool true) ∧ Below w.heap.size w w' := by
  have b1 : (G != G) = false := by simp
  have b2 : (W != W) = false := by simp
  have b3 : (H != H) = false := by simp
  have b4 : ((n : Int) != (n : Int)) = false := by simp
  have HI := Lib.hid (h1.below (w' := ((w.alloc (.cells #[.int .i64 (G), .int .i64 (W), .int .i64 (H), .slice a1 n c1] 36)).alloc (.cells #[.int .i64 (G), .int .i64 (W), .int .i64 (H), .slice a2 n c2] 36))) (by repeat (first | exact Below.refl _ _ | refine Below.drew ?_ | refine below_drewN ?_ _ | refine Below.alloc ?_ (by first | exact Nat.le_refl _ | (simp; done) | (simp; omega) | omega) _ | refine Below.setCell ?_ (by first | exact Nat.le_refl _ | (simp; done) | (simp; omega) | omega) _ | refine bExtW ?_ (by first | exact Nat.le_refl _ | (simp; done) | (simp; omega) | omega) | refine Below.trans ?_ (Below.mono (by assumption) (by first | exact Nat.le_refl _ | (simp; done) | (simp; omega) | omega)))))
  have HJ := Lib.hid (h2.below (w' := ((w.alloc (.cells #[.int .i64 (G), .int .i64 (W), .int .i64 (H), .slice a1 n c1] 36)).alloc (.cells #[.int .i64 (G), .int .i64 (W), .int .i64 (H), .slice a2 n c2] 36))) (by repeat (first | exact Below.refl _ _ | refine Below.drew ?_ | refine below_drewN ?_ _ | refine Below.alloc ?_ (by first | exact Nat.le_refl _ | (simp; done) | (simp; omega) | omega) _ | refine Below.setCell ?_ (by first | exact Nat.le_refl _ | (simp; done) | (simp; omega) | omega) _ | refine bExtW ?_ (by first | exact Nat.le_refl _ | (simp; done) | (simp; omega) | omega) | refine Below.trans ?_ (Below.mono (by assumption) (by first | exact Nat.le_refl _ | (simp; done) | (simp; omega) | omega)))))
  have d1 : ((w.alloc (.cells #[.int .i64 (G), .int .i64 (W), .int .i64 (H), .slice a1 n c1] 36)).alloc (.cells #[.int .i64 (G), .int .i64 (W), .int .i64 (H), .slice a2 n c2] 36)).cell? ⟨w.heap.size, 3, none⟩ = some (.slice a1 n c1) := by simp [go_sem]
  have d2 : ((w.alloc (.cells #[.int .i64 (G), .int .i64 (W), .int .i64 (H), .slice a1 n c1] 36)).alloc (.cells #[.int .i64 (G), .int .i64 (W), .int .i64 (H), .slice a2 n c2] 36)).cell? ⟨w.heap.size + 1, 3, none⟩ = some (.slice a2 n c2) := by simp [go_sem]
  have q1 : LtW w.heap.size ((w.alloc (.cells #[.int .i64 (G), .int .i64 (W), .int .i64 (H), .slice a1 n c1] 36)).alloc (.cells #[.int .i64 (G), .int .i64 (W), .int .i64 (H), .slice a2 n c2] 36)) := by unfold LtW; simp; omega
  have q2 : LtW (w.heap.size + 1) ((w.alloc (.cells #[.int .i64 (G), .int .i64 (W), .int .i64 (H), .slice a1 n c1] 36)).alloc (.cells #[.int .i64 (G), .int .i64 (W), .int .i64 (H), .slice a2 n c2] 36)) := by unfold LtW; simp
  have HB : Hid (Below w.heap.size w ((w.alloc (.cells #[.int .i64 (G), .int .i64 (W), .int .i64 (H), .slice a1 n c1] 36)).alloc (.cells #[.int .i64 (G), .int .i64 (W), .int .i64 (H), .slice a2 n c2] 36))) := Lib.hid (by repeat (first | exact Below.refl _ _ | refine Below.drew ?_ | refine below_drewN ?_ _ | refine Below.alloc ?_ (by first | exact Nat.le_refl _ | (simp; done) | (simp; omega) | omega) _ | refine Below.setCell ?_ (by first | exact Nat.le_refl _ | (simp; done) | (simp; omega) | omega) _ | refine bExtW ?_ (by first | exact Nat.le_refl _ | (simp; done) | (simp; omega) | omega) | refine Below.trans ?_ (Below.mono (by assumption) (by first | exact Nat.le_refl _ | (simp; done) | (simp; omega) | omega))))
  clear h1 h2
  go_enter Try.func47, Try.ntmps47
  go_wp2_with fail
  generalize ((w.alloc (.cells #[.int .i64 (G), .int .i64 (W), .int .i64 (H), .slice a1 n c1] 36)).alloc (.cells #[.int .i64 (G), .int .i64 (W), .int .i64 (H), .slice a2 n c2] 36)) = W0 at *
  clear b1 b2 b3 b4
  go_loopw [37] (fun i wr => ∃ (k : Nat) (E : Array Obj) (d : Nat), k ≤ n ∧ i = .int .i64 k ∧ wr = extW W0 E d) (fun i _ => n - (intOf i).toNat)
  case atStart => exact ⟨0, _, _, by omega, rfl, extW_zero _⟩
  case round =>
    obtain ⟨k, E0, d0, hk, rfl, rfl⟩ := hrel
    by_cases hkn : k < n
    · obtain ⟨p1, o1, rfl, hp1, hc1⟩ := HI.out.2 (by omega)
      obtain ⟨p2, o2, rfl, hp2, hc2⟩ := HJ.out.2 (by omega)
      have k1 := hc1 k hkn
      have k2 := hc2 k hkn
      have l1 : LtW p1 W0 := hp1
      have l2 : LtW p2 W0 := hp2
      obtain ⟨x, hx⟩ : ∃ x, l.getD k 0 = x := ⟨_, rfl⟩
      rw [hx] at k1 k2
      have t1 : (x != x) = false := by simp
      clear hc1 hc2 hp1 hp2 hx
      go_wp2_with fail
      (refine wp_region_ext (by kernel_rfl) (by kernel_rfl) ?_; (repeat (first | ((with_reducible refine ext_step (fun K hK => ?_)); go_simp; first | (refine hK _ ?_; clear hK K) | (apply Exists.intro; refine ⟨fun _ _ => ?_, hK _ ?_⟩; fail; clear hK K)))); refine wpQuiet_nil ?_; intro E d)
      rw [extW_extW]
      go_wp2
      go_roundw
      case rel => exact ⟨k + 1, _, _, by omega, by go_num, rfl⟩
      case measure => simp [intOf]; omega
    · go_wp2
      go_ret
      exact ⟨rfl, bExtW HB.out HB.out.size⟩
/-- What String tells of the smallest picture. -/
theorem alive_list {p : List Int} (h : Str 1 [5] 2 2 p) : p = [0, 5] := by
  have hq : Soln 1 [5] 2 [0, 5] := by
    refine ⟨rfl, fun i hi => ?_, fun i hi => ?_, fun a ha _ b v hb hv => ?_⟩
    · have : i = 0 ∨ i = 1 := by simp at hi; omega
      rcases this with rfl | rfl <;> decide
    · have : i = 0 ∨ i = 1 := by omega
      rcases this with rfl | rfl <;> decide
    · have ha2 : a = 0 ∨ a = 1 := by simp at ha; omega
      have hb2 : b = 0 ∨ b = 1 := by simp at hb; omega
      rcases ha2 with rfl | rfl <;> rcases hb2 with rfl | rfl <;> simp [crs] at hv <;> subst hv <;> simp [g]
  obtain ⟨a, b, c, _, e⟩ := h.inv
  have e0 := e 0 (by omega); have e1 := e 1 (by omega)
  have h0 : g p 0 = 0 := by
    by_cases h0 : g p 0 = g [0, 5] 0
    · rw [h0]; rfl
    · have := h.first hq (i := 0) (by omega) (fun j hj => absurd hj (by omega)) h0
      have h3 : g [0, 5] 0 = 0 := rfl
      omega
  have hv : crs 1 [5] 0 1 = some 5 := by decide
  have h1 : g p 1 = 5 := by
    rcases c 0 (by omega) (by omega) 1 5 (by omega) hv with h | h
    · omega
    · exact h
  refine ext_g (by rw [a]; rfl) fun i hi => ?_
  have : i = 0 ∨ i = 1 := by omega
  rcases this with rfl | rfl
  · rw [h0]; rfl
  · rw [h1]; rfl
theorem alive_stuck : ¬ Stuck 1 [5] 2 := by
  have hq : Soln 1 [5] 2 [0, 5] := by
    refine ⟨rfl, fun i hi => ?_, fun i hi => ?_, fun a ha _ b v hb hv => ?_⟩
    · have : i = 0 ∨ i = 1 := by simp at hi; omega
      rcases this with rfl | rfl <;> decide
    · have : i = 0 ∨ i = 1 := by omega
      rcases this with rfl | rfl <;> decide
    · have ha2 : a = 0 ∨ a = 1 := by simp at ha; omega
      have hb2 : b = 0 ∨ b = 1 := by simp at hb; omega
      rcases ha2 with rfl | rfl <;> rcases hb2 with rfl | rfl <;> simp [crs] at hv <;> subst hv <;> simp [g]
  exact hq.not_stuck
end Go.Proofs.Ytdaacjaibfcacaa

namespace Go.Proofs.Ytdaacjaibfcacaa
open Go.RowKit
set_option linter.unusedVariables false
set_option linter.unusedSimpArgs false
open Z (torN place pnt Mv To lin okT nrm keepB colP idm md redM movdL)
set_option maxRecDepth 100000 in
set_option maxHeartbeats 8000000 in
theorem gmoves_gen (G W H : Int) (a : Option Addr) (n c : Nat) (cs : List Int) (t : Int) (f : Bool) (ox oy : Int) (w : World) (hI : IsInts w a n cs) (b : Bool) (e : Int) (g N M : Int) (m : Nat) (L : List Int) (hm : m ≤ 9223372036854775807)
    (h1 : ∀ w, IsInts w a n cs → Calls Try.prog 33 #[.agg #[.int .i64 (G), .int .i64 (W), .int .i64 (H), .slice a n c], .agg #[.int .i64 (t), .bool (f), .int .i64 (ox), .int .i64 (oy)]] w (fun r w' => r = .returned (.tuple #[.bool (b), .int .i64 (e)]) ∧ Below w.heap.size w w'))
    (h2 : ∀ w, IsInts w a n cs → Calls Try.prog 44 #[.agg #[.int .i64 (G), .int .i64 (W), .int .i64 (H), .slice a n c], .agg #[.int .i64 (t), .bool (f), .int .i64 (ox), .int .i64 (oy)]] w (fun r w' => r = .returned (.tuple #[.bool (b), .int .i64 (e)]) ∧ Below w.heap.size w w'))
    (h3 : ∀ w, IsInts w a n cs → Calls Try.prog 45 #[.agg #[.int .i64 (G), .int .i64 (W), .int .i64 (H), .slice a n c], .agg #[.int .i64 (t), .bool (f), .int .i64 (ox), .int .i64 (oy)]] w (MdPost g N M m L e w))
    (h4 : ∀ w, IsInts w a n cs → Calls Try.prog 46 #[.agg #[.int .i64 (G), .int .i64 (W), .int .i64 (H), .slice a n c], .agg #[.int .i64 (t), .bool (f), .int .i64 (ox), .int .i64 (oy)]] w (MdPost g N M m L e w)) :
    Calls Try.prog 10 #[.agg #[.int .i64 (G), .int .i64 (W), .int .i64 (H), .slice a n c], .agg #[.int .i64 (t), .bool (f), .int .i64 (ox), .int .i64 (oy)]] w fun r w' => r = .returned (.bool true) ∧ Below w.heap.size w w' := by
  have q1 : (b != b) = false := by simp
  have q2 : (e != e) = false := by simp
  have q3 : (e == e) = true := by simp
  have H1 := Lib.hid h1; have H2 := Lib.hid h2; have H3 := Lib.hid h3; have H4 := Lib.hid h4
  have HI := Lib.hid hI
  have HS := Lib.hid (fun a1 c1 a2 c2 w x y => sameC_self g N M m a1 c1 a2 c2 L w x y hm)
  unfold MdPost at H3 H4
  clear hI h1 h2 h3 h4
  go_enter Try.func10, Try.ntmps10
  (go_wp2_with fail; refine (H1.out _ (HI.out.below (by repeat (first | exact Below.refl _ _ | refine Below.drew ?_ | refine below_drewN ?_ _ | refine Below.alloc ?_ (by first | exact Nat.le_refl _ | (simp; done) | (simp; omega) | omega) _ | refine Below.setCell ?_ (by first | exact Nat.le_refl _ | (simp; done) | (simp; omega) | omega) _ | refine bExtW ?_ (by first | exact Nat.le_refl _ | (simp; done) | (simp; omega) | omega) | refine Below.trans ?_ (Below.mono (by assumption) (by first | exact Nat.le_refl _ | (simp; done) | (simp; omega) | omega)))))).mono ?_; rintro r w1 ⟨rfl, hb⟩; obtain ⟨E, d, rfl⟩ := bExt hb; clear hb)
  (go_wp2_with fail; refine (H2.out _ (HI.out.below (by repeat (first | exact Below.refl _ _ | refine Below.drew ?_ | refine below_drewN ?_ _ | refine Below.alloc ?_ (by first | exact Nat.le_refl _ | (simp; done) | (simp; omega) | omega) _ | refine Below.setCell ?_ (by first | exact Nat.le_refl _ | (simp; done) | (simp; omega) | omega) _ | refine bExtW ?_ (by first | exact Nat.le_refl _ | (simp; done) | (simp; omega) | omega) | refine Below.trans ?_ (Below.mono (by assumption) (by first | exact Nat.le_refl _ | (simp; done) | (simp; omega) | omega)))))).mono ?_; rintro r w1 ⟨rfl, hb⟩; obtain ⟨E, d, rfl⟩ := bExt hb; clear hb)
  go_wp2_with fail
  refine (H3.out _ (HI.out.below (by repeat (first | exact Below.refl _ _ | refine Below.drew ?_ | refine below_drewN ?_ _ | refine Below.alloc ?_ (by first | exact Nat.le_refl _ | (simp; done) | (simp; omega) | omega) _ | refine Below.setCell ?_ (by first | exact Nat.le_refl _ | (simp; done) | (simp; omega) | omega) _ | refine bExtW ?_ (by first | exact Nat.le_refl _ | (simp; done) | (simp; omega) | omega) | refine Below.trans ?_ (Below.mono (by assumption) (by first | exact Nat.le_refl _ | (simp; done) | (simp; omega) | omega)))))).mono ?_
  rintro r w2 ⟨⟨A, C, rfl, hA⟩, hb2⟩
  obtain ⟨E2, d2, rfl⟩ := bExt hb2
  have HA := Lib.hid hA
  clear hA hb2
  go_wp2_with fail
  refine (H4.out _ (HI.out.below (by repeat (first | exact Below.refl _ _ | refine Below.drew ?_ | refine below_drewN ?_ _ | refine Below.alloc ?_ (by first | exact Nat.le_refl _ | (simp; done) | (simp; omega) | omega) _ | refine Below.setCell ?_ (by first | exact Nat.le_refl _ | (simp; done) | (simp; omega) | omega) _ | refine bExtW ?_ (by first | exact Nat.le_refl _ | (simp; done) | (simp; omega) | omega) | refine Below.trans ?_ (Below.mono (by assumption) (by first | exact Nat.le_refl _ | (simp; done) | (simp; omega) | omega)))))).mono ?_
  rintro r w3 ⟨⟨A', C', rfl, hA'⟩, hb3⟩
  obtain ⟨E3, d3, rfl⟩ := bExt hb3
  have HA' := Lib.hid hA'
  clear hA' hb3
  (go_wp2_with fail; refine (HS.out _ _ _ _ _ (HA.out.below (by repeat (first | exact Below.refl _ _ | refine Below.drew ?_ | refine below_drewN ?_ _ | refine Below.alloc ?_ (by first | exact Nat.le_refl _ | (simp; done) | (simp; omega) | omega) _ | refine Below.setCell ?_ (by first | exact Nat.le_refl _ | (simp; done) | (simp; omega) | omega) _ | refine bExtW ?_ (by first | exact Nat.le_refl _ | (simp; done) | (simp; omega) | omega) | refine Below.trans ?_ (Below.mono (by assumption) (by first | exact Nat.le_refl _ | (simp; done) | (simp; omega) | omega))))) (HA'.out.below (by repeat (first | exact Below.refl _ _ | refine Below.drew ?_ | refine below_drewN ?_ _ | refine Below.alloc ?_ (by first | exact Nat.le_refl _ | (simp; done) | (simp; omega) | omega) _ | refine Below.setCell ?_ (by first | exact Nat.le_refl _ | (simp; done) | (simp; omega) | omega) _ | refine bExtW ?_ (by first | exact Nat.le_refl _ | (simp; done) | (simp; omega) | omega) | refine Below.trans ?_ (Below.mono (by assumption) (by first | exact Nat.le_refl _ | (simp; done) | (simp; omega) | omega)))))).mono ?_; rintro r w1 ⟨rfl, hb⟩; obtain ⟨E, d, rfl⟩ := bExt hb; clear hb)
  go_wp2
  go_ret
  exact ⟨rfl, (by repeat (first | exact Below.refl _ _ | refine Below.drew ?_ | refine below_drewN ?_ _ | refine Below.alloc ?_ (by first | exact Nat.le_refl _ | (simp; done) | (simp; omega) | omega) _ | refine Below.setCell ?_ (by first | exact Nat.le_refl _ | (simp; done) | (simp; omega) | omega) _ | refine bExtW ?_ (by first | exact Nat.le_refl _ | (simp; done) | (simp; omega) | omega) | refine Below.trans ?_ (Below.mono (by assumption) (by first | exact Nat.le_refl _ | (simp; done) | (simp; omega) | omega))))⟩
theorem gmoves_walk (G W H : Int) (a : Option Addr) (n c : Nat) (cs : List Int) (t : Int) (f : Bool) (ox oy : Int) (w : World) (hI : IsInts w a n cs) (h0 : (-9223372036854775808 ≤ G ∧ G ≤ 9223372036854775807)) (h1 : (-9223372036854775808 ≤ W ∧ W ≤ 9223372036854775807)) (h2 : (-9223372036854775808 ≤ H ∧ H ≤ 9223372036854775807)) (h3 : n ≤ 9223372036854775807) (ht : (-9223372036854775808 ≤ t ∧ t ≤ 9223372036854775807)) (hx : (-9223372036854775808 ≤ ox ∧ ox ≤ 9223372036854775807)) (hy : (-9223372036854775808 ≤ oy ∧ oy ≤ 9223372036854775807)) :
    Calls Try.prog 10 #[.agg #[.int .i64 (G), .int .i64 (W), .int .i64 (H), .slice a n c], .agg #[.int .i64 (t), .bool (f), .int .i64 (ox), .int .i64 (oy)]] w fun r w' => r = .returned (.bool true) ∧ Below w.heap.size w w' := by
  rcases chart_cases G W H a n c cs h0 h1 h2 h3 with ⟨e, hT⟩ | ⟨G', W', H', N, rfl, rfl, rfl, h, hN, hp, h24⟩
  · exact gmoves_gen G W H a n c cs t f ox oy w hI false e 0 0 0 0 [] (by omega) (fun w hI => (Keeps_bad G W H a n c cs t f ox oy w hI e hT).1) (fun w hI => (Keeps_bad G W H a n c cs t f ox oy w hI e hT).2) (fun w hI => (Moved_bad G W H a n c cs t f ox oy w hI e hT).1) (fun w hI => (Moved_bad G W H a n c cs t f ox oy w hI e hT).2)
  · by_cases he : wE G' t ox oy = 0
    · obtain ⟨_, _, t', rfl, _⟩ := wE_zero he
      have hM6 : N * N ≤ 576 := Nat.mul_le_mul h24 h24
      exact gmoves_gen G' W' H' a n c cs t' f ox oy w hI _ 0 _ _ _ (N * N) _ (by omega) (fun w hI => Keeps_ok G' W' H' n N t' f ox oy a c cs w hI h hN h24 hp hx hy he) (fun w hI => rKeeps_ok G' W' H' n N t' f ox oy a c cs w hI h hN h24 hx hy he) (fun w hI => Moved_ok G' W' H' n N t' (N * N) f ox oy a c cs w hI h hN h24 hp rfl hx hy he) (fun w hI => rMoved_ok G' W' H' n N t' (N * N) f ox oy a c cs w hI h hN h24 hp rfl hx hy he)
    · exact gmoves_gen G' W' H' a n c cs t f ox oy w hI false _ 0 0 0 0 [] (by omega) (fun w hI => (Keeps_wrong G' W' H' n N a c cs t f ox oy w hI h hN h24 ht hx hy he).1) (fun w hI => (Keeps_wrong G' W' H' n N a c cs t f ox oy w hI h hN h24 ht hx hy he).2) (fun w hI => (Moved_wrong G' W' H' n N a c cs t f ox oy w hI h hN h24 ht hx hy he).1) (fun w hI => (Moved_wrong G' W' H' n N a c cs t f ox oy w hI h hN h24 ht hx hy he).2)
end Go.Proofs.Ytdaacjaibfcacaa
