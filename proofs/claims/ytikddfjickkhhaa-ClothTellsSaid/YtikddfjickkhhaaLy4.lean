/- Lemmas and contracts of functions (what each call returns, and that it changes nothing that was there) that the proof of a law of this seat uses; each lemma states its own conditions. -/
import Derived.Test.YtikddfjickkhhaaLy3
import Derived.Test.YtikddfjickkhhaaCl3
namespace Go.Proofs.Ytikddfjickkhhaa
open Go.RowKit
set_option linter.unusedVariables false
set_option linter.unusedSimpArgs false
open Cl
theorem TInv.at {N rb : Nat} {R : Nat → Nat → Bool} {w : World} (h : TInv N rb N R w) {s a : Nat} (hs : s < N) (ha : a < N) : ∃ g c, w.cell? ⟨rb, s, none⟩ = some (.slice (some ⟨g, 0, none⟩) N c) ∧ LtW g w ∧ w.cell? ⟨g, a, none⟩ = some (.bool (R s a)) ∧ LtW rb w := by
  obtain ⟨blk, cap, h1, h2, _⟩ := h.get
  obtain ⟨q1, q2, _, q4⟩ := h2 s hs
  exact ⟨blk s, cap s, q1, q2, q4 a ha, h1⟩
set_option maxRecDepth 100000 in
set_option maxHeartbeats 8000000 in
theorem rLift_bad (W H : Int) (a : Option Addr) (n c : Nat) (w : World) (h1 : (-9223372036854775808 ≤ W ∧ W ≤ 9223372036854775807)) (h2 : (-9223372036854775808 ≤ H ∧ H ≤ 9223372036854775807)) (h3 : n ≤ 9223372036854775807) (he : wrC W H n ≠ 0) :
    Calls Try.prog 25 #[.agg #[.int .i64 (W), .int .i64 (H), .slice a n c]] w fun e w' => e = .returned (.tuple #[.slice none 0 0, .int .i64 (wrC W H n)]) ∧ Below w.heap.size w w' := by
  have hb : (wrC W H n != 0) = true := by simpa using he
  have HS := Lib.hid (fun w => r8Wrong_any W H a n c w h1 h2 h3)
  clear he
  go_enter Try.func25, Try.ntmps25
  (go_wp2_with fail; refine (HS.out _).mono ?_; rintro r w1 ⟨rfl, hb⟩; obtain ⟨E, d, rfl⟩ := bExt hb; clear hb)
  go_wp2
  go_ret2
  exact ⟨rfl, (by repeat (first | exact Below.refl _ _ | refine Below.drew ?_ | refine below_drewN ?_ _ | refine Below.alloc ?_ (by first | exact Nat.le_refl _ | (simp; done) | (simp; omega) | omega) _ | refine Below.setCell ?_ (by first | exact Nat.le_refl _ | (simp; done) | (simp; omega) | omega) _ | refine bExtW ?_ (by first | exact Nat.le_refl _ | (simp; done) | (simp; omega) | omega) | refine Below.trans ?_ (Below.mono (by assumption) (by first | exact Nat.le_refl _ | (simp; done) | (simp; omega) | omega))))⟩
set_option maxRecDepth 100000 in
set_option maxHeartbeats 8000000 in
theorem rLift_ok (W H : Nat) (a : Option Addr) (n c : Nat) (bs : List Bool) (w : World) (hi : IsBools w a n bs) (h1 : W ≤ 64) (h2 : H ≤ 64) (hn : n = W * H) (he : wrC W H n = 0) :
    Calls Try.prog 25 #[.agg #[.int .i64 (W), .int .i64 (H), .slice a n c]] w (LiftPost (lift (W+H) (abM W H bs)) w) := by
  have hn4 : n ≤ 4096 := by rw [hn]; exact Nat.le_trans (Nat.mul_le_mul h1 h2) (by omega)
  have HS := Lib.hid (fun w => r8Wrong_any W H a n c w (by omega) (by omega) (by omega))
  rw [he] at HS
  have HT := Lib.hid (fun w h => rTable_any W H a n c bs w h h1 h2 hn)
  have HI := Lib.hid hi
  have hNl : W + H ≤ 128 := by omega
  clear hi he hn hn4
  generalize hN : W + H = N at *
  have HN := Lib.hid hN
  generalize abM W H bs = ab at *
  clear hN h1 h2
  go_enter Try.func25, Try.ntmps25
  (go_wp2_with fail; refine (HS.out _).mono ?_; rintro r w1 ⟨rfl, hb⟩; obtain ⟨E, d, rfl⟩ := bExt hb; clear hb)
  go_wp2_with fail
  refine (HT.out _ (HI.out.below (by repeat (first | exact Below.refl _ _ | refine Below.drew ?_ | refine below_drewN ?_ _ | refine Below.alloc ?_ (by first | exact Nat.le_refl _ | (simp; done) | (simp; omega) | omega) _ | refine Below.setCell ?_ (by first | exact Nat.le_refl _ | (simp; done) | (simp; omega) | omega) _ | refine bExtW ?_ (by first | exact Nat.le_refl _ | (simp; done) | (simp; omega) | omega) | refine Below.trans ?_ (Below.mono (by assumption) (by first | exact Nat.le_refl _ | (simp; done) | (simp; omega) | omega)))))).mono ?_
  rintro r w1 ⟨rb, rfl, hti, hb⟩
  have hB0 : Below w.heap.size w w1 := (show Below w.heap.size w (extW (w.alloc (.cells #[.int .i64 (W), .int .i64 (H), .slice a n c] 26)) E d) from (by repeat (first | exact Below.refl _ _ | refine Below.drew ?_ | refine below_drewN ?_ _ | refine Below.alloc ?_ (by first | exact Nat.le_refl _ | (simp; done) | (simp; omega) | omega) _ | refine Below.setCell ?_ (by first | exact Nat.le_refl _ | (simp; done) | (simp; omega) | omega) _ | refine bExtW ?_ (by first | exact Nat.le_refl _ | (simp; done) | (simp; omega) | omega) | refine Below.trans ?_ (Below.mono (by assumption) (by first | exact Nat.le_refl _ | (simp; done) | (simp; omega) | omega))))).trans (hb.mono (by simp; omega))
  have HB0 := Lib.hid hB0
  have HTI := Lib.hid hti
  clear hti hb hB0 HI HT HS
  go_wp2_with fail
  go_loopw [18] (fun i wr => ∃ s : Nat, s ≤ N ∧ i = .int .i64 s ∧ Below w1.heap.size w1 wr ∧ Hid (∀ x, x < s → ¬ cnt N (fun a => wp ab N a x) < N)) (fun i _ => N - (intOf i).toNat)
  case atStart => exact ⟨0, Nat.zero_le _, rfl, Below.refl _ _, Lib.hid (by omega)⟩
  case round =>
    obtain ⟨s, hs, rfl, hbel, HM⟩ := hrel
    by_cases hsN : s < N
    · have HB := Lib.hid hbel
      clear hbel
      obtain ⟨wo, rfl⟩ : ∃ wo : World, wo = wr := ⟨_, rfl⟩
      go_wp2_with fail
      go_loopw [23, 7] (fun i v wq => ∃ k : Nat, k ≤ N ∧ i = .int .i64 k ∧ wq.ownsRow wo.heap.size 3 1 v ((List.range k).filter (fun a => wp ab N a s)).length (natV ((List.range k).filter (fun a => wp ab N a s))) ∧ Below wo.heap.size wo wq) (fun i _ _ => N - (intOf i).toNat)
      case atStart => exact ⟨0, Nat.zero_le _, rfl, World.ownsRow_nil _ _ _ _, Below.refl _ _⟩
      case round =>
        obtain ⟨k, hk, rfl, hown, hbq⟩ := hrel
        have hkl := cnt_le k (fun a => wp ab N a s)
        unfold cnt at hkl
        have HBA := Lib.hid (HB.out.trans (hbq.mono HB.out.size))
        by_cases hkN : k < N
        · obtain ⟨g, cg, e1, lg, e2, lr⟩ := (HTI.out.below HBA.out).at hkN hsN
          have HF := Lib.hid (filter_snoc k (fun a => wp ab N a s))
          have HO := Lib.hid hown
          have HBQ := Lib.hid hbq
          have hsz := hbq.size
          have i0 : (0 : Int) ≤ (k : Int) := by omega
          have i1 : (k : Int) < (N : Int) := by omega
          have i2 : (0 : Int) ≤ (s : Int) := by omega
          have i3 : (s : Int) < (N : Int) := by omega
          clear hown hbq
          generalize (List.range k).filter (fun a => wp ab N a s) = L at *
          cases hf : wp ab N k s with
          | false =>
            rw [hf] at e2
            have HFk := Lib.hid hf
            clear hf
            go_wp2
            go_roundw
            case rel => exact ⟨k + 1, by omega, by go_num, by rw [HF.out, HFk.out]; simpa using HO.out, HBQ.out⟩
            case measure => simp [intOf]; omega
          | true =>
            rw [hf] at e2
            have HFk := Lib.hid hf
            clear hf
            go_wp2_with (at_builtin; refine wpApp okInts' rfl (.tmp 33) (.tmp 35) rfl wo.heap.size _ _ _ #[.int .i64 k] rfl HO.out rfl rfl ?_ (by omega) (by omega) hsz ?_)
            · simp [Value.oneCell']
            intro v' w2 hown2 hb2
            have HB2 := Lib.hid (HBQ.out.trans hb2)
            have HO2 := Lib.hid hown2
            clear hown2 hb2 e1 e2
            go_wp2
            go_roundw
            case rel => exact ⟨k + 1, by omega, by go_num, by rw [HF.out, HFk.out]; simp only [if_true]; rw [natV_snoc, List.length_append]; exact HO2.out, HB2.out⟩
            case measure => simp [intOf]; omega
        · obtain rfl : N = k := by omega
          obtain ⟨A, cp, rfl⟩ := own_form hown
          have HO := Lib.hid hown
          clear hown hbq
          by_cases hlt : ((List.range N).filter (fun a => wp ab N a s)).length < N
          · have HL := Lib.hid (lift_some hsN hlt HM.out)
            have hd : decide (((List.range N).filter (fun a => wp ab N a s)).length < N) = true := by simpa using hlt
            generalize hLL : (List.range N).filter (fun a => wp ab N a s) = L at *
            clear hLL
            go_wp2
            go_ret2
            obtain ⟨A', c', e, hI⟩ := IsInts.of_owns (zs := natI L) (n := L.length) (by simp [natI]) (by rw [natI_map]; exact HO.out)
            injection e with e1 _ e3
            subst e1
            unfold LiftPost
            rw [HL.out]
            exact ⟨A, cp, rfl, hI, HB0.out.trans (HBA.out.mono HB0.out.size)⟩
          · have HN1 : Hid (∀ x, x < s + 1 → ¬ cnt N (fun a => wp ab N a x) < N) := Lib.hid (by
              intro x hx
              by_cases e : x = s
              · subst e; exact hlt
              · exact HM.out x (by omega))
            have hd : decide (((List.range N).filter (fun a => wp ab N a s)).length < N) = false := by simpa using hlt
            generalize (List.range N).filter (fun a => wp ab N a s) = L at *
            go_wp2
            go_roundw
            case rel => exact ⟨s + 1, by omega, by go_num, HBA.out, HN1⟩
            case measure => simp [intOf]; omega
    · obtain rfl : N = s := by omega
      have HL := Lib.hid (lift_none HM.out)
      have HB := Lib.hid hbel
      clear hbel
      go_wp2
      go_ret2
      unfold LiftPost
      rw [HL.out]
      exact ⟨none, 0, rfl, ⟨rfl, fun h => by simp at h⟩, HB0.out.trans (HB.out.mono HB0.out.size)⟩
end Go.Proofs.Ytikddfjickkhhaa
