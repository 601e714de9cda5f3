/- Lemmas and contracts of functions (what each call returns, and that it changes nothing that was there) that the proof of a law of this seat uses; each lemma states its own conditions. -/
import Derived.Test.YtikddfjickkhhaaCl2
namespace Go.Proofs.Ytikddfjickkhhaa
open Go.RowKit
set_option linter.unusedVariables false
set_option linter.unusedSimpArgs false
open Cl
set_option maxRecDepth 100000 in
set_option maxHeartbeats 8000000 in
theorem Lift_bad (W H : Int) (a : Option Addr) (n c : Nat) (w : World) (h1 : (-9223372036854775808 ≤ W ∧ W ≤ 9223372036854775807)) (h2 : (-9223372036854775808 ≤ H ∧ H ≤ 9223372036854775807)) (h3 : n ≤ 9223372036854775807) (he : wrC W H n ≠ 0) :
    Calls Try.prog 18 #[.agg #[.int .i64 (W), .int .i64 (H), .slice a n c]] w fun e w' => e = .returned (.tuple #[.slice none 0 0, .int .i64 (wrC W H n)]) ∧ Below w.heap.size w w' := by
  have hb : (wrC W H n != 0) = true := by simpa using he
  have HS := Lib.hid (fun w => spun_bad W H a n c w h1 h2 h3 he)
  clear he
  go_enter Try.func18, Try.ntmps18
  (go_wp2_with fail; refine (HS.out _).mono ?_; rintro r w1 ⟨rfl, hb⟩; obtain ⟨E, d, rfl⟩ := bExt hb; clear hb)
  go_wp2
  go_ret2
  exact ⟨rfl, (by repeat (first | exact Below.refl _ _ | refine Below.drew ?_ | refine below_drewN ?_ _ | refine Below.alloc ?_ (by first | exact Nat.le_refl _ | (simp; done) | (simp; omega) | omega) _ | refine Below.setCell ?_ (by first | exact Nat.le_refl _ | (simp; done) | (simp; omega) | omega) _ | refine bExtW ?_ (by first | exact Nat.le_refl _ | (simp; done) | (simp; omega) | omega) | refine Below.trans ?_ (Below.mono (by assumption) (by first | exact Nat.le_refl _ | (simp; done) | (simp; omega) | omega))))⟩
def LiftPost (L : List Nat) (w : World) (r : Ending) (w' : World) : Prop :=
  ∃ A c, r = .returned (.tuple #[.slice A L.length c, .int .i64 (0)]) ∧ IsInts w' A L.length (natI L) ∧ Below w.heap.size w w'
set_option maxRecDepth 100000 in
set_option maxHeartbeats 8000000 in
theorem Lift_ok (W H : Nat) (a : Option Addr) (n c : Nat) (bs : List Bool) (w : World) (hi : IsBools w a n bs) (h1 : W ≤ 64) (h2 : H ≤ 64) (hn : n = W * H) (he : wrC W H n = 0) :
    Calls Try.prog 18 #[.agg #[.int .i64 (W), .int .i64 (H), .slice a n c]] w (LiftPost (lift (W+H) (abM W H bs)) w) := by
  have hn4 : n ≤ 4096 := by rw [hn]; exact Nat.le_trans (Nat.mul_le_mul h1 h2) (by omega)
  have HS := Lib.hid (fun w => spun_ok W H a n c w h1 h2 hn4 he)
  have HOv := Lib.hid (fun (tb : Nat) (w' : World) (hC : IsCloth w' tb W H a n c bs) (s : Nat) (hs : s < W + H) => over_any tb W H a n c bs w' hC h1 h2 hn s hs)
  have HI := Lib.hid hi
  have hNl : W + H ≤ 128 := by omega
  clear hi he hn hn4
  generalize hN : W + H = N at *
  have HN := Lib.hid hN
  generalize abM W H bs = ab at *
  clear hN h1 h2
  go_enter Try.func18, Try.ntmps18
  go_wp2_with fail
  refine (HS.out _).mono ?_
  rintro r w1 ⟨rfl, E, d, rfl⟩
  unfold webV
  go_wp2_with fail
  have hC0 : IsCloth ((extW ((w.alloc (.cells #[.int .i64 (W), .int .i64 (H), .slice a n c] 26)).alloc (.cells #[.int .i64 (W), .int .i64 (H), .slice a n c] 26)) E d).alloc (.cells #[.int .i64 (W), .int .i64 (N), .func (.func 81) #[] #[.pointer (some ⟨w.heap.size+1, 0, none⟩)]] 67)) (w.heap.size+1) W H a n c bs := ⟨by simp [go_sem], by simp [go_sem], by simp [go_sem], HI.out.below (by repeat (first | exact Below.refl _ _ | refine Below.drew ?_ | refine below_drewN ?_ _ | refine Below.alloc ?_ (by first | exact Nat.le_refl _ | (simp; done) | (simp; omega) | omega) _ | refine Below.setCell ?_ (by first | exact Nat.le_refl _ | (simp; done) | (simp; omega) | omega) _ | refine bExtW ?_ (by first | exact Nat.le_refl _ | (simp; done) | (simp; omega) | omega) | refine Below.trans ?_ (Below.mono (by assumption) (by first | exact Nat.le_refl _ | (simp; done) | (simp; omega) | omega))))⟩
  have hw0 : ((extW ((w.alloc (.cells #[.int .i64 (W), .int .i64 (H), .slice a n c] 26)).alloc (.cells #[.int .i64 (W), .int .i64 (H), .slice a n c] 26)) E d).alloc (.cells #[.int .i64 (W), .int .i64 (N), .func (.func 81) #[] #[.pointer (some ⟨w.heap.size+1, 0, none⟩)]] 67)).cell? ⟨w.heap.size+1+1+E.size, 0, none⟩ = some (.int .i64 (W)) := by simp [go_sem]
  have hw1 : ((extW ((w.alloc (.cells #[.int .i64 (W), .int .i64 (H), .slice a n c] 26)).alloc (.cells #[.int .i64 (W), .int .i64 (H), .slice a n c] 26)) E d).alloc (.cells #[.int .i64 (W), .int .i64 (N), .func (.func 81) #[] #[.pointer (some ⟨w.heap.size+1, 0, none⟩)]] 67)).cell? ⟨w.heap.size+1+1+E.size, 1, none⟩ = some (.int .i64 (N)) := by simp [go_sem]
  have hw2 : ((extW ((w.alloc (.cells #[.int .i64 (W), .int .i64 (H), .slice a n c] 26)).alloc (.cells #[.int .i64 (W), .int .i64 (H), .slice a n c] 26)) E d).alloc (.cells #[.int .i64 (W), .int .i64 (N), .func (.func 81) #[] #[.pointer (some ⟨w.heap.size+1, 0, none⟩)]] 67)).cell? ⟨w.heap.size+1+1+E.size, 2, none⟩ = some (.func (.func 81) #[] #[.pointer (some ⟨w.heap.size+1, 0, none⟩)]) := by simp [go_sem]
  have hB0 : Below w.heap.size w ((extW ((w.alloc (.cells #[.int .i64 (W), .int .i64 (H), .slice a n c] 26)).alloc (.cells #[.int .i64 (W), .int .i64 (H), .slice a n c] 26)) E d).alloc (.cells #[.int .i64 (W), .int .i64 (N), .func (.func 81) #[] #[.pointer (some ⟨w.heap.size+1, 0, none⟩)]] 67)) := (by repeat (first | exact Below.refl _ _ | refine Below.drew ?_ | refine below_drewN ?_ _ | refine Below.alloc ?_ (by first | exact Nat.le_refl _ | (simp; done) | (simp; omega) | omega) _ | refine Below.setCell ?_ (by first | exact Nat.le_refl _ | (simp; done) | (simp; omega) | omega) _ | refine bExtW ?_ (by first | exact Nat.le_refl _ | (simp; done) | (simp; omega) | omega) | refine Below.trans ?_ (Below.mono (by assumption) (by first | exact Nat.le_refl _ | (simp; done) | (simp; omega) | omega))))
  generalize ((extW ((w.alloc (.cells #[.int .i64 (W), .int .i64 (H), .slice a n c] 26)).alloc (.cells #[.int .i64 (W), .int .i64 (H), .slice a n c] 26)) E d).alloc (.cells #[.int .i64 (W), .int .i64 (N), .func (.func 81) #[] #[.pointer (some ⟨w.heap.size+1, 0, none⟩)]] 67)) = W0 at *
  generalize w.heap.size+1+1+E.size = wb at *
  generalize htb : w.heap.size+1 = tb at *
  have HTB := Lib.hid htb
  have HB0 := Lib.hid hB0
  have HC0 := Lib.hid hC0
  clear htb hB0 hC0 HI
  go_loopw [20] (fun i wr => ∃ s : Nat, s ≤ N ∧ i = .int .i64 s ∧ Below W0.heap.size W0 wr ∧ Hid (∀ x, x < s → ¬ cnt N (fun a => wp ab N a x) < N)) (fun i _ => N - (intOf i).toNat)
  case atStart => exact ⟨0, Nat.zero_le _, rfl, Below.refl _ _, Lib.hid (by omega)⟩
  case round =>
    obtain ⟨s, hs, rfl, hbel, HM⟩ := hrel
    by_cases hsN : s < N
    · have c0 := bCs hbel hw0; have c1 := bCs hbel hw1; have c2 := bCs hbel hw2
      have HCl := Lib.hid (HC0.out.below hbel)
      have HB := Lib.hid hbel
      clear hbel
      go_wp2_with fail
      refine (HOv.out tb _ HCl.out s hsN).mono ?_
      rintro r w1 ⟨rfl, hrow, hb1⟩
      have d1 := bCs hb1 c1
      have hz1 : Below W0.heap.size W0 w1 := HB.out.trans (hb1.mono HB.out.size)
      have HR := Lib.hid hrow
      have HB1 := Lib.hid hz1
      have hgl := hrow.lt
      generalize wr.heap.size + 1 = g at *
      clear hrow hb1 hz1 c0 c1 c2
      go_wp2_with fail
      go_loopw [27, 7] (fun i v wq => ∃ k : Nat, k ≤ N ∧ i = .int .i64 k ∧ wq.ownsRow w1.heap.size 3 1 v ((List.range k).filter (fun a => wp ab N a s)).length (natV ((List.range k).filter (fun a => wp ab N a s))) ∧ Below w1.heap.size w1 wq) (fun i _ _ => N - (intOf i).toNat)
      case atStart => exact ⟨0, Nat.zero_le _, rfl, World.ownsRow_nil _ _ _ _, Below.refl _ _⟩
      case round =>
        obtain ⟨k, hk, rfl, hown, hbq⟩ := hrel
        have hkl := cnt_le k (fun a => wp ab N a s)
        unfold cnt at hkl
        by_cases hkN : k < N
        · have c0 := bCs hbq (HR.out.cell hkN)
          have HF := Lib.hid (filter_snoc k (fun a => wp ab N a s))
          have HO := Lib.hid hown
          have HBQ := Lib.hid hbq
          have hsz := hbq.size
          clear hown hbq d1
          generalize (List.range k).filter (fun a => wp ab N a s) = L at *
          cases hf : wp ab N k s with
          | false =>
            rw [hf] at c0
            have HFk := Lib.hid hf
            clear hf
            go_wp2
            go_roundw
            case rel => exact ⟨k + 1, by omega, by go_num, by rw [HF.out, HFk.out]; simpa using HO.out, HBQ.out⟩
            case measure => simp [intOf]; omega
          | true =>
            rw [hf] at c0
            have HFk := Lib.hid hf
            clear hf
            go_wp2_with (at_builtin; refine wpApp okInts' rfl (.tmp 33) (.tmp 35) rfl w1.heap.size _ _ _ #[.int .i64 k] rfl HO.out rfl rfl ?_ (by omega) (by omega) hsz ?_)
            · simp [Value.oneCell']
            intro v' w2 hown2 hb2
            have HB2 := Lib.hid (HBQ.out.trans hb2)
            have HO2 := Lib.hid hown2
            clear hown2 hb2 c0
            go_wp2
            go_roundw
            case rel => exact ⟨k + 1, by omega, by go_num, by rw [HF.out, HFk.out]; simp only [if_true]; rw [natV_snoc, List.length_append]; exact HO2.out, HB2.out⟩
            case measure => simp [intOf]; omega
        · obtain rfl : k = N := by omega
          have e1 := bCs hbq d1
          obtain ⟨A, cp, rfl⟩ := own_form hown
          have HO := Lib.hid hown
          have HBQ := Lib.hid hbq
          have hBB : Below W0.heap.size W0 wr := HB1.out.trans (hbq.mono HB1.out.size)
          have HBB := Lib.hid hBB
          clear hown hbq hBB d1
          by_cases hlt : ((List.range k).filter (fun a => wp ab k a s)).length < k
          · have HL := Lib.hid (lift_some hsN hlt HM.out)
            generalize hLL : (List.range k).filter (fun a => wp ab k a s) = L at *
            clear hLL
            go_wp2
            go_ret2
            obtain ⟨A', c', e, hI⟩ := IsInts.of_owns (zs := natI L) (n := L.length) (by simp [natI]) (by rw [natI_map]; exact HO.out)
            injection e with e1 _ e3
            subst e1
            unfold LiftPost
            rw [HL.out]
            exact ⟨A, cp, rfl, hI, HB0.out.trans (HBB.out.mono HB0.out.size)⟩
          · have HN1 : Hid (∀ x, x < s + 1 → ¬ cnt k (fun a => wp ab k a x) < k) := Lib.hid (by
              intro x hx
              by_cases e : x = s
              · subst e; exact hlt
              · exact HM.out x (by omega))
            generalize (List.range k).filter (fun a => wp ab k a s) = L at *
            go_wp2
            go_roundw
            case rel => exact ⟨s + 1, by omega, by go_num, HBB.out, HN1⟩
            case measure => simp [intOf]; omega
    · obtain rfl : s = N := by omega
      have HL := Lib.hid (lift_none HM.out)
      have HB := Lib.hid hbel
      clear hbel
      go_wp2
      go_ret2
      unfold LiftPost
      rw [HL.out]
      exact ⟨none, 0, rfl, ⟨rfl, fun h => by simp at h⟩, HB0.out.trans (HB.out.mono HB0.out.size)⟩
end Go.Proofs.Ytikddfjickkhhaa
