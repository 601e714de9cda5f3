/- Lemmas and contracts of functions (what each call returns, and that it changes nothing that was there) that the proof of a law of this seat uses; each lemma states its own conditions. -/
import Derived.Test.YtikddfjickkhhaaTr
import Derived.Laws.Entries
import Derived.Test.YtikddfjickkhhaaClM
namespace Go.Proofs.Ytikddfjickkhhaa
open Go.RowKit
set_option linter.unusedVariables false
set_option linter.unusedSimpArgs false
open Cl
@[go_sem] theorem run_store_nilFunc (P : Program) (w : World) (a : Addr) (m : Mode) : (store a .nilFunc m).run P w = stored P w a .nilFunc m := run_store P w a _ m rfl
@[go_sem] theorem run_store_func (P : Program) (w : World) (a : Addr) (m : Mode) (fn : Fn) (x y : Array Value) : (store a (.func fn x y) m).run P w = stored P w a (.func fn x y) m := run_store P w a _ m rfl
/-- What is wrong with a cloth. -/
def wrC (W H : Int) (n : Nat) : Int := if wrT W H n ≠ 0 then wrT W H n else if n = 0 then 5 else 0
/-- Block tb holds a cloth's truths. -/
structure IsCloth (w : World) (tb W H : Nat) (a : Option Addr) (n c : Nat) (bs : List Bool) : Prop where
  c0 : w.cell? ⟨tb, 0, none⟩ = some (.int .i64 (W))
  c1 : w.cell? ⟨tb, 1, none⟩ = some (.int .i64 (H))
  c2 : w.cell? ⟨tb, 2, none⟩ = some (.slice a n c)
  bits : IsBools w a n bs
theorem IsCloth.below {w w' : World} {tb W H : Nat} {a : Option Addr} {n c : Nat} {bs : List Bool} (h : IsCloth w tb W H a n c bs) (hb : Below w.heap.size w w') : IsCloth w' tb W H a n c bs :=
  ⟨bCs hb h.c0, bCs hb h.c1, bCs hb h.c2, h.bits.below hb⟩
set_option maxRecDepth 100000 in
set_option maxHeartbeats 8000000 in
theorem spun_bad (W H : Int) (a : Option Addr) (n c : Nat) (w : World) (h1 : (-9223372036854775808 ≤ W ∧ W ≤ 9223372036854775807)) (h2 : (-9223372036854775808 ≤ H ∧ H ≤ 9223372036854775807)) (h3 : n ≤ 9223372036854775807) (he : wrC W H n ≠ 0) :
    Calls Try.prog 58 #[.agg #[.int .i64 (W), .int .i64 (H), .slice a n c]] w fun e w' => e = .returned (.tuple #[.agg #[.int .i64 0, .int .i64 0, .nilFunc], .int .i64 (wrC W H n)]) ∧ Below w.heap.size w w' := by
  by_cases hq : wrT W H n = 0
  · have hn : n = 0 := by unfold wrC at he; simp [hq] at he; exact he
    subst hn
    have HT : Hid (wrC W H 0 = 5) := Lib.hid (by simp [wrC, hq])
    have HE := Lib.hid hq
    clear he hq
    go_enter Try.func58, Try.ntmps58
    (go_wp2_with fail; refine (tWrong_any W H a 0 c _ h1 h2 h3).mono ?_; rintro r w1 ⟨rfl, hb⟩; obtain ⟨E, d, rfl⟩ := bExt hb; clear hb)
    rw [HE.out]
    go_wp2
    refine bodyPost_ret (v := .tuple #[.agg #[.int .i64 0, .int .i64 0, .nilFunc], .int .i64 (5)]) (by simp [results, Try.results58, go_sem]) rfl ⟨by rw [HT.out], (by repeat (first | exact Below.refl _ _ | refine Below.drew ?_ | refine below_drewN ?_ _ | refine Below.alloc ?_ (by first | exact Nat.le_refl _ | (simp; done) | (simp; omega) | omega) _ | refine Below.setCell ?_ (by first | exact Nat.le_refl _ | (simp; done) | (simp; omega) | omega) _ | refine bExtW ?_ (by first | exact Nat.le_refl _ | (simp; done) | (simp; omega) | omega) | refine Below.trans ?_ (Below.mono (by assumption) (by first | exact Nat.le_refl _ | (simp; done) | (simp; omega) | omega))))⟩
  · have hb : (wrT W H n != 0) = true := by simpa using hq
    have HT : Hid (wrC W H n = wrT W H n) := Lib.hid (by simp [wrC, hq])
    clear he hq
    go_enter Try.func58, Try.ntmps58
    (go_wp2_with fail; refine (tWrong_any W H a n c _ h1 h2 h3).mono ?_; rintro r w1 ⟨rfl, hb⟩; obtain ⟨E, d, rfl⟩ := bExt hb; clear hb)
    go_wp2
    refine bodyPost_ret (v := .tuple #[.agg #[.int .i64 0, .int .i64 0, .nilFunc], .int .i64 (wrT W H n)]) (by simp [results, Try.results58, go_sem]) rfl ⟨by rw [HT.out], (by repeat (first | exact Below.refl _ _ | refine Below.drew ?_ | refine below_drewN ?_ _ | refine Below.alloc ?_ (by first | exact Nat.le_refl _ | (simp; done) | (simp; omega) | omega) _ | refine Below.setCell ?_ (by first | exact Nat.le_refl _ | (simp; done) | (simp; omega) | omega) _ | refine bExtW ?_ (by first | exact Nat.le_refl _ | (simp; done) | (simp; omega) | omega) | refine Below.trans ?_ (Below.mono (by assumption) (by first | exact Nat.le_refl _ | (simp; done) | (simp; omega) | omega))))⟩
theorem wrC_zero {W H : Int} {n : Nat} (h : wrC W H n = 0) : wrT W H n = 0 ∧ 0 < n := by
  unfold wrC at h
  split at h
  · exact absurd h (by assumption)
  · rename_i h1
    split at h
    · omega
    · exact ⟨Decidable.not_not.1 h1, by omega⟩
def webV (tb W n : Nat) : Value := .agg #[.int .i64 (W), .int .i64 (n), .func (.func 81) #[] #[.pointer (some ⟨tb, 0, none⟩)]]
set_option maxRecDepth 100000 in
set_option maxHeartbeats 8000000 in
theorem spun_ok (W H : Nat) (a : Option Addr) (n c : Nat) (w : World) (h1 : W ≤ 64) (h2 : H ≤ 64) (h3 : n ≤ 4096) (he : wrC W H n = 0) :
    Calls Try.prog 58 #[.agg #[.int .i64 (W), .int .i64 (H), .slice a n c]] w fun e w' => e = .returned (.tuple #[webV w.heap.size W (W+H), .int .i64 (0)]) ∧ ∃ E d, w' = extW (w.alloc (.cells #[.int .i64 (W), .int .i64 (H), .slice a n c] 26)) E d := by
  obtain ⟨hq, hn⟩ := wrC_zero he
  have HE := Lib.hid hq
  clear hq he
  have hmf : ∀ (fn : Fn) (first cap : Array Value) (w : World), (Instr.makeFunc fn first cap).run Try.prog w = .ok (.func fn first cap) w := fun _ _ _ _ => rfl
  have hn0 : ((n : Int) == 0) = false := by simp; omega
  go_enter Try.func58, Try.ntmps58
  (go_wp2_with fail; refine (tWrong_any W H a n c _ (by omega) (by omega) (by omega)).mono ?_; rintro r w1 ⟨rfl, hb⟩; obtain ⟨E, d, rfl⟩ := bExt hb; clear hb)
  rw [HE.out]
  go_wp2
  refine bodyPost_ret (v := .tuple #[webV w.heap.size W (W+H), .int .i64 (0)]) (by simp [results, Try.results58, go_sem, webV]) rfl ⟨rfl, (by repeat (first | exact ExtOf.rf _ | refine ExtOf.al ?_ _ | refine ExtOf.ex ?_ _ _))⟩
set_option maxRecDepth 100000 in
set_option maxHeartbeats 8000000 in
theorem above_any (tb W H : Nat) (a : Option Addr) (n c : Nat) (bs : List Bool) (w : World) (h : IsCloth w tb W H a n c bs) (h1 : W ≤ 64) (h2 : H ≤ 64) (hn : n = W * H) (i j : Nat) (hi : i < W + H) (hj : j < W + H) :
    Calls Try.prog 81 #[.int .i64 (i), .int .i64 (j), .pointer (some ⟨tb, 0, none⟩)] w fun e w' => e = .returned (.bool (abM W H bs i j)) ∧ w = w' := by
  obtain ⟨c0, c1, c2, hl, hb⟩ := h
  have hn4 : n ≤ 4096 := by rw [hn]; exact Nat.le_trans (Nat.mul_le_mul h1 h2) (by omega)
  by_cases hiw : i < W
  · by_cases hjw : W ≤ j
    · have hp := place_lt (W := W) (H := H) (x := i) (y := j - W) hiw (by omega)
      obtain ⟨m, hm⟩ : ∃ m, (j - W) * W = m := ⟨_, rfl⟩
      rw [← hn, hm] at hp
      have hmul : ((j : Int) - (W : Int)) * (W : Int) = (m : Int) := by
        have e : ((j - W : Nat) : Int) = (j : Int) - W := by omega
        rw [← e, ← Int.natCast_mul, hm]
      obtain ⟨b, o, rfl, hbl, hc⟩ := hb (by omega)
      have c3 := hc (m + i) hp
      have hT : abM W H bs i j = bs.getD (m + i) false := by unfold abM; rw [if_pos ⟨hiw, hjw, hj⟩, hm]
      have HT := Lib.hid hT
      have HN := Lib.hid hn
      clear hT hn hc hb hm hl
      generalize bs.getD (m + i) false = v at *
      go_enter Try.func81, Try.ntmps81
      go_wp2
      go_ret
      exact ⟨by rw [HT.out]; rfl, rfl⟩
    · have hT : abM W H bs i j = false := by unfold abM; rw [if_neg (by omega), if_neg (by omega)]
      have HT := Lib.hid hT
      have HN := Lib.hid hn
      clear hT hn hb hl
      go_enter Try.func81, Try.ntmps81
      go_wp2
      go_ret
      exact ⟨by rw [HT.out]; rfl, rfl⟩
  · by_cases hjw : W ≤ j
    · have hT : abM W H bs i j = false := by unfold abM; rw [if_neg (by omega), if_neg (by omega)]
      have HT := Lib.hid hT
      have HN := Lib.hid hn
      clear hT hn hb hl
      go_enter Try.func81, Try.ntmps81
      go_wp2
      go_ret
      exact ⟨by rw [HT.out]; rfl, rfl⟩
    · have hp := place_lt (W := W) (H := H) (x := j) (y := i - W) (by omega) (by omega)
      have hiw' : W ≤ i := by omega
      obtain ⟨m, hm⟩ : ∃ m, (i - W) * W = m := ⟨_, rfl⟩
      rw [← hn, hm] at hp
      have hmul : ((i : Int) - (W : Int)) * (W : Int) = (m : Int) := by
        have e : ((i - W : Nat) : Int) = (i : Int) - W := by omega
        rw [← e, ← Int.natCast_mul, hm]
      obtain ⟨b, o, rfl, hbl, hc⟩ := hb (by omega)
      have c3 := hc (m + j) hp
      have hT : abM W H bs i j = !bs.getD (m + j) false := by unfold abM; rw [if_neg (by omega), if_pos ⟨by omega, hi, by omega⟩, hm]
      have HT := Lib.hid hT
      have HN := Lib.hid hn
      clear hT hn hc hb hm hl
      generalize bs.getD (m + j) false = v at *
      go_enter Try.func81, Try.ntmps81
      go_wp2
      go_ret
      exact ⟨by rw [HT.out]; rfl, rfl⟩
end Go.Proofs.Ytikddfjickkhhaa
