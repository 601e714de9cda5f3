/- Chapter 10: bits that are the same; the law of a loom, step by step: the walk. -/
import Derived.Test.YtefmlepogpjhmaaLm16
namespace Go.Proofs.Ytefmlepogpjhmaa
open Go.RowKit
set_option linter.unusedVariables false
set_option linter.unusedSimpArgs false
open Lm
set_option maxRecDepth 100000 in
set_option maxHeartbeats 8000000 in
theorem SameBits_ok (A : Option Addr) (n c : Nat) (A2 : Option Addr) (c2 : Nat) (bs : List Bool) (w : World) (h1 : IsBools w A n bs) (h2 : IsBools w A2 n bs) (hn : n ≤ 9223372036854775807) :
    Calls Try.prog 7 #[.slice A n c, .slice A2 n c2] w fun e w' => e = .returned (.bool true) ∧ Below w.heap.size w w' := by
  have H1 := Lib.hid h1; have H2 := Lib.hid h2
  clear h1 h2
  go_enter Try.func7, Try.ntmps7
  go_wp2_with fail
  go_loopw [13] (fun iv wr => ∃ i : Nat, i ≤ n ∧ iv = .int .i64 i ∧ Hid (Below w.heap.size w wr)) (fun iv _ => n - (intOf iv).toNat)
  case atStart => exact ⟨0, by omega, rfl, Lib.hid (Below.refl _ _)⟩
  case round =>
    obtain ⟨i, hi, rfl, HB⟩ := hrel
    by_cases hin : i < n
    · obtain ⟨b, o, rfl, hb, hc⟩ := (H1.out.below HB.out).2 (by omega)
      obtain ⟨b2, o2, rfl, hb2, hc2⟩ := (H2.out.below HB.out).2 (by omega)
      have k1 := hc i hin; have k2 := hc2 i hin
      have l1 : LtW b wr := hb
      have l2 : LtW b2 wr := hb2
      have dk : decide ((i : Int) < (n : Int)) = true := by simp; omega
      have dk' : decide (i < n) = true := by simpa using hin
      clear hc hc2 hb hb2
      generalize bs.getD i false = y at *
      go_wp2_with fail
      (refine wp_region_ext (by kernel_rfl) (by kernel_rfl) ?_; (repeat (first | ((with_reducible refine ext_step (fun K hK => ?_)); go_simp; first | (refine hK _ ?_; clear hK K) | (apply Exists.intro; refine ⟨fun _ _ => ?_, hK _ ?_⟩; fail; clear hK K)))); refine wpQuiet_nil ?_; intro E d)
      have HB2 : Hid (Below w.heap.size w (extW wr E d)) := Lib.hid (bExtW HB.out HB.out.size)
      clear HB k1 k2
      generalize extW wr E d = w5 at *
      go_wp2
      go_roundw
      case rel => exact ⟨i + 1, by omega, by go_num, HB2⟩
      case measure => simp [intOf]; omega
    · obtain rfl : i = n := by omega
      have dk : decide ((i : Int) < (i : Int)) = false := by simp
      go_wp2
      go_ret
      exact ⟨rfl, HB.out⟩
end Go.Proofs.Ytefmlepogpjhmaa
