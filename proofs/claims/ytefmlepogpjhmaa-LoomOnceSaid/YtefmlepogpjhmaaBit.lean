/- Lemmas and contracts of functions (what each call returns, and that it changes nothing that was there) that the proof of a law of this seat uses; each lemma states its own conditions. -/
import Derived.Test.YtefmlepogpjhmaaTr
import Derived.IntWalk
namespace Go.Proofs.Ytefmlepogpjhmaa
open Go.RowKit
set_option linter.unusedVariables false
set_option linter.unusedSimpArgs false
set_option maxRecDepth 100000 in
set_option maxHeartbeats 8000000 in
theorem rBit_ok (W H n : Nat) (a : Option Addr) (c : Nat) (bs : List Bool) (w : World) (hI : IsBools w a n bs) (y x p : Nat) (hp : y * W + x = p) (hlt : p < n) (hn : n ≤ 4096) (hx : x ≤ 4096) (hy : y ≤ 4096) (hW : W ≤ 4096) :
    Calls Try.prog 21 #[.agg #[.int .i64 (W), .int .i64 (H), .slice a n c], .int .i64 (y), .int .i64 (x)] w fun e w' => e = .returned (.bool (bs.getD p false)) ∧ Below w.heap.size w w' := by
  obtain ⟨b, o, rfl, hb, hc⟩ := hI.2 (by omega)
  have cb := hc p hlt
  obtain ⟨M, hM⟩ : ∃ M, y * W = M := ⟨_, rfl⟩
  have hmul : (y : Int) * (W : Int) = (M : Int) := by rw [← Int.natCast_mul, hM]
  have hadd : (M : Int) + (x : Int) = (p : Int) := by omega
  have v1 : IntKind.i64.wrap (M : Int) = (M : Int) := IntWalk.i64_in _ (by omega)
  have v2 : IntKind.i64.wrap (p : Int) = (p : Int) := IntWalk.i64_in _ (by omega)
  have g0 : (0 : Int) ≤ (p : Int) := by omega
  have g1 : (p : Int) < (n : Int) := by omega
  generalize bs.getD p false = bit at *
  have lb : LtW b w := hb
  clear hc hI hp hM hb
  go_enter Try.func21, Try.ntmps21
  go_wp2
  go_ret
  exact ⟨rfl, (by repeat (first | exact Below.refl _ _ | refine Below.drew ?_ | refine below_drewN ?_ _ | refine Below.alloc ?_ (by first | exact Nat.le_refl _ | (simp; done) | (simp; omega) | omega) _ | refine Below.setCell ?_ (by first | exact Nat.le_refl _ | (simp; done) | (simp; omega) | omega) _ | refine bExtW ?_ (by first | exact Nat.le_refl _ | (simp; done) | (simp; omega) | omega) | refine Below.trans ?_ (Below.mono (by assumption) (by first | exact Nat.le_refl _ | (simp; done) | (simp; omega) | omega))))⟩
end Go.Proofs.Ytefmlepogpjhmaa
