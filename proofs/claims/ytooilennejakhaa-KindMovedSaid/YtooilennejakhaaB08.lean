/- Lemmas and contracts of functions (what each call returns, and that it changes nothing that was there) that the proof of a law of this seat uses; each lemma states its own conditions. -/
import Derived.Test.YtooilennejakhaaB06
import Derived.Test.YtooilennejakhaaB07
import Derived.WalkSmall
namespace Go.Proofs.Ytooilennejakhaa
open Go.RowKit
set_option linter.unusedVariables false
set_option linter.unusedSimpArgs false
/-- A list of truths: at address a (of no account where the list is empty). -/
def IsBools (w : World) (a : Option Addr) (n : Nat) (bs : List Bool) : Prop :=
  bs.length = n ∧ (0 < n → ∃ b o, a = some ⟨b, o, none⟩ ∧ b < w.heap.size ∧ ∀ j, j < n → w.cell? ⟨b, o + j, none⟩ = some (.bool (bs.getD j false)))
theorem IsBools.below {w w' : World} {a : Option Addr} {n : Nat} {bs : List Bool} (h : IsBools w a n bs) (hb : Below w.heap.size w w') : IsBools w' a n bs := by
  refine ⟨h.1, fun hn => ?_⟩
  obtain ⟨b, o, h1, h2, h3⟩ := h.2 hn
  exact ⟨b, o, h1, Nat.lt_of_lt_of_le h2 hb.size, fun j hj => bCs hb (h3 j hj)⟩
theorem IsBools.of_owns {w : World} {base : Nat} {v : Value} {n : Nat} {bs : List Bool} (hn : bs.length = n) (h : w.ownsRow base 4 1 v n (bs.map Value.bool)) : ∃ a c, v = .slice a n c ∧ IsBools w a n bs := by
  rcases h.2 with ⟨rfl, rfl⟩ | ⟨g, cap, cur, rfl, _⟩
  · exact ⟨none, 0, rfl, hn, fun h => by omega⟩
  · refine ⟨some ⟨g, 0, none⟩, cap, rfl, hn, fun hp => ⟨g, 0, rfl, ?_, fun j hj => ?_⟩⟩
    · have h0 := h.cellAt 0 (by omega)
      rw [List.getElem?_map, List.getElem?_eq_getElem (by omega : 0 < bs.length)] at h0
      exact World.block_lt_of_cell? w _ h0
    · have h0 := h.cellAt j (by omega)
      rw [Nat.zero_add, h0, List.getElem?_map, List.getElem?_eq_getElem (by omega : j < bs.length)]
      simp [List.getD, List.getElem?_eq_getElem (by omega : j < bs.length)]
theorem IsInts.of_owns {w : World} {base : Nat} {v : Value} {n : Nat} {zs : List Int} (hn : zs.length = n) (h : w.ownsRow base 3 1 v n (zs.map (Value.int .i64))) : ∃ a c, v = .slice a n c ∧ IsInts w a n zs := by
  rcases h.2 with ⟨rfl, rfl⟩ | ⟨g, cap, cur, rfl, _⟩
  · exact ⟨none, 0, rfl, hn, fun h => by omega⟩
  · refine ⟨some ⟨g, 0, none⟩, cap, rfl, hn, fun hp => ⟨g, 0, rfl, ?_, fun j hj => ?_⟩⟩
    · have h0 := h.cellAt 0 (by omega)
      rw [List.getElem?_map, List.getElem?_eq_getElem (by omega : 0 < zs.length)] at h0
      exact World.block_lt_of_cell? w _ h0
    · have h0 := h.cellAt j (by omega)
      rw [Nat.zero_add, h0, List.getElem?_map, List.getElem?_eq_getElem (by omega : j < zs.length)]
      simp [List.getD, List.getElem?_eq_getElem (by omega : j < zs.length)]
theorem IsBools.of_row {w : World} {g n : Nat} {bs : List Bool} (hn : bs.length = n) (h : w.rowIs g 4 n (fun j => .bool (bs.getD j false))) : IsBools w (some ⟨g, 0, none⟩) n bs :=
  ⟨hn, fun _ => ⟨g, 0, rfl, h.lt, fun j hj => by rw [Nat.zero_add]; exact h.cell hj⟩⟩
theorem okBools : ElemOk 89 4 1 1 (.bool false) := ⟨Try.underlying89, by kernel_rfl, rfl, by omega⟩
theorem okInts' : ElemOk 22 3 1 8 (.int .i64 0) := ⟨Try.underlying22, by kernel_rfl, rfl, by omega⟩
/-- What is wrong with truths of this width and height and so many bits. -/
def wrT (W H : Int) (n : Nat) : Int := if W < 0 ∨ 64 < W ∨ H < 0 ∨ 64 < H then 3 else if (n : Int) ≠ W * H then 8 else 0
theorem wrT_zero {W H : Int} {n : Nat} (h : wrT W H n = 0) : ∃ W' H' : Nat, W = W' ∧ H = H' ∧ W' ≤ 64 ∧ H' ≤ 64 ∧ n = W' * H' := by
  unfold wrT at h
  split at h
  · omega
  · split at h
    · omega
    · rename_i h1 h2
      refine ⟨W.toNat, H.toNat, by omega, by omega, by omega, by omega, ?_⟩
      have e : ((W.toNat * H.toNat : Nat) : Int) = W * H := by rw [Int.natCast_mul, Int.toNat_of_nonneg (by omega), Int.toNat_of_nonneg (by omega)]
      omega
theorem mul64 {W H : Int} (h : ¬ (W < 0 ∨ 64 < W ∨ H < 0 ∨ 64 < H)) : 0 ≤ W * H ∧ W * H ≤ 4096 := by
  have h1 : 0 ≤ W * H := Int.mul_nonneg (by omega) (by omega)
  have h2 : W * H ≤ 64 * 64 := Int.mul_le_mul (by omega) (by omega) (by omega) (by omega)
  omega
end Go.Proofs.Ytooilennejakhaa
