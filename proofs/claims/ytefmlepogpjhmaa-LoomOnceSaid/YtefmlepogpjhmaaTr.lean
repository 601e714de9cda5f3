/- Truths in memory; what is wrong with them. -/
import Derived.Test.YtefmlepogpjhmaaOwn
import Derived.Test.YtefmlepogpjhmaaEo
import Derived.WalkSmall
namespace Go.Proofs.Ytefmlepogpjhmaa
open Go.RowKit
set_option linter.unusedVariables false
set_option linter.unusedSimpArgs false
/-- A list of truths: at address a (of no account where the list is empty). -/
def IsBools (w : World) (a : Option Addr) (n : Nat) (bs : List Bool) : Prop :=
  bs.length = n ∧ (0 < n → ∃ b o, a = some ⟨b, o, none⟩ ∧ b < w.heap.size ∧ ∀ j, j < n → w.cell? ⟨b, o + j, none⟩ = some (.bool (bs.getD j false)))
theorem IsBools.below {w w' : World} {a : Option Addr} {n : Nat} {bs : List Bool} (h : IsBools w a n bs) (hb : Below w.heap.size w w') : IsBools w' a n bs := by
  refine ⟨h.1, fun hn => ?_⟩
  obtain ⟨b, o, h1, h2, h3⟩ := h.2 hn
  exact ⟨b, o, h1, Nat.lt_of_lt_of_le h2 hb.size, fun j hj => bCs hb (h3 j hj)⟩
theorem IsBools.of_owns {w : World} {base : Nat} {v : Value} {n : Nat} {bs : List Bool} (hn : bs.length = n) (h : w.ownsRow base 4 1 v n (bs.map Value.bool)) : ∃ a c, v = .slice a n c ∧ IsBools w a n bs := by
  rcases h.2 with ⟨rfl, rfl⟩ | ⟨g, cap, cur, rfl, _⟩
  · exact ⟨none, 0, rfl, hn, fun h => by omega⟩
  · refine ⟨some ⟨g, 0, none⟩, cap, rfl, hn, fun hp => ⟨g, 0, rfl, ?_, fun j hj => ?_⟩⟩
    · have h0 := h.cellAt 0 (by omega)
      rw [List.getElem?_map, List.getElem?_eq_getElem (by omega : 0 < bs.length)] at h0
      exact World.block_lt_of_cell? w _ h0
    · have h0 := h.cellAt j (by omega)
      rw [Nat.zero_add, h0, List.getElem?_map, List.getElem?_eq_getElem (by omega : j < bs.length)]
      simp [List.getD, List.getElem?_eq_getElem (by omega : j < bs.length)]
theorem IsInts.of_owns {w : World} {base : Nat} {v : Value} {n : Nat} {zs : List Int} (hn : zs.length = n) (h : w.ownsRow base 3 1 v n (zs.map (Value.int .i64))) : ∃ a c, v = .slice a n c ∧ IsInts w a n zs := by
  rcases h.2 with ⟨rfl, rfl⟩ | ⟨g, cap, cur, rfl, _⟩
  · exact ⟨none, 0, rfl, hn, fun h => by omega⟩
  · refine ⟨some ⟨g, 0, none⟩, cap, rfl, hn, fun hp => ⟨g, 0, rfl, ?_, fun j hj => ?_⟩⟩
    · have h0 := h.cellAt 0 (by omega)
      rw [List.getElem?_map, List.getElem?_eq_getElem (by omega : 0 < zs.length)] at h0
      exact World.block_lt_of_cell? w _ h0
    · have h0 := h.cellAt j (by omega)
      rw [Nat.zero_add, h0, List.getElem?_map, List.getElem?_eq_getElem (by omega : j < zs.length)]
      simp [List.getD, List.getElem?_eq_getElem (by omega : j < zs.length)]
theorem IsBools.of_row {w : World} {g n : Nat} {bs : List Bool} (hn : bs.length = n) (h : w.rowIs g 4 n (fun j => .bool (bs.getD j false))) : IsBools w (some ⟨g, 0, none⟩) n bs :=
  ⟨hn, fun _ => ⟨g, 0, rfl, h.lt, fun j hj => by rw [Nat.zero_add]; exact h.cell hj⟩⟩
theorem okBools : ElemOk 22 4 1 1 (.bool false) := ⟨Try.underlying22, by kernel_rfl, rfl, by omega⟩
theorem okInts' : ElemOk 37 3 1 8 (.int .i64 0) := ⟨Try.underlying37, by kernel_rfl, rfl, by omega⟩
/-- What is wrong with truths of this width and height and so many bits. -/
def wrT (W H : Int) (n : Nat) : Int := if W < 0 ∨ 64 < W ∨ H < 0 ∨ 64 < H then 3 else if (n : Int) ≠ W * H then 8 else 0
theorem wrT_zero {W H : Int} {n : Nat} (h : wrT W H n = 0) : ∃ W' H' : Nat, W = W' ∧ H = H' ∧ W' ≤ 64 ∧ H' ≤ 64 ∧ n = W' * H' := by
  unfold wrT at h
  split at h
  · omega
  · split at h
    · omega
    · rename_i h1 h2
      refine ⟨W.toNat, H.toNat, by omega, by omega, by omega, by omega, ?_⟩
      have e : ((W.toNat * H.toNat : Nat) : Int) = W * H := by rw [Int.natCast_mul, Int.toNat_of_nonneg (by omega), Int.toNat_of_nonneg (by omega)]
      omega
theorem mul64 {W H : Int} (h : ¬ (W < 0 ∨ 64 < W ∨ H < 0 ∨ 64 < H)) : 0 ≤ W * H ∧ W * H ≤ 4096 := by
  have h1 : 0 ≤ W * H := Int.mul_nonneg (by omega) (by omega)
  have h2 : W * H ≤ 64 * 64 := Int.mul_le_mul (by omega) (by omega) (by omega) (by omega)
  omega
set_option maxRecDepth 100000 in
set_option maxHeartbeats 8000000 in
theorem tWrong_any (W H : Int) (a : Option Addr) (n c : Nat) (w : World) (h1 : (-9223372036854775808 ≤ W ∧ W ≤ 9223372036854775807)) (h2 : (-9223372036854775808 ≤ H ∧ H ≤ 9223372036854775807)) (h3 : n ≤ 9223372036854775807) :
    Calls Try.prog 25 #[.agg #[.int .i64 (W), .int .i64 (H), .slice a n c]] w fun e w' => e = .returned (.int .i64 (wrT W H n)) ∧ Below w.heap.size w w' := by
  by_cases hr : W < 0 ∨ 64 < W ∨ H < 0 ∨ 64 < H
  · have HT : Hid (wrT W H n = 3) := Lib.hid (by simp only [wrT, hr, if_true])
    rcases (show W < 0 ∨ (0 ≤ W ∧ 64 < W) ∨ (0 ≤ W ∧ W ≤ 64 ∧ H < 0) ∨ (0 ≤ W ∧ W ≤ 64 ∧ 0 ≤ H ∧ 64 < H) by omega) with h | ⟨h, h'⟩ | ⟨h, h', h''⟩ | ⟨h, h', h'', h3⟩
    all_goals
      clear hr
      go_enter Try.func25, Try.ntmps25
      go_wp2
      go_ret
      exact ⟨by rw [HT.out]; rfl, (by repeat (first | exact Below.refl _ _ | refine Below.drew ?_ | refine below_drewN ?_ _ | refine Below.alloc ?_ (by first | exact Nat.le_refl _ | (simp; done) | (simp; omega) | omega) _ | refine Below.setCell ?_ (by first | exact Nat.le_refl _ | (simp; done) | (simp; omega) | omega) _ | refine bExtW ?_ (by first | exact Nat.le_refl _ | (simp; done) | (simp; omega) | omega) | refine Below.trans ?_ (Below.mono (by assumption) (by first | exact Nat.le_refl _ | (simp; done) | (simp; omega) | omega))))⟩
  · have hm := mul64 hr
    have hr' : 0 ≤ W ∧ W ≤ 64 ∧ 0 ≤ H ∧ H ≤ 64 := by omega
    obtain ⟨r1, r2, r3, r4⟩ := hr'
    by_cases he : (n : Int) = W * H
    · have HT : Hid (wrT W H n = 0) := Lib.hid (by simp only [wrT, hr, if_false]; simp [he])
      have hb : ((n : Int) != W * H) = false := by simpa using he
      clear hr he
      go_enter Try.func25, Try.ntmps25
      go_wp2
      go_ret
      exact ⟨by rw [HT.out]; rfl, (by repeat (first | exact Below.refl _ _ | refine Below.drew ?_ | refine below_drewN ?_ _ | refine Below.alloc ?_ (by first | exact Nat.le_refl _ | (simp; done) | (simp; omega) | omega) _ | refine Below.setCell ?_ (by first | exact Nat.le_refl _ | (simp; done) | (simp; omega) | omega) _ | refine bExtW ?_ (by first | exact Nat.le_refl _ | (simp; done) | (simp; omega) | omega) | refine Below.trans ?_ (Below.mono (by assumption) (by first | exact Nat.le_refl _ | (simp; done) | (simp; omega) | omega))))⟩
    · have HT : Hid (wrT W H n = 8) := Lib.hid (by simp only [wrT, hr, if_false]; simp [he])
      have hb : ((n : Int) != W * H) = true := by simpa using he
      clear hr he
      go_enter Try.func25, Try.ntmps25
      go_wp2
      go_ret
      exact ⟨by rw [HT.out]; rfl, (by repeat (first | exact Below.refl _ _ | refine Below.drew ?_ | refine below_drewN ?_ _ | refine Below.alloc ?_ (by first | exact Nat.le_refl _ | (simp; done) | (simp; omega) | omega) _ | refine Below.setCell ?_ (by first | exact Nat.le_refl _ | (simp; done) | (simp; omega) | omega) _ | refine bExtW ?_ (by first | exact Nat.le_refl _ | (simp; done) | (simp; omega) | omega) | refine Below.trans ?_ (Below.mono (by assumption) (by first | exact Nat.le_refl _ | (simp; done) | (simp; omega) | omega))))⟩
set_option maxRecDepth 100000 in
set_option maxHeartbeats 8000000 in
theorem r5Wrong_any (W H : Int) (a : Option Addr) (n c : Nat) (w : World) (h1 : (-9223372036854775808 ≤ W ∧ W ≤ 9223372036854775807)) (h2 : (-9223372036854775808 ≤ H ∧ H ≤ 9223372036854775807)) (h3 : n ≤ 9223372036854775807) :
    Calls Try.prog 9 #[.agg #[.int .i64 (W), .int .i64 (H), .slice a n c]] w fun e w' => e = .returned (.int .i64 (wrT W H n)) ∧ Below w.heap.size w w' := by
  by_cases hr : W < 0 ∨ 64 < W ∨ H < 0 ∨ 64 < H
  · have HT : Hid (wrT W H n = 3) := Lib.hid (by simp only [wrT, hr, if_true])
    rcases (show W < 0 ∨ (0 ≤ W ∧ 64 < W) ∨ (0 ≤ W ∧ W ≤ 64 ∧ H < 0) ∨ (0 ≤ W ∧ W ≤ 64 ∧ 0 ≤ H ∧ 64 < H) by omega) with h | ⟨h, h'⟩ | ⟨h, h', h''⟩ | ⟨h, h', h'', h3⟩
    all_goals
      clear hr
      go_enter Try.func9, Try.ntmps9
      go_wp2
      go_ret
      exact ⟨by rw [HT.out]; rfl, (by repeat (first | exact Below.refl _ _ | refine Below.drew ?_ | refine below_drewN ?_ _ | refine Below.alloc ?_ (by first | exact Nat.le_refl _ | (simp; done) | (simp; omega) | omega) _ | refine Below.setCell ?_ (by first | exact Nat.le_refl _ | (simp; done) | (simp; omega) | omega) _ | refine bExtW ?_ (by first | exact Nat.le_refl _ | (simp; done) | (simp; omega) | omega) | refine Below.trans ?_ (Below.mono (by assumption) (by first | exact Nat.le_refl _ | (simp; done) | (simp; omega) | omega))))⟩
  · have hm := mul64 hr
    have hr' : 0 ≤ W ∧ W ≤ 64 ∧ 0 ≤ H ∧ H ≤ 64 := by omega
    obtain ⟨r1, r2, r3, r4⟩ := hr'
    by_cases he : (n : Int) = W * H
    · have HT : Hid (wrT W H n = 0) := Lib.hid (by simp only [wrT, hr, if_false]; simp [he])
      have hb : ((n : Int) != W * H) = false := by simpa using he
      clear hr he
      go_enter Try.func9, Try.ntmps9
      go_wp2
      go_ret
      exact ⟨by rw [HT.out]; rfl, (by repeat (first | exact Below.refl _ _ | refine Below.drew ?_ | refine below_drewN ?_ _ | refine Below.alloc ?_ (by first | exact Nat.le_refl _ | (simp; done) | (simp; omega) | omega) _ | refine Below.setCell ?_ (by first | exact Nat.le_refl _ | (simp; done) | (simp; omega) | omega) _ | refine bExtW ?_ (by first | exact Nat.le_refl _ | (simp; done) | (simp; omega) | omega) | refine Below.trans ?_ (Below.mono (by assumption) (by first | exact Nat.le_refl _ | (simp; done) | (simp; omega) | omega))))⟩
    · have HT : Hid (wrT W H n = 8) := Lib.hid (by simp only [wrT, hr, if_false]; simp [he])
      have hb : ((n : Int) != W * H) = true := by simpa using he
      clear hr he
      go_enter Try.func9, Try.ntmps9
      go_wp2
      go_ret
      exact ⟨by rw [HT.out]; rfl, (by repeat (first | exact Below.refl _ _ | refine Below.drew ?_ | refine below_drewN ?_ _ | refine Below.alloc ?_ (by first | exact Nat.le_refl _ | (simp; done) | (simp; omega) | omega) _ | refine Below.setCell ?_ (by first | exact Nat.le_refl _ | (simp; done) | (simp; omega) | omega) _ | refine bExtW ?_ (by first | exact Nat.le_refl _ | (simp; done) | (simp; omega) | omega) | refine Below.trans ?_ (Below.mono (by assumption) (by first | exact Nat.le_refl _ | (simp; done) | (simp; omega) | omega))))⟩
end Go.Proofs.Ytefmlepogpjhmaa
