/- Products of truths: no program in sight. -/
import Derived.Test.YtoooihoaapfjeaaRf5
namespace Go.Proofs.Ytoooihoaapfjeaa
open Go.RowKit
set_option linter.unusedVariables false
set_option linter.unusedSimpArgs false
theorem getD_map_range {n p : Nat} (f : Nat → Bool) (hp : p < n) : ((List.range n).map f).getD p false = f p := by
  rw [List.getD_eq_getElem?_getD, List.getElem?_map, List.getElem?_range hp]; rfl
theorem turnL_get {W H x y : Nat} {bs : List Bool} (hx : x < W) (hy : y < H) : (turnL W H bs).getD (x * H + y) false = bs.getD (y * W + x) false := by
  unfold turnL
  have hlt : x * H + y < W * H := by
    have : (x + 1) * H ≤ W * H := Nat.mul_le_mul_right H hx
    rw [Nat.add_mul, Nat.one_mul] at this; omega
  rw [getD_map_range _ hlt]
  have h1 : (x * H + y) % H = y := by rw [Nat.mul_comm, Nat.mul_add_mod, Nat.mod_eq_of_lt hy]
  have h2 : (x * H + y) / H = x := by rw [Nat.mul_comm, Nat.mul_add_div (by omega), Nat.div_eq_of_lt hy]; omega
  rw [h1, h2]
theorem prodL_get {H M W X Y : Nat} {aa bb : List Bool} (hx : X < W) (hy : Y < H) : (prodL H M W aa bb).getD (Y * W + X) false = mulB M W aa bb Y X := by
  unfold prodL
  have hlt : Y * W + X < W * H := by
    have : (Y + 1) * W ≤ H * W := Nat.mul_le_mul_right W hy
    rw [Nat.add_mul, Nat.one_mul, Nat.mul_comm H W] at this; omega
  rw [getD_map_range _ hlt]
  have h1 : (Y * W + X) % W = X := by rw [Nat.mul_comm, Nat.mul_add_mod, Nat.mod_eq_of_lt hx]
  have h2 : (Y * W + X) / W = Y := by rw [Nat.mul_comm, Nat.mul_add_div (by omega), Nat.div_eq_of_lt hx]; omega
  rw [h1, h2]
/-- Two lists of H rows of W are one if they are so place by place. -/
theorem grid_ext {W H : Nat} {l m : List Bool} (h1 : l.length = W * H) (h2 : m.length = W * H) (h : ∀ y x, y < H → x < W → l.getD (y * W + x) false = m.getD (y * W + x) false) : l = m := by
  apply List.ext_getElem (by omega)
  intro p hp hp2
  have hW : 0 < W := by rcases Nat.eq_zero_or_pos W with e | e
                        · subst e; simp at h1; omega
                        · exact e
  have := h (p / W) (p % W) (Nat.div_lt_of_lt_mul (by omega)) (Nat.mod_lt _ hW)
  have e : p / W * W + p % W = p := by rw [Nat.mul_comm]; exact Nat.div_add_mod p W
  rw [e, List.getD_eq_getElem?_getD, List.getD_eq_getElem?_getD, List.getElem?_eq_getElem hp, List.getElem?_eq_getElem hp2] at this
  simpa using this
theorem turn_turn {W H : Nat} {bs : List Bool} (h : bs.length = W * H) : turnL H W (turnL W H bs) = bs := by
  refine grid_ext (W := W) (H := H) (by rw [turnL_len, Nat.mul_comm]) h fun y x hy hx => ?_
  rw [turnL_get hy hx, turnL_get hx hy]
theorem turn_prod {H M W : Nat} {aa bb : List Bool} : prodL W M H (turnL W M bb) (turnL M H aa) = turnL W H (prodL H M W aa bb) := by
  refine grid_ext (W := H) (H := W) (by rw [prodL_len]) (by rw [turnL_len, Nat.mul_comm]) fun x y hx hy => ?_
  rw [prodL_get hy hx, turnL_get hx hy, prodL_get hx hy]
  unfold mulB
  rw [Bool.eq_iff_iff]
  simp only [List.any_eq_true, List.mem_range]
  constructor
  · rintro ⟨k, hk, h⟩
    refine ⟨k, hk, ?_⟩
    rw [turnL_get hx hk, turnL_get hk hy] at h
    rw [Bool.and_comm]; exact h
  · rintro ⟨k, hk, h⟩
    refine ⟨k, hk, ?_⟩
    rw [turnL_get hx hk, turnL_get hk hy, Bool.and_comm]; exact h
theorem prod_assoc {H M W X : Nat} {aa bb cc : List Bool} : prodL H W X (prodL H M W aa bb) cc = prodL H M X aa (prodL M W X bb cc) := by
  refine grid_ext (W := X) (H := H) (by rw [prodL_len]) (by rw [prodL_len]) fun y x hy hx => ?_
  rw [prodL_get hx hy, prodL_get hx hy]
  unfold mulB
  rw [Bool.eq_iff_iff]
  simp only [List.any_eq_true, List.mem_range, Bool.and_eq_true]
  constructor
  · rintro ⟨k, hk, h1, h2⟩
    rw [prodL_get hk hy] at h1
    unfold mulB at h1
    simp only [List.any_eq_true, List.mem_range, Bool.and_eq_true] at h1
    obtain ⟨m, hm, h3, h4⟩ := h1
    refine ⟨m, hm, h3, ?_⟩
    rw [prodL_get hx hm]
    unfold mulB
    simp only [List.any_eq_true, List.mem_range, Bool.and_eq_true]
    exact ⟨k, hk, h4, h2⟩
  · rintro ⟨m, hm, h1, h2⟩
    rw [prodL_get hx hm] at h2
    unfold mulB at h2
    simp only [List.any_eq_true, List.mem_range, Bool.and_eq_true] at h2
    obtain ⟨k, hk, h3, h4⟩ := h2
    refine ⟨k, hk, ?_, h4⟩
    rw [prodL_get hk hy]
    unfold mulB
    simp only [List.any_eq_true, List.mem_range, Bool.and_eq_true]
    exact ⟨m, hm, h1, h3⟩
/-- What a call on right truths hands back. -/
def TPost (W H n : Nat) (bs : List Bool) (w : World) (r : Ending) (w' : World) : Prop :=
  ∃ g, r = .returned (.tuple #[.agg #[.int .i64 (W), .int .i64 (H), .slice (some ⟨g, 0, none⟩) n n], .int .i64 (0)]) ∧ OkT w' (some ⟨g, 0, none⟩) n n bs ∧ Below w.heap.size w w'
end Go.Proofs.Ytoooihoaapfjeaa
