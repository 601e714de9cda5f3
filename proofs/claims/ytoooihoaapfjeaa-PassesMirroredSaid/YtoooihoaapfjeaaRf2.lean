/- Lemmas and contracts of functions (what each call returns, and that it changes nothing that was there) that the proof of a law of this seat uses; each lemma states its own conditions. -/
import Derived.Test.YtoooihoaapfjeaaRf1
import Derived.Test.YtoooihoaapfjeaaNat
import Derived.Test.YtoooihoaapfjeaaRegB
import Derived.IntWalk
namespace Go.Proofs.Ytoooihoaapfjeaa
open Go.RowKit
set_option linter.unusedVariables false
set_option linter.unusedSimpArgs false
open Go.Shelf
attribute [local go_sem] Oper.semAt_some
/-- A list of truths with room for c. -/
structure OkT (w : World) (a : Option Addr) (n c : Nat) (bs : List Bool) : Prop where
  bits : IsBools w a n bs
  cap : n ≤ c
  lim : c ≤ 9223372036854775807
theorem OkT.below {w w' : World} {a : Option Addr} {n c : Nat} {bs : List Bool} (h : OkT w a n c bs) (hb : Below w.heap.size w w') : OkT w' a n c bs := ⟨h.bits.below hb, h.cap, h.lim⟩
theorem OkT.kept {W W' : World} {row : Option Nat} {a : Option Addr} {n c : Nat} {bs : List Bool} (h : OkT W a n c bs) (hg : W.grownBy W' row) (hr : ∀ r, row = some r → ∃ o : Obj, W.heap[r]? = some o ∧ o.isCells = false) : OkT W' a n c bs := ⟨h.bits.kept hg hr, h.cap, h.lim⟩
/-- The cells of a truth in a block. -/
def tF (W H : Int) (v : Value) : Nat → Value := fun j => if j = 0 then .int .i64 W else if j = 1 then .int .i64 H else v
/-- The bits of row y. -/
def rowL (bs : List Bool) (W y : Nat) : List Bool := (List.range W).map fun x => bs.getD (y * W + x) false
theorem rowL_len (bs : List Bool) (W y : Nat) : (rowL bs W y).length = W := by simp [rowL]
theorem rowL_get (bs : List Bool) {W y x : Nat} (hx : x < W) : (rowL bs W y).getD x false = bs.getD (y * W + x) false := by
  unfold rowL; simp [List.getD, hx]
theorem rowV_bools {a : Option Addr} {n c W H y : Nat} {bs : List Bool} (hcap : n ≤ c) (hn : n = W * H) (hy : y < H) : ∃ A cc, rowV a c W y = .slice A W cc ∧ ∀ w, OkT w a n c bs → OkT w A W cc (rowL bs W y) := by
  have hle : y * W + W ≤ n := by
    have : (y + 1) * W ≤ H * W := Nat.mul_le_mul_right W hy
    rw [Nat.add_mul, Nat.one_mul] at this
    rw [hn, Nat.mul_comm W H]; exact this
  refine ⟨_, _, rfl, fun w h => ⟨⟨rowL_len _ _ _, fun hW => ?_⟩, by omega, by have := h.lim; omega⟩⟩
  obtain ⟨b, o, rfl, hb, hc⟩ := h.bits.2 (by omega)
  refine ⟨b, o + y * W, ?_, hb, fun j hj => ?_⟩
  · rw [if_neg (by omega)]; simp [Addr.add]
  · rw [rowL_get _ hj, Nat.add_assoc]
    exact hc _ (by omega)
theorem wrT_ok {W H : Nat} (hW : W ≤ 64) (hH : H ≤ 64) : wrT W H (W * H) = 0 := by
  unfold wrT; rw [if_neg (by omega), if_neg (by rw [Int.natCast_mul]; simp)]
/-- Rows for columns. -/
def turnL (W H : Nat) (bs : List Bool) : List Bool := (List.range (W * H)).map fun p => bs.getD ((p % H) * W + p / H) false
theorem turnL_len (W H : Nat) (bs : List Bool) : (turnL W H bs).length = W * H := by simp [turnL]
end Go.Proofs.Ytoooihoaapfjeaa
