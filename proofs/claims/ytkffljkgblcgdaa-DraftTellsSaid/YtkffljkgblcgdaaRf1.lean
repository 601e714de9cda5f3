/- Ranging over the rows of truths. -/
import Derived.Test.YtkffljkgblcgdaaTr
import Derived.RangeFuncNested
import Derived.RangeFuncBox
import Derived.RangeFuncBound
import Derived.RangeFuncCalls
import Derived.RangeFuncLeaves
import Derived.Shelf.Abstract
import Derived.OwnWalkIn
import Derived.TacticsInMore
import Derived.LoopNIn
import Derived.LoopIn
namespace Go.Proofs.Ytkffljkgblcgdaa
open Go.RowKit
set_option linter.unusedVariables false
set_option linter.unusedSimpArgs false
open Go.Shelf
attribute [local go_sem] Oper.semAt_some
/-- Block tb holds right truths. -/
structure TB (tb W H : Nat) (a : Option Addr) (n c : Nat) (bs : List Bool) (w : World) : Prop where
  c0 : w.cell? ⟨tb, 0, none⟩ = some (.int .i64 (W))
  c1 : w.cell? ⟨tb, 1, none⟩ = some (.int .i64 (H))
  c2 : w.cell? ⟨tb, 2, none⟩ = some (.slice a n c)
  bits : IsBools w a n bs
theorem TB.below {tb W H : Nat} {a : Option Addr} {n c : Nat} {bs : List Bool} {w w' : World} (h : TB tb W H a n c bs w) (hb : Below w.heap.size w w') : TB tb W H a n c bs w' :=
  ⟨bCs hb h.c0, bCs hb h.c1, bCs hb h.c2, h.bits.below hb⟩
theorem IsBools.kept {W W' : World} {row : Option Nat} {a : Option Addr} {n : Nat} {bs : List Bool} (h : IsBools W a n bs) (hg : W.grownBy W' row) (hr : ∀ r, row = some r → ∃ o : Obj, W.heap[r]? = some o ∧ o.isCells = false) : IsBools W' a n bs := by
  refine ⟨h.1, fun hn => ?_⟩
  obtain ⟨b, o, h1, h2, h3⟩ := h.2 hn
  exact ⟨b, o, h1, Nat.lt_of_lt_of_le h2 hg.size, fun j hj => cell_kept (h3 j hj) hg hr⟩
theorem TB.kept {tb W H : Nat} {a : Option Addr} {n c : Nat} {bs : List Bool} {w w' : World} {row : Option Nat} (h : TB tb W H a n c bs w) (hg : w.grownBy w' row) (hr : ∀ r, row = some r → ∃ o : Obj, w.heap[r]? = some o ∧ o.isCells = false) : TB tb W H a n c bs w' :=
  ⟨cell_kept h.c0 hg hr, cell_kept h.c1 hg hr, cell_kept h.c2 hg hr, h.bits.kept hg hr⟩
theorem rowIs_kept {W W' : World} {row : Option Nat} {b t n : Nat} {f : Nat → Value} (h : W.rowIs b t n f) (hg : W.grownBy W' row) (hr : ∀ r, row = some r → ∃ o : Obj, W.heap[r]? = some o ∧ o.isCells = false) : W'.rowIs b t n f := by
  have hlt := h.lt
  refine h.of_block (hg.block b hlt fun e => ?_)
  obtain ⟨o, ho, hc⟩ := hr b e.symm
  obtain ⟨cs, hb, _⟩ := h
  rw [hb] at ho; cases ho; cases hc
/-- Row y. -/
def rowV (a : Option Addr) (c W y : Nat) : Value := .slice (if c = y * W then a else a.map (·.add (y * W))) W (c - y * W)
theorem rows_in (W H : Int) (a : Option Addr) (n c : Nat) (k : Nat) (w : World) :
    CallsIn Fence.wide k Try.prog 63 #[.agg #[.int .i64 (W), .int .i64 (H), .slice a n c]] w fun e w' => e = .returned (.func (.func 95) #[] #[.pointer (some ⟨w.heap.size, 0, none⟩)]) ∧ w' = w.alloc (.cells #[.int .i64 (W), .int .i64 (H), .slice a n c] 25) := by
  refine callsIn_wide.2 ?_
  go_enter Try.func63, Try.ntmps63
  go_wp2
  go_ret
  exact ⟨rfl, rfl⟩
theorem fin_take {H k : Nat} (hk : k < H) : (List.finRange H).take (k+1) = (List.finRange H).take k ++ [⟨k, hk⟩] := by
  rw [List.take_succ_eq_append_getElem (by simpa using hk)]
  simp
set_option maxRecDepth 100000 in
set_option maxHeartbeats 2000000 in
theorem rows1_in (k0 : Nat) (hn0 : 1 ≤ k0) (l tb W H : Nat) (a : Option Addr) (n c : Nat) (bs : List Bool) (hW : W ≤ 64) (hH : H ≤ 64) (hn : n = W * H) (hc : n ≤ c) (hcm : c ≤ 9223372036854775807) (J Jx : List (Fin H) → World → Prop)
    (hY : ∀ (pre : List (Fin H)) (x : Fin H) (W1 : World), J pre W1 → pre.length < H → YieldAt Fence.wide (k0 - 1) Try.prog l #[.int .i64 ((x.val : Nat)), rowV a c W x.val] W1 fun e W' =>
      (e = .returned (.bool true) ∧ J (pre ++ [x]) W' ∧ (TB tb W H a n c bs W1 → TB tb W H a n c bs W')) ∨ (e = .returned (.bool false) ∧ Jx (pre ++ [x]) W'))
    (w : World) (hT : TB tb W H a n c bs w) (h0 : J [] w) :
    CallsIn Fence.wide k0 Try.prog 95 #[.func (.yield l) #[] #[], .pointer (some ⟨tb, 0, none⟩)] w fun e W' => (∃ v, e = .returned v) ∧
      ((∃ ys, ys = List.finRange H ∧ J ys W') ∨ (∃ pre, (∃ k, k ≤ H ∧ pre = (List.finRange H).take k) ∧ Jx pre W')) := by
  have HY := Lib.hid hY
  have HT := Lib.hid hT
  have hm0 := hT.c1
  have HN := Lib.hid hn
  clear hY hT hn
  refine callsIn_of_wp Try.func95 rfl trivial ?_ rfl
  simp only [Try.ntmps95, List.size_toArray, List.length_cons, List.length_nil, Nat.reduceAdd, Nat.reduceSub, Array.replicate_succ, Array.replicate_zero, List.push_toArray, List.append_toArray, List.nil_append, List.cons_append]
  gi_wp2
  gi_loopw [6] (fun i wr => ∃ k : Nat, k ≤ H ∧ i = .int .i64 k ∧ Hid (J ((List.finRange H).take k) wr) ∧ Hid (TB tb W H a n c bs wr))
    (fun i _ => H - (intOf i).toNat)
  case atStart => exact ⟨0, Nat.zero_le _, rfl, Lib.hid h0, HT⟩
  case round =>
    clear hm0 HT h0
    obtain ⟨k, hk, rfl, hJs, hT⟩ := hrel
    by_cases hlt : k < H
    · obtain ⟨fn, tmps, assign, body, hy, hR⟩ := HY.out _ ⟨k, hlt⟩ wr hJs.out (by simp; omega)
      simp only at hy
      have d0 := hT.out.c0; have d2 := hT.out.c2
      obtain ⟨M, hM⟩ : ∃ M, k * W = M := ⟨_, rfl⟩
      have hM2 : (k + 1) * W = M + W := by rw [Nat.add_mul, Nat.one_mul, hM]
      have hle : M + W ≤ n := by rw [← hM2, HN.out, Nat.mul_comm]; exact Nat.mul_le_mul_left W (by omega)
      have hmul : (k : Int) * (W : Int) = (M : Int) := by rw [← Int.natCast_mul, hM]
      have hmul2 : ((k : Int) + 1) * (W : Int) = (M : Int) + (W : Int) := by rw [Int.add_mul, Int.one_mul, hmul]
      have hm4 : M + W ≤ 4096 := by rw [← hM2]; exact Nat.le_trans (Nat.mul_le_mul (show k + 1 ≤ 64 by omega) hW) (by omega)
      have hsl : ∀ wx, (Instr.slice 23 (.slice a n c) (some (.int .i64 (M))) (some (.int .i64 (M+W))) none).run Try.prog wx = .ok (rowV a c W k) wx := by
        intro wx
        have h1 := run_slice_lh (P := Try.prog) wx 23 a n c (by kernel_rfl) .i64 .i64 (M : Int) ((M : Int) + (W : Int)) (by omega) (by omega) (by omega)
        rw [h1]
        have e1 : ((M : Int)).toNat = M := by omega
        have e2 : (((M : Int) + (W : Int))).toNat = M + W := by omega
        rw [e1, e2]
        have hsz : (sizeOf (Try.prog.elem 23)).run Try.prog wx = .ok 1 wx := by go_simp
        rw [hsz]
        simp only [Result.andThen, sliced, rowV, hM, Nat.mul_one, show M + W - M = W by omega]
      clear hM hM2
      gi_wp2
      refine hR.mono ?_
      rintro e W3 (⟨rfl, hJ3, hk3⟩ | ⟨rfl, hJx3⟩)
      · have HJ := Lib.hid hJ3
        have HT3 := Lib.hid (hk3 hT.out)
        clear hJ3 hk3 hsl
        gi_wp2
        go_roundw
        case rel => exact ⟨k + 1, by omega, by go_num, by rw [fin_take hlt]; exact HJ, HT3⟩
        case measure => simp [intOf]; omega
      · clear hsl
        gi_wp2
        refine bodyPost_ret (results_none rfl _ _ _) rfl ?_
        exact ⟨⟨_, rfl⟩, .inr ⟨_, ⟨k + 1, by omega, (fin_take hlt).symm⟩, hJx3⟩⟩
    · obtain rfl : k = H := by omega
      gi_wp2
      go_end0
      exact ⟨⟨_, rfl⟩, .inl ⟨_, by rw [List.take_of_length_le (by simp)], hJs.out⟩⟩
theorem rows_stops (k0 : Nat) (hn0 : 1 ≤ k0) (tb W H : Nat) (a : Option Addr) (n c : Nat) (bs : List Bool) (hW : W ≤ 64) (hH : H ≤ 64) (hn : n = W * H) (hc : n ≤ c) (hcm : c ≤ 9223372036854775807) (w : World) (hT : TB tb W H a n c bs w) :
    SeqStopsK Fence.wide k0 Try.prog 95 #[.pointer (some ⟨tb, 0, none⟩)] (fun x : Fin H => #[.int .i64 ((x.val : Nat)), rowV a c W x.val]) (fun A B => TB tb W H a n c bs A → TB tb W H a n c bs B) (fun ys => ys = List.finRange H)
      (fun pre => ∃ k, k ≤ H ∧ pre = (List.finRange H).take k) H w := fun l J Jx W' hW' _ _ hY h0 =>
  rows1_in k0 hn0 l tb W H a n c bs hW hH hn hc hcm J Jx hY W' (hT.below hW') h0
end Go.Proofs.Ytkffljkgblcgdaa
