/- Lemmas on which the law of this seat rests; each states its own conditions. -/
import Derived.Test.YtajdoobkfbdgoaaDoorC03
import Derived.WalkSmall
import Derived.IntWalk
import Derived.RangeFuncNested
import Derived.RangeFuncBox
import Derived.RangeFuncBound
import Derived.RangeFuncCalls
import Derived.RangeFuncLeaves
import Derived.Shelf.Abstract
import Derived.OwnWalkIn
import Derived.TacticsInMore
import Derived.LoopNIn
import Derived.LoopIn
set_option linter.unusedVariables false
set_option linter.unusedSimpArgs false
namespace Go.Proofs.YtajdoobkfbdgoaaDoor
section
open Go.RowKit
def IsBools (w : World) (a : Option Addr) (n : Nat) (bs : List Bool) : Prop :=
 bs.length = n ∧ (0 < n → ∃ b o, a = some ⟨b, o, none⟩ ∧ b < w.heap.size ∧ ∀ j, j < n → w.cell? ⟨b, o + j, none⟩ = some (.bool (bs.getD j false)))
theorem IsBools.below {w w' : World} {a : Option Addr} {n : Nat} {bs : List Bool} (h : IsBools w a n bs) (hb : Below w.heap.size w w') : IsBools w' a n bs := by
 refine ⟨h.1, fun hn => ?_⟩
 obtain ⟨b, o, h1, h2, h3⟩ := h.2 hn
 exact ⟨b, o, h1, Nat.lt_of_lt_of_le h2 hb.size, fun j hj => bCs hb (h3 j hj)⟩
theorem IsBools.of_owns {w : World} {base : Nat} {v : Value} {n : Nat} {bs : List Bool} (hn : bs.length = n) (h : w.ownsRow base 4 1 v n (bs.map Value.bool)) : ∃ a c, v = .slice a n c ∧ IsBools w a n bs := by
 rcases h.2 with ⟨rfl, rfl⟩ | ⟨g, cap, cur, rfl, _⟩
 ·exact ⟨none, 0, rfl, hn, fun h => by omega⟩
 ·refine ⟨some ⟨g, 0, none⟩, cap, rfl, hn, fun hp => ⟨g, 0, rfl, ?_, fun j hj => ?_⟩⟩
  ·have h0 := h.cellAt 0 (by omega)
   rw [List.getElem?_map, List.getElem?_eq_getElem (by omega : 0 < bs.length)] at h0
   exact World.block_lt_of_cell? w _ h0
  ·have h0 := h.cellAt j (by omega)
   rw [Nat.zero_add, h0, List.getElem?_map, List.getElem?_eq_getElem (by omega : j < bs.length)]
   simp [List.getD, List.getElem?_eq_getElem (by omega : j < bs.length)]
theorem IsInts.of_owns {w : World} {base : Nat} {v : Value} {n : Nat} {zs : List Int} (hn : zs.length = n) (h : w.ownsRow base 3 1 v n (zs.map (Value.int .i64))) : ∃ a c, v = .slice a n c ∧ IsInts w a n zs := by
 rcases h.2 with ⟨rfl, rfl⟩ | ⟨g, cap, cur, rfl, _⟩
 ·exact ⟨none, 0, rfl, hn, fun h => by omega⟩
 ·refine ⟨some ⟨g, 0, none⟩, cap, rfl, hn, fun hp => ⟨g, 0, rfl, ?_, fun j hj => ?_⟩⟩
  ·have h0 := h.cellAt 0 (by omega)
   rw [List.getElem?_map, List.getElem?_eq_getElem (by omega : 0 < zs.length)] at h0
   exact World.block_lt_of_cell? w _ h0
  ·have h0 := h.cellAt j (by omega)
   rw [Nat.zero_add, h0, List.getElem?_map, List.getElem?_eq_getElem (by omega : j < zs.length)]
   simp [List.getD, List.getElem?_eq_getElem (by omega : j < zs.length)]
theorem okBools : ElemOk 31 4 1 1 (.bool false) := ⟨Tryd.underlying31, by kernel_rfl, rfl, by omega⟩
theorem okInts' : ElemOk 23 3 1 8 (.int .i64 0) := ⟨Tryd.underlying23, by kernel_rfl, rfl, by omega⟩
def wrT (W H : Int) (n : Nat) : Int := if W < 0 ∨ 64 < W ∨ H < 0 ∨ 64 < H then 3 else if (n : Int) ≠ W * H then 8 else 0
theorem mul64 {W H : Int} (h : ¬ (W < 0 ∨ 64 < W ∨ H < 0 ∨ 64 < H)) : 0 ≤ W * H ∧ W * H ≤ 4096 := by
 have h1 : 0 ≤ W * H := Int.mul_nonneg (by omega) (by omega)
 have h2 : W * H ≤ 64 * 64 := Int.mul_le_mul (by omega) (by omega) (by omega) (by omega)
 omega
set_option maxRecDepth 100000 in
set_option maxHeartbeats 8000000 in
theorem tWrong_any (W H : Int) (a : Option Addr) (n c : Nat) (w : World) (h1 : (-9223372036854775808 ≤ W ∧ W ≤ 9223372036854775807)) (h2 : (-9223372036854775808 ≤ H ∧ H ≤ 9223372036854775807)) (h3 : n ≤ 9223372036854775807) :
  Calls Tryd.prog 31 #[.agg #[.int .i64 (W), .int .i64 (H), .slice a n c]] w fun e w' => e = .returned (.int .i64 (wrT W H n)) ∧ Below w.heap.size w w' := by
 by_cases hr : W < 0 ∨ 64 < W ∨ H < 0 ∨ 64 < H
 ·have HT : Hid (wrT W H n = 3) := Lib.hid (by simp only [wrT, hr, if_true])
  rcases (show W < 0 ∨ (0 ≤ W ∧ 64 < W) ∨ (0 ≤ W ∧ W ≤ 64 ∧ H < 0) ∨ (0 ≤ W ∧ W ≤ 64 ∧ 0 ≤ H ∧ 64 < H) by omega) with h | ⟨h, h'⟩ | ⟨h, h', h''⟩ | ⟨h, h', h'', h3⟩
  all_goals
   clear hr
   go_enter Tryd.func31, Tryd.ntmps31
   go_wp2
   go_ret
   exact ⟨by rw [HT.out]; rfl, blw⟩
 ·have hm := mul64 hr
  have hr' : 0 ≤ W ∧ W ≤ 64 ∧ 0 ≤ H ∧ H ≤ 64 := by omega
  obtain ⟨r1, r2, r3, r4⟩ := hr'
  by_cases he : (n : Int) = W * H
  ·have HT : Hid (wrT W H n = 0) := Lib.hid (by simp only [wrT, hr, if_false]; simp [he])
   have hb : ((n : Int) != W * H) = false := by simpa using he
   clear hr he
   go_enter Tryd.func31, Tryd.ntmps31
   go_wp2
   go_ret
   exact ⟨by rw [HT.out]; rfl, blw⟩
  ·have HT : Hid (wrT W H n = 8) := Lib.hid (by simp only [wrT, hr, if_false]; simp [he])
   have hb : ((n : Int) != W * H) = true := by simpa using he
   clear hr he
   go_enter Tryd.func31, Tryd.ntmps31
   go_wp2
   go_ret
   exact ⟨by rw [HT.out]; rfl, blw⟩
end
section
open Go.RowKit
def chE (G W H : Int) (n : Nat) (cs : List Int) : Int :=
 if G ≠ 4 ∧ G ≠ 6 then 1 else if W < 1 ∨ 64 < W ∨ H < 1 ∨ 64 < H then 3 else if (n : Int) ≠ W * H then 8 else if ∃ x ∈ cs, x < 0 ∨ 62 ≤ x then 3 else 0
theorem chE_zero {G W H : Int} {n : Nat} {cs : List Int} (h : chE G W H n cs = 0) : (G = 4 ∨ G = 6) ∧ ∃ W' H' : Nat, W = W' ∧ H = H' ∧ 1 ≤ W' ∧ W' ≤ 64 ∧ 1 ≤ H' ∧ H' ≤ 64 ∧ n = W' * H' ∧ ∀ x ∈ cs, 0 ≤ x ∧ x < 62 := by
 unfold chE at h
 split at h
 ·omega
 ·split at h
  ·omega
  ·split at h
   ·omega
   ·split at h
    ·omega
    ·rename_i h1 h2 h3 h4
     refine ⟨by omega, W.toNat, H.toNat, by omega, by omega, by omega, by omega, by omega, by omega, ?_, fun x hx => ?_⟩
     ·have e : ((W.toNat * H.toNat : Nat) : Int) = W * H := by rw [Int.natCast_mul, Int.toNat_of_nonneg (by omega), Int.toNat_of_nonneg (by omega)]
      omega
     ·by_cases e : x < 0 ∨ 62 ≤ x
      ·exact absurd ⟨x, hx, e⟩ h4
      ·omega
theorem chE_ok {G : Int} {W H n : Nat} {cs : List Int} (hG : G = 4 ∨ G = 6) (hW : 1 ≤ W) (hW2 : W ≤ 64) (hH : 1 ≤ H) (hH2 : H ≤ 64) (hn : n = W * H) (hc : ∀ x ∈ cs, 0 ≤ x ∧ x < 62) : chE G W H n cs = 0 := by
 unfold chE
 rw [if_neg (by omega), if_neg (by omega), if_neg (by rw [hn, Int.natCast_mul]; simp), if_neg (by rintro ⟨x, hx, e⟩; have := hc x hx; omega)]
theorem lfCh11 {P : Prop} (h : P := by
 go_wp2
 go_ret
 exact ⟨by rw [HT.out]; rfl, blw⟩) : P := h
set_option maxRecDepth 100000 in
theorem lfCh10 {P : Prop} (h : P := by
 go_wp2_with fail
 go_loopw [46] (fun i wr => ∃ (k : Nat) (E : Array Obj) (d : Nat), k ≤ n ∧ i = .int .i64 k ∧ Hid (∀ j, j < k → 0 ≤ cs.getD j 0 ∧ cs.getD j 0 < 62) ∧ wr = extW (w.alloc (.cells #[.int .i64 (G), .int .i64 (W), .int .i64 (H), .slice a n c] 25)) E d) (fun i _ => n - (intOf i).toNat)
 case atStart => exact ⟨0, #[], _, by omega, rfl, Lib.hid fun j h => absurd h (by omega), extW_zero _⟩
 case round =>
  obtain ⟨k, E, d, hk, rfl, HK, rfl⟩ := hrel
  by_cases hkn : k < n
  ·obtain ⟨b, o, rfl, hb, hc⟩ := HI.out.2 (by omega)
   have c0 := hc k hkn
   have lb : LtW b w := hb
   have HM : Hid (cs.getD k 0 ∈ cs) := Lib.hid (by
    have hkl : k < cs.length := by rw [HI.out.1]; exact hkn
    rw [List.getD_eq_getElem?_getD, List.getElem?_eq_getElem hkl]
    exact List.getElem_mem hkl)
   obtain ⟨x, hx⟩ : ∃ x, cs.getD k 0 = x := ⟨_, rfl⟩
   rw [hx] at c0 HM
   have HX := Lib.hid hx
   clear hc hb hx
   by_cases h1 : x < 0
   ·have HT := Lib.hid (HBAD.out ⟨x, HM.out, .inl h1⟩)
    exact lfCh11
   ·by_cases h2 : 62 ≤ x
    ·have HT := Lib.hid (HBAD.out ⟨x, HM.out, .inr h2⟩)
     have t1 : decide (x < 0) = false := by simpa using h1
     have t2 : decide (61 < x) = true := by simp; omega
     exact lfCh11
    ·have t1 : decide (x < 0) = false := by simpa using h1
     have t2 : decide (61 < x) = false := by simp; omega
     have t3 : decide (62 ≤ x) = false := by simpa using h2
     go_wp2
     go_roundw
     case rel => exact ⟨k + 1, E, d, by omega, by go_num, Lib.hid fun j hj => (by
      by_cases e : j = k
      ·subst e; rw [HX.out]; omega
      ·exact HK.out j (by omega)), rfl⟩
     case measure => simp [intOf]; omega
  ·have HT := Lib.hid (HGOOD.out (fun x hx => by
    obtain ⟨j, hj, rfl⟩ := List.mem_iff_getElem.1 hx
    have := HK.out j (by have := HI.out.1; omega)
    rw [List.getD_eq_getElem?_getD, List.getElem?_eq_getElem hj] at this
    exact this))
   go_wp2
   go_ret
   exact ⟨by rw [HT.out]; rfl, blw⟩) : P := h
set_option maxRecDepth 100000 in
set_option maxHeartbeats 8000000 in
theorem chWrong_any (G W H : Int) (a : Option Addr) (n c : Nat) (cs : List Int) (w : World) (hI : IsInts w a n cs) (h0 : (-9223372036854775808 ≤ G ∧ G ≤ 9223372036854775807)) (h1 : (-9223372036854775808 ≤ W ∧ W ≤ 9223372036854775807)) (h2 : (-9223372036854775808 ≤ H ∧ H ≤ 9223372036854775807)) (h3 : n ≤ 9223372036854775807) :
  Calls Tryd.prog 40 #[.agg #[.int .i64 (G), .int .i64 (W), .int .i64 (H), .slice a n c]] w fun e w' => e = .returned (.int .i64 (chE G W H n cs)) ∧ Below w.heap.size w w' := by
 by_cases hG : G ≠ 4 ∧ G ≠ 6
 ·have HT : Hid (chE G W H n cs = 1) := Lib.hid (by unfold chE; rw [if_pos hG])
  have g1 : (G != 4) = true := by simpa using hG.1
  have g2 : (G != 6) = true := by simpa using hG.2
  clear hG hI
  go_enter Tryd.func40, Tryd.ntmps40
  exact lfCh11
 ·have hG2 : ((G != 4) = false) ∨ ((G != 4) = true ∧ (G != 6) = false) := by
   by_cases e : G = 4
   ·left; simpa using e
   ·right; exact ⟨by simpa using e, by simp; omega⟩
  by_cases hr : W < 1 ∨ 64 < W ∨ H < 1 ∨ 64 < H
  ·have HT : Hid (chE G W H n cs = 3) := Lib.hid (by unfold chE; rw [if_neg hG, if_pos hr])
   clear hG
   rcases hG2 with g1 | ⟨g1, g2⟩
   all_goals
    rcases (show W < 1 ∨ (1 ≤ W ∧ 64 < W) ∨ (1 ≤ W ∧ W ≤ 64 ∧ H < 1) ∨ (1 ≤ W ∧ W ≤ 64 ∧ 1 ≤ H ∧ 64 < H) by omega) with h | ⟨h, h'⟩ | ⟨h, h', h''⟩ | ⟨h, h', h'', h3⟩
    all_goals
     clear hr hI
     go_enter Tryd.func40, Tryd.ntmps40
     exact lfCh11
  ·have hr' : 1 ≤ W ∧ W ≤ 64 ∧ 1 ≤ H ∧ H ≤ 64 := by omega
   obtain ⟨r1, r2, r3, r4⟩ := hr'
   have hm := mul64 (W := W) (H := H) (by omega)
   obtain ⟨P, hP⟩ : ∃ P, W * H = P := ⟨_, rfl⟩
   by_cases he : (n : Int) = W * H
   ·have HBAD : Hid ((∃ x ∈ cs, x < 0 ∨ 62 ≤ x) → chE G W H n cs = 3) := Lib.hid fun h => by unfold chE; rw [if_neg hG, if_neg hr, if_neg (by simpa using he), if_pos h]
    have HGOOD : Hid ((∀ x ∈ cs, 0 ≤ x ∧ x < 62) → chE G W H n cs = 0) := Lib.hid fun h => by unfold chE; rw [if_neg hG, if_neg hr, if_neg (by simpa using he), if_neg (by rintro ⟨x, hx, e⟩; have := h x hx; omega)]
    rw [hP] at hm he
    have hn4 : n ≤ 4096 := by omega
    have hb : ((n : Int) != P) = false := by simpa using he
    have HI := Lib.hid hI
    clear hr hG he hI
    rcases hG2 with g1 | ⟨g1, g2⟩
    ·skip
     go_enter Tryd.func40, Tryd.ntmps40
     exact lfCh10
    ·skip
     go_enter Tryd.func40, Tryd.ntmps40
     exact lfCh10
   ·have HT : Hid (chE G W H n cs = 8) := Lib.hid (by unfold chE; rw [if_neg hG, if_neg hr, if_pos he])
    rw [hP] at hm he
    have hb : ((n : Int) != P) = true := by simpa using he
    clear hr hG he hI
    rcases hG2 with g1 | ⟨g1, g2⟩
    all_goals
     go_enter Tryd.func40, Tryd.ntmps40
     exact lfCh11
end
section
open Go.RowKit
open Go.Shelf
attribute [local go_sem] Oper.semAt_some
structure TB (tb W H : Nat) (a : Option Addr) (n c : Nat) (bs : List Bool) (w : World) : Prop where
 c0 : w.cell? ⟨tb, 0, none⟩ = some (.int .i64 (W))
 c1 : w.cell? ⟨tb, 1, none⟩ = some (.int .i64 (H))
 c2 : w.cell? ⟨tb, 2, none⟩ = some (.slice a n c)
 bits : IsBools w a n bs
theorem TB.below {tb W H : Nat} {a : Option Addr} {n c : Nat} {bs : List Bool} {w w' : World} (h : TB tb W H a n c bs w) (hb : Below w.heap.size w w') : TB tb W H a n c bs w' :=
 ⟨bCs hb h.c0, bCs hb h.c1, bCs hb h.c2, h.bits.below hb⟩
theorem IsBools.kept {W W' : World} {row : Option Nat} {a : Option Addr} {n : Nat} {bs : List Bool} (h : IsBools W a n bs) (hg : W.grownBy W' row) (hr : ∀ r, row = some r → ∃ o : Obj, W.heap[r]? = some o ∧ o.isCells = false) : IsBools W' a n bs := by
 refine ⟨h.1, fun hn => ?_⟩
 obtain ⟨b, o, h1, h2, h3⟩ := h.2 hn
 exact ⟨b, o, h1, Nat.lt_of_lt_of_le h2 hg.size, fun j hj => cell_kept (h3 j hj) hg hr⟩
theorem TB.kept {tb W H : Nat} {a : Option Addr} {n c : Nat} {bs : List Bool} {w w' : World} {row : Option Nat} (h : TB tb W H a n c bs w) (hg : w.grownBy w' row) (hr : ∀ r, row = some r → ∃ o : Obj, w.heap[r]? = some o ∧ o.isCells = false) : TB tb W H a n c bs w' :=
 ⟨cell_kept h.c0 hg hr, cell_kept h.c1 hg hr, cell_kept h.c2 hg hr, h.bits.kept hg hr⟩
theorem rowIs_kept {W W' : World} {row : Option Nat} {b t n : Nat} {f : Nat → Value} (h : W.rowIs b t n f) (hg : W.grownBy W' row) (hr : ∀ r, row = some r → ∃ o : Obj, W.heap[r]? = some o ∧ o.isCells = false) : W'.rowIs b t n f := by
 have hlt := h.lt
 refine h.of_block (hg.block b hlt fun e => ?_)
 obtain ⟨o, ho, hc⟩ := hr b e.symm
 obtain ⟨cs, hb, _⟩ := h
 rw [hb] at ho; cases ho; cases hc
def rowV (a : Option Addr) (c W y : Nat) : Value := .slice (if c = y * W then a else a.map (·.add (y * W))) W (c - y * W)
theorem rows_in (W H : Int) (a : Option Addr) (n c : Nat) (k : Nat) (w : World) :
  CallsIn Fence.wide k Tryd.prog 33 #[.agg #[.int .i64 (W), .int .i64 (H), .slice a n c]] w fun e w' => e = .returned (.func (.func 57) #[] #[.pointer (some ⟨w.heap.size, 0, none⟩)]) ∧ w' = w.alloc (.cells #[.int .i64 (W), .int .i64 (H), .slice a n c] 33) := by
 refine callsIn_wide.2 ?_
 go_enter Tryd.func33, Tryd.ntmps33
 go_wp2
 go_ret
 exact ⟨rfl, rfl⟩
theorem fin_take {H k : Nat} (hk : k < H) : (List.finRange H).take (k+1) = (List.finRange H).take k ++ [⟨k, hk⟩] := by
 rw [List.take_succ_eq_append_getElem (by simpa using hk)]
 simp
set_option maxRecDepth 100000 in
set_option maxHeartbeats 2000000 in
theorem rows1_in (k0 : Nat) (hn0 : 1 ≤ k0) (l tb W H : Nat) (a : Option Addr) (n c : Nat) (bs : List Bool) (hW : W ≤ 64) (hH : H ≤ 64) (hn : n = W * H) (hc : n ≤ c) (hcm : c ≤ 9223372036854775807) (J Jx : List (Fin H) → World → Prop)
  (hY : ∀ (pre : List (Fin H)) (x : Fin H) (W1 : World), J pre W1 → pre.length < H → YieldAt Fence.wide (k0 - 1) Tryd.prog l #[.int .i64 ((x.val : Nat)), rowV a c W x.val] W1 fun e W' =>
   (e = .returned (.bool true) ∧ J (pre ++ [x]) W' ∧ (TB tb W H a n c bs W1 → TB tb W H a n c bs W')) ∨ (e = .returned (.bool false) ∧ Jx (pre ++ [x]) W'))
  (w : World) (hT : TB tb W H a n c bs w) (h0 : J [] w) :
  CallsIn Fence.wide k0 Tryd.prog 57 #[.func (.yield l) #[] #[], .pointer (some ⟨tb, 0, none⟩)] w fun e W' => (∃ v, e = .returned v) ∧
   ((∃ ys, ys = List.finRange H ∧ J ys W') ∨ (∃ pre, (∃ k, k ≤ H ∧ pre = (List.finRange H).take k) ∧ Jx pre W')) := by
 have HY := Lib.hid hY
 have HT := Lib.hid hT
 have hm0 := hT.c1
 have HN := Lib.hid hn
 clear hY hT hn
 refine callsIn_of_wp Tryd.func57 rfl trivial ?_ rfl
 simp only [Tryd.ntmps57, List.size_toArray, List.length_cons, List.length_nil, Nat.reduceAdd, Nat.reduceSub, Array.replicate_succ, Array.replicate_zero, List.push_toArray, List.append_toArray, List.nil_append, List.cons_append]
 gi_wp2
 gi_loopw [6] (fun i wr => ∃ k : Nat, k ≤ H ∧ i = .int .i64 k ∧ Hid (J ((List.finRange H).take k) wr) ∧ Hid (TB tb W H a n c bs wr))
  (fun i _ => H - (intOf i).toNat)
 case atStart => exact ⟨0, Nat.zero_le _, rfl, Lib.hid h0, HT⟩
 case round =>
  clear hm0 HT h0
  obtain ⟨k, hk, rfl, hJs, hT⟩ := hrel
  by_cases hlt : k < H
  ·obtain ⟨fn, tmps, assign, body, hy, hR⟩ := HY.out _ ⟨k, hlt⟩ wr hJs.out (by simp; omega)
   simp only at hy
   have d0 := hT.out.c0; have d2 := hT.out.c2
   obtain ⟨M, hM⟩ : ∃ M, k * W = M := ⟨_, rfl⟩
   have hM2 : (k + 1) * W = M + W := by rw [Nat.add_mul, Nat.one_mul, hM]
   have hle : M + W ≤ n := by rw [← hM2, HN.out, Nat.mul_comm]; exact Nat.mul_le_mul_left W (by omega)
   have hmul : (k : Int) * (W : Int) = (M : Int) := by rw [← Int.natCast_mul, hM]
   have hmul2 : ((k : Int) + 1) * (W : Int) = (M : Int) + (W : Int) := by rw [Int.add_mul, Int.one_mul, hmul]
   have hm4 : M + W ≤ 4096 := by rw [← hM2]; exact Nat.le_trans (Nat.mul_le_mul (show k + 1 ≤ 64 by omega) hW) (by omega)
   have hsl : ∀ wx, (Instr.slice 31 (.slice a n c) (some (.int .i64 (M))) (some (.int .i64 (M+W))) none).run Tryd.prog wx = .ok (rowV a c W k) wx := by
    intro wx
    have h1 := run_slice_lh (P := Tryd.prog) wx 31 a n c (by kernel_rfl) .i64 .i64 (M : Int) ((M : Int) + (W : Int)) (by omega) (by omega) (by omega)
    rw [h1]
    have e1 : ((M : Int)).toNat = M := by omega
    have e2 : (((M : Int) + (W : Int))).toNat = M + W := by omega
    rw [e1, e2]
    have hsz : (sizeOf (Tryd.prog.elem 31)).run Tryd.prog wx = .ok 1 wx := by go_simp
    rw [hsz]
    simp only [Result.andThen, sliced, rowV, hM, Nat.mul_one, show M + W - M = W by omega]
   clear hM hM2
   gi_wp2
   refine hR.mono ?_
   rintro e W3 (⟨rfl, hJ3, hk3⟩ | ⟨rfl, hJx3⟩)
   ·have HJ := Lib.hid hJ3
    have HT3 := Lib.hid (hk3 hT.out)
    clear hJ3 hk3 hsl
    gi_wp2
    go_roundw
    case rel => exact ⟨k + 1, by omega, by go_num, by rw [fin_take hlt]; exact HJ, HT3⟩
    case measure => simp [intOf]; omega
   ·clear hsl
    gi_wp2
    refine bodyPost_ret (results_none rfl _ _ _) rfl ?_
    exact ⟨⟨_, rfl⟩, .inr ⟨_, ⟨k + 1, by omega, (fin_take hlt).symm⟩, hJx3⟩⟩
  ·obtain rfl : k = H := by omega
   gi_wp2
   go_end0
   exact ⟨⟨_, rfl⟩, .inl ⟨_, by rw [List.take_of_length_le (by simp)], hJs.out⟩⟩
theorem rows_stops (k0 : Nat) (hn0 : 1 ≤ k0) (tb W H : Nat) (a : Option Addr) (n c : Nat) (bs : List Bool) (hW : W ≤ 64) (hH : H ≤ 64) (hn : n = W * H) (hc : n ≤ c) (hcm : c ≤ 9223372036854775807) (w : World) (hT : TB tb W H a n c bs w) :
  SeqStopsK Fence.wide k0 Tryd.prog 57 #[.pointer (some ⟨tb, 0, none⟩)] (fun x : Fin H => #[.int .i64 ((x.val : Nat)), rowV a c W x.val]) (fun A B => TB tb W H a n c bs A → TB tb W H a n c bs B) (fun ys => ys = List.finRange H)
   (fun pre => ∃ k, k ≤ H ∧ pre = (List.finRange H).take k) H w := fun l J Jx W' hW' _ _ hY h0 =>
 rows1_in k0 hn0 l tb W H a n c bs hW hH hn hc hcm J Jx hY W' (hT.below hW') h0
end
section
open Go.RowKit
theorem own_form {w : World} {base e size n : Nat} {v : Value} {xs : List Value} (h : w.ownsRow base e size v n xs) : ∃ A c, v = .slice A n c := by
 rcases h.2 with ⟨rfl, rfl⟩ | ⟨g, cap, cur, rfl, _⟩
 ·exact ⟨_, _, rfl⟩
 ·exact ⟨_, _, rfl⟩
theorem ownBelow {w w' : World} {base e size n : Nat} {v : Value} {xs : List Value} (h : w.ownsRow base e size v n xs) (hb : Below w.heap.size w w') : w'.ownsRow base e size v n xs := by
 obtain ⟨h1, h2⟩ := h
 refine ⟨h1, ?_⟩
 rcases h2 with h2 | ⟨g, cap, cur, e1, e2, e3, e4⟩
 ·exact .inl h2
 ·refine .inr ⟨g, cap, cur, e1, e2, ?_, e4⟩
  rw [hb.block g (by
   rcases Nat.lt_or_ge g w.heap.size with hlt | hge
   ·exact hlt
   ·rw [Array.getElem?_eq_none hge] at e3; cases e3)]
  exact e3
def natV (l : List Nat) : List Value := l.map fun x : Nat => Value.int .i64 (x : Int)
theorem natV_snoc (l : List Nat) (x : Nat) : natV (l ++ [x]) = natV l ++ [.int .i64 (x)] := by simp [natV]
def natI (l : List Nat) : List Int := l.map fun x : Nat => (x : Int)
theorem natI_map (l : List Nat) : (natI l).map (Value.int .i64) = natV l := by simp [natI, natV]
theorem filter_snoc (k : Nat) (f : Nat → Bool) : (List.range (k+1)).filter f = (List.range k).filter f ++ (if f k then [k] else []) := by
 rw [List.range_succ, List.filter_append]
 by_cases h : f k = true <;> simp [h]
theorem IsInts.of_nats {w : World} {base : Nat} {v : Value} {L : List Nat} (h : w.ownsRow base 3 1 v L.length (natV L)) : ∃ a c, v = .slice a L.length c ∧ IsInts w a L.length (natI L) :=
 IsInts.of_owns (zs := natI L) (n := L.length) (by simp [natI]) (by rw [natI_map]; exact h)
end
section
open Go.RowKit
section
variable {P : Program} {ops : Array Oper} {md : Region.Mode}
def Makes (P : Program) (om : Oper) (a : Act) (mk : Nat → Value) (z : Obj) : Prop := ∀ w : World, (execOp a.eval om).run P w = .ok (.value (mk w.heap.size)) (w.alloc z)
def headB (P : Program) (md : Region.Mode) (ops : Array Oper) (n m : Nat) (om : Oper) (mk : Nat → Value) (z : Obj) (L : Array Bool → Act → World → Prop) : Nat → Array Bool → Act → World → Prop
  | 0, listed, a, W => ∀ E d, L listed a (extW W E d)
  | f + 1, listed, a, W => Region.ready md ops listed ≠ [] ∧ ∀ i ∈ Region.ready md ops listed, i < n ∧
      ((i = m → Makes P om a mk z ∧ ∀ E d, headB P md ops n m om mk z L f (listed.setIfInBounds i true) (a.put om.dst (mk (extW W E d).heap.size)) ((extW W E d).alloc z)) ∧
       (i ≠ m → qOp P ops (fun w => ∃ E d, w = extW W E d) i (fun a' => headB P md ops n m om mk z L f (listed.setIfInBounds i true) a' W) a))
theorem headB_any {n m g : Nat} {om : Oper} {mk : Nat → Value} {z : Obj} {L : Array Bool → Act → World → Prop} {Q : Exit → Act → World → Prop} (hom : ops[m]? = some om) (hgd : om.guard = none)
  (hL : ∀ listed a w, L listed a w → wpAny P md ops Q g listed a w) (f : Nat) :
  ∀ (listed : Array Bool) (a : Act) (W : World), headB P md ops n m om mk z L f listed a W → ∀ E d, wpAny P md ops Q (f + g) listed a (extW W E d) := by
 induction f with
 | zero => intro listed a W h E d; rw [Nat.zero_add]; exact hL _ _ _ (h E d)
 | succ f ih =>
  intro listed a W h E d
  rw [show f + 1 + g = (f + g) + 1 by omega]
  refine ⟨fun h0 => absurd h0 h.1, fun i hi => ?_⟩
  obtain ⟨_, h1, h2⟩ := h.2 i hi
  by_cases him : i = m
  ·subst him
   obtain ⟨hmk, h1⟩ := h1 rfl
   unfold wpOp
   simp only [hom, Region.wanted, hgd, if_true]
   left
   unfold Oper.wp
   rw [hmk]
   have := ih _ _ _ (h1 E d) #[] ((extW W E d).alloc z).drawn
   rwa [extW_self] at this
  ·refine wpOp_of_qOp (C := fun w => ∃ E d, w = extW W E d) ⟨E, d, rfl⟩ (fun a' w' hw' h' => ?_) (h2 him)
   obtain ⟨E', d', rfl⟩ := hw'
   exact ih _ _ _ h' E' d'
theorem headB_first {n m i : Nat} {oi om : Oper} {v : Value} {mk : Nat → Value} {z : Obj} {L : Array Bool → Act → World → Prop} (hi : ops[i]? = some oi) (hom : ops[m]? = some om) (hgm : om.guard = none) (hsel : ∀ (j : Nat) (o : Oper) cs b, ops[j]? = some o → o.op ≠ .select cs b)
  (hs : Region.sinkB md ops n = true) (hc : Region.chainB md ops n = true) (hn : n < ops.size) (hin : i < n) (him : i ≠ m)
  (hdone : ∀ listed a w, L listed a w → ∀ j ∈ Region.ready md ops listed, n ≤ j) (W0 : World) (f : Nat) :
  ∀ (listed : Array Bool) (a : Act) (W : World), (∃ E d, W = extW W0 E d) → HeadInv md ops n listed →
   (∀ j oj, ops[j]? = some oj → j ≠ i → listed.getD j true = false → (∀ e ∈ oj.after, Region.binds md e = true → e.on ≠ i) → oi.apart ops oj = true) →
   i ∈ Region.ready md ops listed → (∀ E d, YieldsIn P ops (fun w => ∃ F e, w = extW (extW W0 E d) F e) oi v a) →
   headB P md ops n m om mk z L f (listed.setIfInBounds i true) (a.put oi.dst v) W → headB P md ops n m om mk z L (f + 1) listed a W := by
 have eat : ∀ E d F e, extW (extW W0 E d) F e = extW W0 (E ++ F) e := fun E d F e => extW_extW W0 E F d e
 induction f with
 | zero =>
  intro listed a W hW inv _ hr hy H
  obtain ⟨E0, d0, rfl⟩ := hW
  refine ⟨List.ne_nil_of_mem hr, fun j hj => ?_⟩
  have hjn : j < n := Nat.lt_of_not_le fun h => tail_waits hs hc hn inv _ i rfl hin (mem_ready.1 hr).1 j h hj
  refine ⟨hjn, ?_⟩
  by_cases hji : j = i
  ·subst hji; exact ⟨fun h => absurd h him, fun _ => (hy E0 d0).qOp hi H⟩
  ·exact absurd (hdone _ _ _ (H #[] 0) j (ready_mono hj hji)) (by omega)
 | succ f ih =>
  intro listed a W hW inv hfree hr hy H
  obtain ⟨E0, d0, rfl⟩ := hW
  refine ⟨List.ne_nil_of_mem hr, fun j hj => ?_⟩
  have hjn : j < n := Nat.lt_of_not_le fun h => tail_waits hs hc hn inv _ i rfl hin (mem_ready.1 hr).1 j h hj
  refine ⟨hjn, ?_⟩
  by_cases hji : j = i
  ·subst hji; exact ⟨fun h => absurd h him, fun _ => (hy E0 d0).qOp hi H⟩
  ·obtain ⟨hjun, oj, hoj, hall⟩ := mem_ready.1 hj
   have hnot : ∀ e ∈ oj.after, Region.binds md e = true → e.on ≠ i := by
    intro e he hb heq
    have h1 := hall e he hb
    rw [heq, getD_both (mem_ready.1 hr).1] at h1
    cases h1
   have hap := hfree j oj hoj hji hjun hnot
   have hfree' : ∀ k ok, ops[k]? = some ok → k ≠ i → (listed.setIfInBounds j true).getD k true = false → (∀ e ∈ ok.after, Region.binds md e = true → e.on ≠ i) → oi.apart ops ok = true := by
    intro k ok hk hki hun hno
    refine hfree k ok hk hki ?_ hno
    by_cases hjk : j = k
    ·subst hjk; exact hjun
    ·rwa [getD_set_ne true hjk] at hun
   obtain ⟨_, H1, H2⟩ := H.2 j (ready_mono hj hji)
   obtain ⟨p1, p2, p3⟩ := Oper.apart_spec hap
   constructor
   ·intro hjm
    have e : oj = om := by subst hjm; exact Option.some.inj (hoj.symm.trans hom)
    subst e
    obtain ⟨hmk, H3'⟩ := H1 hjm
    refine ⟨fun w => ?_, fun E d => ?_⟩
    ·have := hmk w
     rwa [execOp_put oj (fun cs b => hsel j oj cs b hoj) a oi.dst v p1] at this
    ·have H3 := H3' E d
     refine ih _ _ _ ?_ (inv.set hj hjn) hfree' (ready_mono hr (Ne.symm hji)) (fun E' d' => ?_) ?_
     ·rw [eat]
      exact ⟨(E0 ++ E).push z, d, by simp [extW, World.alloc]⟩
     ·exact (hy E' d').of_same (execOp_put oi (fun cs b => hsel i oi cs b hi) a _ _ p3) (wanted_put oi a _ _ p3)
     ·rw [Array.setIfInBounds_comm _ _ hji, Act.put_comm a v _ p2] at *
      exact H3
   ·intro hjm
    have h2 := qOp_put hoj hap (fun cs b => hsel i oi cs b hi) (fun cs b => hsel j oj cs b hoj) (hy E0 d0) (H2 hjm)
    unfold qOp at h2 ⊢
    simp only [hoj] at h2 ⊢
    have keep : ∀ u, ∀ E d, YieldsIn P ops (fun w => ∃ F e, w = extW (extW W0 E d) F e) oi v (a.put oj.dst u) := fun u E d =>
     (hy E d).of_same (execOp_put oi (fun cs b => hsel i oi cs b hi) a oj.dst u p3) (wanted_put oi a oj.dst u p3)
    split
    ·rename_i hw
     simp only [hw, if_true] at h2
     obtain ⟨u, hu, _, h3⟩ := h2
     refine ⟨u, hu, ih _ _ _ ⟨E0, d0, rfl⟩ (inv.set hj hjn) hfree' (ready_mono hr (Ne.symm hji)) (keep u) ?_⟩
     rw [Array.setIfInBounds_comm _ _ hji]
     exact h3
    ·rename_i hw
     simp only [hw] at h2
     refine ih _ _ _ ⟨E0, d0, rfl⟩ (inv.set hj hjn) hfree' (ready_mono hr (Ne.symm hji)) (keep undef) ?_
     rw [Array.setIfInBounds_comm _ _ hji]
     exact h2.2
theorem headB_lex {m : Nat} {g : Nat} {om : Oper} {mk : Nat → Value} {z : Obj} {K : Act → Prop} {W : World} (hom : ops[m]? = some om) (hgm : om.guard = none) (hsel : Region.noSelect ops = true) (hs : Region.sinkB md ops (m+1) = true) (hc : Region.chainB md ops (m+1) = true) (hn : m + 1 < ops.size) (hKm : ∀ a, K a → Makes P om a mk z) (l : List Oper) :
  ∀ (k : Nat) (listed : Array Bool) (a : Act), (∀ j, j < l.length → l[j]? = ops[k + j]?) → k + l.length = m → HeadInv md ops (m+1) listed →
  Region.lexHead md ops (g+1) l.length k listed = true → wpV P ops W K l a →
  headB P md ops (m+1) m om mk z (fun listed' a' w' => Region.seqB md ops g (m+1) listed' = true ∧ ∃ a0 E d E' d', K a0 ∧ a' = a0.put om.dst (mk (extW W E d).heap.size) ∧ w' = extW ((extW W E d).alloc z) E' d') (l.length + 1) listed a W := by
 induction l with
 | nil =>
  intro k listed a _ hk inv hB h
  have hkn : k = m := by simpa using hk
  subst hkn
  simp only [List.length_nil, Region.lexHead, Region.seqB, Bool.and_eq_true, decide_eq_true_eq] at hB
  refine ⟨by rw [hB.1]; simp, fun i hi => ?_⟩
  rw [hB.1] at hi
  have hik : i = k := by simpa using hi
  subst hik
  exact ⟨by omega, fun _ => ⟨hKm a h, fun E d E' d' => ⟨hB.2, a, E, d, E', d', h, rfl, rfl⟩⟩, fun h => absurd rfl h⟩
 | cons o l ih =>
  intro k listed a hl hk inv hB h
  have h0 : ops[k]? = some o := by simpa using (hl 0 (by simp)).symm
  simp only [List.length_cons, Region.lexHead, Bool.and_eq_true] at hB
  obtain ⟨⟨hr, hf⟩, hB'⟩ := hB
  have hkn : k < m := by simp only [List.length_cons] at hk; omega
  have hr' : k ∈ Region.ready md ops listed := by simpa using hr
  have step : ∃ v, (∀ E d, YieldsIn P ops (fun w => ∃ F e, w = extW (extW W E d) F e) o v a) ∧ wpV P ops W K l (a.put o.dst v) := by
   unfold wpV at h
   by_cases hw : Region.wanted o (yielded ops a.tmps) = true
   ·rw [if_pos hw] at h
    obtain ⟨v, h1, h2⟩ := h
    refine ⟨v, fun E d => .inl ⟨hw, fun w hwC => ?_⟩, h2⟩
    obtain ⟨F, e, rfl⟩ := hwC
    rw [extW_extW]
    refine quietAt_mono (fun w' hw' => ?_) (h1 (E ++ F) e)
    obtain ⟨F', e', rfl⟩ := hw'
    exact ⟨F ++ F', e', by rw [extW_extW, extW_extW, Array.append_assoc]⟩
   ·rw [if_neg hw] at h
    exact ⟨undef, fun E d => .inr ⟨by simpa using hw, rfl⟩, h⟩
  obtain ⟨v, hy, hK⟩ := step
  exact headB_first h0 hom hgm (Region.noSelect_spec hsel) hs hc hn (by omega) (by omega) (fun listed' a' w' hL => seqB_ready hL.1) W (l.length + 1) listed a W (extOf_refl W) inv (Region.free_spec h0 hf) hr' hy
   (ih (k + 1) _ _ (fun j hj => by have := hl (j + 1) (by simp; omega); simpa [Nat.add_assoc, Nat.add_comm 1 j] using this) (by simp only [List.length_cons] at hk; omega) (inv.set hr' (by omega)) hB' hK)
end
theorem any_region_ext_build {Q : Exit → Act → World → Prop} {a : Act} {w : World} {l : List Oper} (m : Nat) (om : Oper) (mk : Nat → Value) (z : Obj) (hm : Tryd.prog.follows .mixedOrders = true) (hB' : (Region.noSelect l.toArray && decide (m + 1 < l.length) && Region.sinkB .any l.toArray (m+1) && Region.chainB .any l.toArray (m+1) && Region.lexHead .any l.toArray (l.length - (m+1) + 1) m 0 (Array.replicate l.length false)) = true)
  (hom : l[m]? = some om) (hgm : om.guard = none)
  (h : wpV Tryd.prog l.toArray w (fun a' => Makes Tryd.prog om a' mk z ∧ ∀ E d E' d', wpList Tryd.prog l.toArray Q (l.drop (m+1)) (a'.put om.dst (mk (extW w E d).heap.size)) (extW ((extW w E d).alloc z) E' d')) (l.take m) a) : wpAny Tryd.prog .any l.toArray Q l.toArray.size (Array.replicate l.toArray.size false) a { w with drawn := w.drawn + 1 } := by
 simp only [Bool.and_eq_true, decide_eq_true_eq] at hB'
 obtain ⟨⟨⟨⟨hsel, hn⟩, hs⟩, hc⟩, hlex⟩ := hB'
 have htl : (l.take m).length = m := by simp; omega
 have hdl : (l.drop (m+1)).length = l.length - (m+1) := by simp
 have inv0 : HeadInv .any l.toArray (m+1) (Array.replicate l.length false) :=
  ⟨by simp, fun j oj _ hl => (by rw [getD_replicate_false] at hl; cases hl), fun t _ ht => getD_in (by simpa using ht) (getD_replicate_false _ _)⟩
 have hom2 : l.toArray[m]? = some om := by simpa using hom
 have H := headB_lex (P := Tryd.prog) (md := .any) (g := l.length - (m+1)) (z := z) (mk := mk) (W := w) hom2 hgm hsel hs hc (by simpa using hn) (fun a ha => ha.1) (l.take m) 0 _ a (fun j hj => by
  have hj' : j < m := by rw [htl] at hj; exact hj
  simp [hj']) (by simpa using htl) inv0 (by rw [htl]; exact hlex) h
 have := headB_any (g := l.length - (m+1)) (Q := Q) hom2 hgm (fun listed a' w' hL => by
  obtain ⟨hsq, a0, E, d, E', d', hK, rfl, rfl⟩ := hL
  have := wpAny_of_seq (md := .any) (Q' := Q) (l.drop (m+1)) (m+1) listed (a0.put om.dst (mk (extW w E d).heap.size)) (extW ((extW w E d).alloc z) E' d') (fun j => by simp [List.getElem?_drop]) (by rw [hdl]; exact hsq) (hK.2 E d E' d')
  rwa [hdl] at this) _ _ _ w H #[] (w.drawn + 1)
 rw [htl, extW_self] at this
 have e : m + 1 + (l.length - (m + 1)) = l.length := by omega
 rw [e] at this
 simpa using this
theorem wp_region_ext_build {id : Nat} {Q : Exit → Act → World → Prop} {a : Act} {w : World} {l : List Oper} (m : Nat) (om : Oper) (mk : Nat → Value) (z : Obj) (hm : Tryd.prog.follows .mixedOrders = true) (hB' : (Region.noSelect l.toArray && decide (m + 1 < l.length) && Region.sinkB .any l.toArray (m+1) && Region.chainB .any l.toArray (m+1) && Region.lexHead .any l.toArray (l.length - (m+1) + 1) m 0 (Array.replicate l.length false)) = true)
  (hom : l[m]? = some om) (hgm : om.guard = none)
  (h : wpV Tryd.prog l.toArray w (fun a' => Makes Tryd.prog om a' mk z ∧ ∀ E d E' d', wpList Tryd.prog l.toArray Q (l.drop (m+1)) (a'.put om.dst (mk (extW w E d).heap.size)) (extW ((extW w E d).alloc z) E' d')) (l.take m) a) : (Code.region id l.toArray true).wp Tryd.prog Q a w := wp_region_any hm (any_region_ext_build m om mk z hm hB' hom hgm h)
def mkOne (n : Nat) : Value := .slice (some ⟨n, 0, none⟩) 1 1
theorem built_cell (W : World) (E : Array Obj) (d : Nat) (cs : Array Value) (t : TypeId) (E' : Array Obj) (d' : Nat) (j : Nat) (u : Value) (h : cs[j]? = some u) :
  (extW ((extW W E d).alloc (.cells cs t)) E' d').cell? ⟨(extW W E d).heap.size, j, none⟩ = some u := by
 rw [cell?_extW _ _ (by unfold LtW; rw [World.size_alloc]; omega), World.cell?_alloc_new]
 exact h
theorem built_below (W : World) (E : Array Obj) (d : Nat) (z : Obj) (E' : Array Obj) (d' : Nat) : Below W.heap.size W (extW ((extW W E d).alloc z) E' d') :=
 bExtW ((bExtW (Below.refl _ _) (Nat.le_refl _)).alloc (by simp) _) (by simp; omega)
theorem wpAppB {W : World} {ops : Array Oper} {rest : List Oper} {o : Oper} {a : Act} {Q : Exit → Act → World → Prop} {t e size bytes : Nat} {z : Value} (hE : ElemOk t e size bytes z)
  (hgd : o.guard = none) (s x : Operand) (ho : o.op = .call { callee := .builtin .append, args := #[s, x], argTypes := #[t, t] })
  (base : Nat) (v : Value) (n : Nat) (xs : List Value) (cs : Array Value) (B : Nat) (hs : a.eval s = v) (hown : W.ownsRow base e size v n xs)
  (hx : a.eval x = .slice (some ⟨B, 0, none⟩) 1 1) (hcs : ∀ j u, cs[j]? = some u → W.cell? ⟨B, j, none⟩ = some u) (hl : cs.size = size) (h1 : ∀ u ∈ cs.toList, u.oneCell' = true)
  (hb : bytes ≤ 4096) (hn : n ≤ 1000000000) (hbase : base ≤ W.heap.size)
  (h : ∀ v' w', w'.ownsRow base e size v' (n + 1) (xs ++ cs.toList) → Below base W w' → wpList Tryd.prog ops Q rest (a.put o.dst v') w') : wpList Tryd.prog ops Q (o :: rest) a W := by
 obtain ⟨h2, h3, h4, h5⟩ := hE
 obtain ⟨i0, hi, hz0, hz1, hz2⟩ := info_parts h3
 refine wpList_append_own _ hgd s x t ho base e i0 z size bytes h2 hi hz0 hz1 hz2 h4 h5 v n xs hs hown ⟨B, 0, none⟩ 1 1 cs.toList hx (by simpa using hl) ?_ h1 (by unfold maxLen; omega) ?_ hbase ?_
 ·intro j u hj
  have : (⟨B, 0, none⟩ : Addr).add j = ⟨B, j, none⟩ := by rw [Addr.add_lit]; simp
  rw [this]
  exact hcs j u (by simpa using hj)
 ·calc (n + 1) * bytes ≤ 1000000001 * 4096 := Nat.mul_le_mul (by omega) hb
   _ ≤ 140737488355328 := by omega
 ·intro v' w' hown' hg _
  refine h v' w' hown' ?_
  have hk := hown.lt
  exact belowGrown hg hbase fun k hk' => (hk k hk').1
end
section
open Go.RowKit
open Go.Shelf
attribute [local go_sem] Oper.semAt_some
structure OkT (w : World) (a : Option Addr) (n c : Nat) (bs : List Bool) : Prop where
 bits : IsBools w a n bs
 cap : n ≤ c
 lim : c ≤ 9223372036854775807
theorem OkT.below {w w' : World} {a : Option Addr} {n c : Nat} {bs : List Bool} (h : OkT w a n c bs) (hb : Below w.heap.size w w') : OkT w' a n c bs := ⟨h.bits.below hb, h.cap, h.lim⟩
def tF (W H : Int) (v : Value) : Nat → Value := fun j => if j = 0 then .int .i64 W else if j = 1 then .int .i64 H else v
theorem tF_alloc (w : World) (W H : Int) (v : Value) (h1 : v.cells = #[v]) : (w.alloc (.cells #[.int .i64 W, .int .i64 H, v] 33)).rowIs w.heap.size 33 3 (tF W H v) := by
 refine World.rowIs_alloc w #[.int .i64 W, .int .i64 H, v] 33 (tF W H v) ?_
 intro j hj
 have hj3 : j = 0 ∨ j = 1 ∨ j = 2 := by simp at hj; omega
 rcases hj3 with rfl | rfl | rfl <;> rfl
theorem TB.of_row {tb W H : Nat} {a : Option Addr} {n c : Nat} {bs : List Bool} {w : World} (h : w.rowIs tb 33 3 (tF W H (.slice a n c))) (hi : IsBools w a n bs) : TB tb W H a n c bs w :=
 ⟨h.cell (i := 0) (by omega), h.cell (i := 1) (by omega), h.cell (i := 2) (by omega), hi⟩
def rowL (bs : List Bool) (W y : Nat) : List Bool := (List.range W).map fun x => bs.getD (y * W + x) false
theorem rowL_len (bs : List Bool) (W y : Nat) : (rowL bs W y).length = W := by simp [rowL]
theorem rowL_get (bs : List Bool) {W y x : Nat} (hx : x < W) : (rowL bs W y).getD x false = bs.getD (y * W + x) false := by
 unfold rowL; simp [List.getD, hx]
theorem rowV_bools {a : Option Addr} {n c W H y : Nat} {bs : List Bool} (hcap : n ≤ c) (hn : n = W * H) (hy : y < H) : ∃ A cc, rowV a c W y = .slice A W cc ∧ ∀ w, OkT w a n c bs → OkT w A W cc (rowL bs W y) := by
 have hle : y * W + W ≤ n := by
  have : (y + 1) * W ≤ H * W := Nat.mul_le_mul_right W hy
  rw [Nat.add_mul, Nat.one_mul] at this
  rw [hn, Nat.mul_comm W H]; exact this
 refine ⟨_, _, rfl, fun w h => ⟨⟨rowL_len _ _ _, fun hW => ?_⟩, by omega, by have := h.lim; omega⟩⟩
 obtain ⟨b, o, rfl, hb, hc⟩ := h.bits.2 (by omega)
 refine ⟨b, o + y * W, ?_, hb, fun j hj => ?_⟩
 ·rw [if_neg (by omega)]; simp [Addr.add]
 ·rw [rowL_get _ hj, Nat.add_assoc]
  exact hc _ (by omega)
theorem wrT_ok {W H : Nat} (hW : W ≤ 64) (hH : H ≤ 64) : wrT W H (W * H) = 0 := by
 unfold wrT; rw [if_neg (by omega), if_neg (by rw [Int.natCast_mul]; simp)]
set_option maxRecDepth 100000 in
set_option maxHeartbeats 8000000 in
theorem blank_ok (W H : Nat) (w : World) (hW : W ≤ 64) (hH : H ≤ 64) :
  Calls Tryd.prog 32 #[.int .i64 (W), .int .i64 (H)] w fun e w' => e = .returned (.agg #[.int .i64 (W), .int .i64 (H), .slice (some ⟨w.heap.size+1, 0, none⟩) (W*H) (W*H)]) ∧ w'.rowIs (w.heap.size+1) 4 (W*H) (fun _ => .bool false) ∧ Below w.heap.size w w' := by
 have h4 : W * H ≤ 4096 := Nat.le_trans (Nat.mul_le_mul hW hH) (by omega)
 have hmul : (W : Int) * (H : Int) = ((W * H : Nat) : Int) := by rw [Int.natCast_mul]
 have hmk := makeRow okBools rfl (W * H) (by omega) (by omega)
 generalize W * H = n at *
 go_enter Tryd.func32, Tryd.ntmps32
 go_wp2
 refine bodyPost_ret (v := .agg #[.int .i64 (W), .int .i64 (H), .slice (some ⟨w.heap.size+1, 0, none⟩) n n]) (by simp [results, Tryd.results32, go_sem]) rfl ⟨rfl, ?_, ?_⟩
 ·have h := World.rowIs_made (w.alloc (.cells #[.int .i64 (W), .int .i64 (H), .slice (some ⟨w.heap.size+1, 0, none⟩) n n] 33)) (.bool false) n 4
  rw [World.size_alloc] at h
  exact h
 ·exact blw
def turnL (W H : Nat) (bs : List Bool) : List Bool := (List.range (W * H)).map fun p => bs.getD ((p % H) * W + p / H) false
theorem turnL_len (W H : Nat) (bs : List Bool) : (turnL W H bs).length = W * H := by simp [turnL]
end
end Go.Proofs.YtajdoobkfbdgoaaDoor
