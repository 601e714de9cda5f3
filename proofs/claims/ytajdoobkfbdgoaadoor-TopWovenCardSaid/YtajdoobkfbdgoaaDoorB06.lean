/- Lemmas on which the law of this seat rests; each states its own conditions. -/
import Derived.Test.YtajdoobkfbdgoaaDoorB03
import Derived.IntWalk
import Derived.Test.YtajdoobkfbdgoaaDoorB04
import Derived.CallsIn
import Derived.OrdersIn
import Derived.TacticsIn
import Derived.OrdersHeld
set_option linter.unusedVariables false
set_option linter.unusedSimpArgs false
namespace Go.Proofs.YtajdoobkfbdgoaaDoor
section
open Go.RowKit
theorem eq_of_getD {α : Type} {d : α} {l m : List α} {n : Nat} (h1 : l.length = n) (h2 : m.length = n) (h : ∀ j, j < n → l.getD j d = m.getD j d) : l = m := by
 apply List.ext_getElem (by omega)
 intro i hi hi2
 have := h i (by omega)
 rw [List.getD_eq_getElem?_getD, List.getD_eq_getElem?_getD, List.getElem?_eq_getElem hi, List.getElem?_eq_getElem hi2] at this
 simpa using this
set_option maxRecDepth 100000 in
set_option maxHeartbeats 8000000 in
theorem Equal_any (a1 : Option Addr) (n1 c1 : Nat) (b1 : List Bool) (a2 : Option Addr) (n2 c2 : Nat) (b2 : List Bool) (w : World) (hi : IsBools w a1 n1 b1) (hj : IsBools w a2 n2 b2) (m1 : n1 ≤ 9223372036854775807) (m2 : n2 ≤ 9223372036854775807) :
  Calls Tryd.prog 26 #[.slice a1 n1 c1, .slice a2 n2 c2] w fun e w' => e = .returned (.bool (decide (b1 = b2))) ∧ Below w.heap.size w w' := by
 by_cases hn : n1 = n2
 ·subst hn
  have L1 := Lib.hid hi.1; have L2 := Lib.hid hj.1
  have HI := Lib.hid hi; have HJ := Lib.hid hj
  have hb0 : ((n1 : Int) != (n1 : Int)) = false := by simp
  clear hi hj
  go_enter Tryd.func26, Tryd.ntmps26
  go_wp2_with fail
  clear hb0
  go_loopw [13] (fun i wr => ∃ k : Nat, k ≤ n1 ∧ i = .int .i64 k ∧ Hid (∀ j, j < k → b1.getD j false = b2.getD j false) ∧ ∃ E d, wr = extW w E d) (fun i _ => n1 - (intOf i).toNat)
  case atStart => exact ⟨0, Nat.zero_le _, rfl, Lib.hid (by omega), _, _, extW_zero _⟩
  case round =>
   obtain ⟨k, hk, rfl, HK, E, d, rfl⟩ := hrel
   by_cases hkn : k < n1
   ·obtain ⟨p1, o1, rfl, hp1, hc1⟩ := HI.out.2 (by omega)
    obtain ⟨p2, o2, rfl, hp2, hc2⟩ := HJ.out.2 (by omega)
    have k1 := hc1 k hkn
    have k2 := hc2 k hkn
    have l1 : LtW p1 w := hp1
    have l2 : LtW p2 w := hp2
    obtain ⟨x, hx⟩ : ∃ x, b1.getD k false = x := ⟨_, rfl⟩
    obtain ⟨y, hy⟩ : ∃ y, b2.getD k false = y := ⟨_, rfl⟩
    rw [hx] at k1
    rw [hy] at k2
    have HX := Lib.hid hx; have HY := Lib.hid hy
    clear hc1 hc2 hp1 hp2 hx hy
    have HK1 : Hid (x = y → ∀ j, j < k + 1 → b1.getD j false = b2.getD j false) := Lib.hid (by
     intro hxy j hj
     by_cases e : j = k
     ·subst e; rw [HX.out, HY.out, hxy]
     ·exact HK.out j (by omega))
    have HN : Hid (x ≠ y → b1 ≠ b2) := Lib.hid (by intro hxy e; subst e; exact hxy (HX.out.symm.trans HY.out))
    cases x <;> cases y
    all_goals
     go_wp2_with fail
     (refine wp_region_ext (by kernel_rfl) (by kernel_rfl) ?_; (repeat (first | ((with_reducible refine ext_step (fun K hK => ?_)); go_simp; first | (refine hK _ ?_; clear hK K) | (apply Exists.intro; refine ⟨fun _ _ => ?_, hK _ ?_⟩; fail; clear hK K)))); refine wpQuiet_nil ?_; intro E d)
     go_wp2
    ·go_roundw
     case rel => exact ⟨k + 1, by omega, by go_num, Lib.hid (HK1.out (by first | rfl | trivial)), _, _, extW_extW _ _ _ _ _⟩
     case measure => simp [intOf]; omega
    ·go_ret
     exact ⟨by rw [decide_eq_false (HN.out (by simp))]; rfl, blw⟩
    ·go_ret
     exact ⟨by rw [decide_eq_false (HN.out (by simp))]; rfl, blw⟩
    ·go_roundw
     case rel => exact ⟨k + 1, by omega, by go_num, Lib.hid (HK1.out (by first | rfl | trivial)), _, _, extW_extW _ _ _ _ _⟩
     case measure => simp [intOf]; omega
   ·have HE : Hid (b1 = b2) := Lib.hid (eq_of_getD L1.out L2.out (fun j hj => HK.out j (by omega)))
    go_wp2
    go_ret
    exact ⟨by rw [decide_eq_true HE.out]; rfl, blw⟩
 ·have hb : ((n1 : Int) != (n2 : Int)) = true := by simp; omega
  have HN : Hid (b1 ≠ b2) := Lib.hid (by intro e; subst e; exact hn (hi.1.symm.trans hj.1))
  clear hn hi hj
  go_enter Tryd.func26, Tryd.ntmps26
  go_wp2
  go_ret
  exact ⟨by rw [decide_eq_false HN.out]; rfl, blw⟩
set_option maxRecDepth 100000 in
set_option maxHeartbeats 8000000 in
theorem Same_any (W1 H1 : Int) (a1 : Option Addr) (n1 c1 : Nat) (b1 : List Bool) (W2 H2 : Int) (a2 : Option Addr) (n2 c2 : Nat) (b2 : List Bool) (w : World) (hi : IsBools w a1 n1 b1) (hj : IsBools w a2 n2 b2) (m1 : n1 ≤ 9223372036854775807) (m2 : n2 ≤ 9223372036854775807) :
  Calls Tryd.prog 10 #[.agg #[.int .i64 (W1), .int .i64 (H1), .slice a1 n1 c1], .agg #[.int .i64 (W2), .int .i64 (H2), .slice a2 n2 c2]] w fun e w' => e = .returned (.bool (decide (W1 = W2 ∧ H1 = H2 ∧ b1 = b2))) ∧ Below w.heap.size w w' := by
 have HVT : Hid (W1 = W2 → H1 = H2 → b1 = b2 → decide (W1 = W2 ∧ H1 = H2 ∧ b1 = b2) = true) := Lib.hid (fun a b c => by simp [a, b, c])
 have HVF : Hid (¬ (W1 = W2 ∧ H1 = H2 ∧ b1 = b2) → decide (W1 = W2 ∧ H1 = H2 ∧ b1 = b2) = false) := Lib.hid (fun a => by simp [a])
 generalize decide (W1 = W2 ∧ H1 = H2 ∧ b1 = b2) = V at *
 by_cases hW : W1 = W2
 ·subst hW
  by_cases hH : H1 = H2
  ·subst hH
   by_cases hn : n1 = n2
   ·subst hn
    have L1 := Lib.hid hi.1; have L2 := Lib.hid hj.1
    have hb0 : ((n1 : Int) != (n1 : Int)) = false := by simp
    go_enter Tryd.func10, Tryd.ntmps10
    go_wp2_with fail
    have HI : Hid (IsBools ((w.alloc (.cells #[.int .i64 (W1), .int .i64 (H1), .slice a1 n1 c1] 33)).alloc (.cells #[.int .i64 (W1), .int .i64 (H1), .slice a2 n1 c2] 33)) a1 n1 b1) := Lib.hid (hi.below blw)
    have HJ : Hid (IsBools ((w.alloc (.cells #[.int .i64 (W1), .int .i64 (H1), .slice a1 n1 c1] 33)).alloc (.cells #[.int .i64 (W1), .int .i64 (H1), .slice a2 n1 c2] 33)) a2 n1 b2) := Lib.hid (hj.below blw)
    have d1 : ((w.alloc (.cells #[.int .i64 (W1), .int .i64 (H1), .slice a1 n1 c1] 33)).alloc (.cells #[.int .i64 (W1), .int .i64 (H1), .slice a2 n1 c2] 33)).cell? ⟨w.heap.size, 2, none⟩ = some (.slice a1 n1 c1) := by simp [go_sem]
    have d2 : ((w.alloc (.cells #[.int .i64 (W1), .int .i64 (H1), .slice a1 n1 c1] 33)).alloc (.cells #[.int .i64 (W1), .int .i64 (H1), .slice a2 n1 c2] 33)).cell? ⟨w.heap.size+1, 2, none⟩ = some (.slice a2 n1 c2) := by simp [go_sem]
    have q1 : LtW w.heap.size ((w.alloc (.cells #[.int .i64 (W1), .int .i64 (H1), .slice a1 n1 c1] 33)).alloc (.cells #[.int .i64 (W1), .int .i64 (H1), .slice a2 n1 c2] 33)) := by unfold LtW; simp; omega
    have q2 : LtW (w.heap.size+1) ((w.alloc (.cells #[.int .i64 (W1), .int .i64 (H1), .slice a1 n1 c1] 33)).alloc (.cells #[.int .i64 (W1), .int .i64 (H1), .slice a2 n1 c2] 33)) := by unfold LtW; simp
    have HB : Hid (Below w.heap.size w ((w.alloc (.cells #[.int .i64 (W1), .int .i64 (H1), .slice a1 n1 c1] 33)).alloc (.cells #[.int .i64 (W1), .int .i64 (H1), .slice a2 n1 c2] 33))) := Lib.hid blw
    generalize (w.alloc (.cells #[.int .i64 (W1), .int .i64 (H1), .slice a1 n1 c1] 33)).alloc (.cells #[.int .i64 (W1), .int .i64 (H1), .slice a2 n1 c2] 33) = W0 at *
    clear hi hj hb0
    go_loopw [30] (fun i wr => ∃ k : Nat, k ≤ n1 ∧ i = .int .i64 k ∧ Hid (∀ j, j < k → b1.getD j false = b2.getD j false) ∧ ∃ E d, wr = extW W0 E d) (fun i _ => n1 - (intOf i).toNat)
    case atStart => exact ⟨0, Nat.zero_le _, rfl, Lib.hid (by omega), _, _, extW_zero _⟩
    case round =>
     obtain ⟨k, hk, rfl, HK, E, d, rfl⟩ := hrel
     by_cases hkn : k < n1
     ·obtain ⟨p1, o1, rfl, hp1, hc1⟩ := HI.out.2 (by omega)
      obtain ⟨p2, o2, rfl, hp2, hc2⟩ := HJ.out.2 (by omega)
      have k1 := hc1 k hkn
      have k2 := hc2 k hkn
      have l1 : LtW p1 W0 := hp1
      have l2 : LtW p2 W0 := hp2
      obtain ⟨x, hx⟩ : ∃ x, b1.getD k false = x := ⟨_, rfl⟩
      obtain ⟨y, hy⟩ : ∃ y, b2.getD k false = y := ⟨_, rfl⟩
      rw [hx] at k1
      rw [hy] at k2
      have HX := Lib.hid hx; have HY := Lib.hid hy
      clear hc1 hc2 hp1 hp2 hx hy
      have HK1 : Hid (x = y → ∀ j, j < k + 1 → b1.getD j false = b2.getD j false) := Lib.hid (by
       intro hxy j hj
       by_cases e : j = k
       ·subst e; rw [HX.out, HY.out, hxy]
       ·exact HK.out j (by omega))
      have HN : Hid (x ≠ y → ¬ b1 = b2) := Lib.hid (by intro hxy e; subst e; exact hxy (HX.out.symm.trans HY.out))
      cases x <;> cases y
      all_goals
       go_wp2_with fail
       (refine wp_region_ext (by kernel_rfl) (by kernel_rfl) ?_; (repeat (first | ((with_reducible refine ext_step (fun K hK => ?_)); go_simp; first | (refine hK _ ?_; clear hK K) | (apply Exists.intro; refine ⟨fun _ _ => ?_, hK _ ?_⟩; fail; clear hK K)))); refine wpQuiet_nil ?_; intro E d)
       go_wp2
      ·go_roundw
       case rel => exact ⟨k + 1, by omega, by go_num, Lib.hid (HK1.out (by first | rfl | trivial)), _, _, extW_extW _ _ _ _ _⟩
       case measure => simp [intOf]; omega
      ·go_ret
       exact ⟨by rw [HVF.out (by simpa using HN.out (by simp))]; rfl, bExtW (bExtW HB.out HB.out.size) (by simp; have := HB.out.size; omega)⟩
      ·go_ret
       exact ⟨by rw [HVF.out (by simpa using HN.out (by simp))]; rfl, bExtW (bExtW HB.out HB.out.size) (by simp; have := HB.out.size; omega)⟩
      ·go_roundw
       case rel => exact ⟨k + 1, by omega, by go_num, Lib.hid (HK1.out (by first | rfl | trivial)), _, _, extW_extW _ _ _ _ _⟩
       case measure => simp [intOf]; omega
     ·have HE : Hid (V = true) := Lib.hid (HVT.out (by first | rfl | trivial) (by first | rfl | trivial) (eq_of_getD L1.out L2.out (fun j hj => HK.out j (by omega))))
      go_wp2
      go_ret
      exact ⟨by rw [HE.out]; rfl, bExtW HB.out HB.out.size⟩
   ·have hb : ((n1 : Int) != (n2 : Int)) = true := by simp; omega
    have HN : Hid (V = false) := Lib.hid (HVF.out (by rintro ⟨_, _, e⟩; subst e; exact hn (hi.1.symm.trans hj.1)))
    clear hn hi hj
    go_enter Tryd.func10, Tryd.ntmps10
    go_wp2
    go_ret
    exact ⟨by rw [HN.out]; rfl, blw⟩
  ·have hb : (H1 != H2) = true := by simpa using hH
   have HN : Hid (V = false) := Lib.hid (HVF.out (by rintro ⟨_, e, _⟩; exact hH e))
   clear hH hi hj
   go_enter Tryd.func10, Tryd.ntmps10
   go_wp2
   go_ret
   exact ⟨by rw [HN.out]; rfl, blw⟩
 ·have hb : (W1 != W2) = true := by simpa using hW
  have HN : Hid (V = false) := Lib.hid (HVF.out (by rintro ⟨e, _, _⟩; exact hW e))
  clear hW hi hj
  go_enter Tryd.func10, Tryd.ntmps10
  go_wp2
  go_ret
  exact ⟨by rw [HN.out]; rfl, blw⟩
end
section
open Go.RowKit
structure RowsAt (w : World) (a : Option Addr) (n W : Nat) (rs : List (List Bool)) : Prop where
 len : rs.length = n
 rows : 0 < n → ∃ b o, a = some ⟨b, o, none⟩ ∧ b < w.heap.size ∧ ∀ j, j < n → ∃ A c, w.cell? ⟨b, o + j, none⟩ = some (.slice A W c) ∧ IsBools w A W (rs.getD j [])
def fIdx (rs : List (List Bool)) (r : List Bool) : Nat := rs.findIdx fun l => decide (l = r)
theorem fIdx_at {rs : List (List Bool)} {r : List Bool} {k : Nat} (hk : k < rs.length) (h1 : ∀ j, j < k → rs.getD j [] ≠ r) (h2 : rs.getD k [] = r) : fIdx rs r = k := by
 unfold fIdx
 rw [List.findIdx_eq hk]
 refine ⟨?_, fun j hj => ?_⟩
 ·rw [List.getD_eq_getElem?_getD, List.getElem?_eq_getElem hk] at h2
  simpa using h2
 ·have := h1 j hj
  rw [List.getD_eq_getElem?_getD, List.getElem?_eq_getElem (by omega)] at this
  simpa using this
theorem fIdx_none {rs : List (List Bool)} {r : List Bool} (h1 : ∀ j, j < rs.length → rs.getD j [] ≠ r) : fIdx rs r = rs.length := by
 unfold fIdx
 rw [List.findIdx_eq_length]
 intro x hx
 obtain ⟨j, hj, rfl⟩ := List.getElem_of_mem hx
 have := h1 j hj
 rw [List.getD_eq_getElem?_getD, List.getElem?_eq_getElem hj] at this
 simpa using this
def idxV (n i : Nat) : Int := if i < n then i else -1
theorem fIdx_le (rs : List (List Bool)) (r : List Bool) : fIdx rs r ≤ rs.length := List.findIdx_le_length
set_option maxRecDepth 100000 in
set_option maxHeartbeats 8000000 in
theorem same1_any (A : Option Addr) (W c : Nat) (b1 : List Bool) (B : Nat) (A2 : Option Addr) (W2 c2 : Nat) (b2 : List Bool) (w : World) (hi : IsBools w A W b1) (hc : w.cell? ⟨B, 0, none⟩ = some (.slice A2 W2 c2)) (hj : IsBools w A2 W2 b2) (m1 : W ≤ 9223372036854775807) (m2 : W2 ≤ 9223372036854775807) :
  Calls Tryd.prog 93 #[.slice A W c, .pointer (some ⟨B, 0, none⟩)] w fun e w' => e = .returned (.bool (decide (b1 = b2))) ∧ Below w.heap.size w w' := by
 have HE := Lib.hid (Equal_any A W c b1 A2 W2 c2 b2 w hi hj m1 m2)
 clear hi hj
 go_enter Tryd.func93, Tryd.ntmps93
 (go_wp2_with fail; refine (HE.out).mono ?_; rintro r w1 ⟨rfl, hb⟩; obtain ⟨E, d, rfl⟩ := bExt hb; clear hb)
 go_wp2
 go_ret
 exact ⟨rfl, blw⟩
set_option maxRecDepth 100000 in
set_option maxHeartbeats 8000000 in
theorem index_any (a : Option Addr) (n c W : Nat) (rs : List (List Bool)) (B : Nat) (A2 : Option Addr) (c2 : Nat) (r : List Bool) (w : World) (hr : RowsAt w a n W rs) (hc : w.cell? ⟨B, 0, none⟩ = some (.slice A2 W c2)) (hj : IsBools w A2 W r) (m1 : W ≤ 9223372036854775807) (m2 : n ≤ 1000000) :
  Calls Tryd.prog 92 #[.slice a n c, .func (.func 93) #[] #[.pointer (some ⟨B, 0, none⟩)]] w fun e w' => e = .returned (.int .i64 (idxV n (fIdx rs r))) ∧ Below w.heap.size w w' := by
 have HR := Lib.hid hr
 have HC := Lib.hid hc
 have HJ := Lib.hid hj
 clear hr hc hj
 go_enter Tryd.func92, Tryd.ntmps92
 go_wp2_with fail
 go_loopw [8] (fun i wr => ∃ k : Nat, k ≤ n ∧ i = .int .i64 k ∧ Hid (∀ j, j < k → rs.getD j [] ≠ r) ∧ Below w.heap.size w wr) (fun i _ => n - (intOf i).toNat)
 case atStart => exact ⟨0, Nat.zero_le _, rfl, Lib.hid (by omega), Below.refl _ _⟩
 case round =>
  obtain ⟨k, hk, rfl, HK, hb⟩ := hrel
  by_cases hkn : k < n
  ·obtain ⟨b, o, rfl, hbl, hx⟩ := HR.out.rows (by omega)
   obtain ⟨A, cc, h4, h5⟩ := hx k hkn
   have k1 := bCs hb h4
   have HS := Lib.hid (same1_any A W cc _ B A2 W c2 r wr (h5.below hb) (bCs hb HC.out) (HJ.out.below hb) m1 m1)
   have HL := Lib.hid HR.out.len
   generalize hrow : rs.getD k [] = row at *
   have HROW := Lib.hid hrow
   have HB := Lib.hid hb
   clear hx h4 h5 hrow hbl hb
   by_cases he : row = r
   ·have HI : Hid (fIdx rs r = k) := Lib.hid (fIdx_at (by rw [HL.out]; exact hkn) HK.out (by rw [HROW.out]; exact he))
    have HD : Hid (decide (row = r) = true) := Lib.hid (decide_eq_true he)
    generalize decide (row = r) = D at *
    clear he
    go_wp2_with fail
    refine (HS.out).mono ?_
    rintro e w2 ⟨rfl, hb2⟩
    rw [HD.out]
    have HB2 := Lib.hid (HB.out.trans (hb2.mono HB.out.size))
    clear hb2
    go_wp2
    go_ret
    exact ⟨by rw [HI.out, show idxV n k = k from if_pos hkn]; rfl, HB2.out⟩
   ·have HK1 : Hid (∀ j, j < k + 1 → rs.getD j [] ≠ r) := Lib.hid (by
     intro j hj
     by_cases e : j = k
     ·subst e; rw [HROW.out]; exact he
     ·exact HK.out j (by omega))
    have HD : Hid (decide (row = r) = false) := Lib.hid (decide_eq_false he)
    generalize decide (row = r) = D at *
    clear he
    go_wp2_with fail
    refine (HS.out).mono ?_
    rintro e w2 ⟨rfl, hb2⟩
    rw [HD.out]
    have HB2 := Lib.hid (HB.out.trans (hb2.mono HB.out.size))
    clear hb2
    go_wp2
    go_roundw
    case rel => exact ⟨k + 1, by omega, by go_num, HK1, HB2.out⟩
    case measure => simp [intOf]; omega
  ·obtain rfl : k = n := by omega
   have HI : Hid (fIdx rs r = k) := Lib.hid (by rw [fIdx_none (by rw [HR.out.len]; exact HK.out), HR.out.len])
   go_wp2
   go_ret
   exact ⟨by rw [HI.out, show idxV k k = -1 from if_neg (by omega)]; rfl, hb⟩
end
section
open Go.RowKit
section
variable {P : Program} {n l : Nat}
theorem wpIn_of_wp {o : Oper} {a : Act} {w : World} {K : Act → World → Prop} {Q : Exit → Act → World → Prop} (hd : ∀ c, o.op ≠ .defer c) (h : o.wp P a w K Q) : o.wpIn (Fence.wide.inRound l) n P a w K Q := by
 refine ⟨fun _ _ => trivial, ?_⟩
 have e : (o.semAt (Fence.wide.inRound l).round a.eval) = execOp a.eval o := Oper.semAt_some l a.eval o hd
 rw [e]
 unfold Oper.wp at h
 generalize (execOp a.eval o).run P w = r at *
 cases r with
 | ok x w' =>
  cases x <;> simp only [Oper.upon, Oper.uponIn] at h ⊢
  all_goals first
   | exact h
   | exact h.elim
   | exact ⟨(fun hh => by cases hh), callsIn_wide.2 h⟩
   | (refine ⟨(fun hh => by cases hh), fun c cs _ => ?_⟩; obtain ⟨v, w'', hr, hs⟩ := h c cs; exact ⟨v, w'', hr, stepsIn_wide.2 hs⟩)
 | halt x w' => cases x <;> exact h
theorem wpAnyIn_of_wpAny {md : Region.Mode} {ops : Array Oper} {Q : Exit → Act → World → Prop} (hd : ∀ (i : Nat) (o : Oper), ops[i]? = some o → ∀ c, o.op ≠ .defer c) (hQ : ∀ a w, ¬ Q .outgrown a w) (f : Nat) :
  ∀ (listed : Array Bool) (a : Act) (w : World), wpAny P md ops Q f listed a w → wpAnyIn (Fence.wide.inRound l) n P md ops Q f listed a w := by
 induction f with
 | zero => intro listed a w h; exact h
 | succ f ih =>
  intro listed a w h
  refine ⟨h.1, fun i hi => ?_⟩
  have h2 := h.2 i hi
  unfold wpOp at h2
  unfold wpOpIn
  cases ho : ops[i]? with
  | none => rw [ho] at h2; exact ih _ _ _ h2
  | some o =>
   rw [ho] at h2
   simp only at h2 ⊢
   by_cases hw : Region.wanted o (yielded ops a.tmps) = true
   ·rw [if_pos hw] at h2 ⊢
    rcases h2 with h2 | ⟨_, a0, w0, hq⟩
    ·exact Oper.wpIn_mono (fun a' w' hk => ih _ _ _ hk) (wpIn_of_wp (hd i o ho) h2)
    ·exact absurd hq (hQ _ _)
   ·rw [if_neg hw] at h2 ⊢
    exact ⟨fun _ _ => trivial, ih _ _ _ h2⟩
theorem region_inRound {id : Nat} {ops : Array Oper} {Q : Exit → Act → World → Prop} {a : Act} {w : World} (hm : P.follows .mixedOrders = true) (hd : ops.all (fun o => match o.op with | .defer _ => false | _ => true) = true) (hQ : ∀ a w, ¬ Q .outgrown a w)
  (h : wpAny P .any ops Q ops.size (Array.replicate ops.size false) a { w with drawn := w.drawn + 1 }) : (Code.region id ops true).wpIn (Fence.wide.inRound l) n P Q a w := by
 refine wpIn_region_any hm (wpAnyIn_of_wpAny (fun i o ho c e => ?_) hQ _ _ _ _ h)
 rw [Array.all_eq_true'] at hd
 have := hd o (Array.mem_of_getElem? ho)
 rw [e] at this
 cases this
end
end
section
open Go.RowKit
open Go.Shelf
attribute [local go_sem] Oper.semAt_some
theorem okRows : ElemOk 186 31 1 24 (.slice none 0 0) := ⟨Tryd.underlying186, by kernel_rfl, rfl, by omega⟩
def aStep (H W : Nat) (bs : List Bool) (st : List (Fin H) × List Nat) (y : Fin H) : List (Fin H) × List Nat :=
 (if fIdx (st.1.map fun z => rowL bs W z.val) (rowL bs W y.val) < st.1.length then st.1 else st.1 ++ [y], st.2 ++ [fIdx (st.1.map fun z => rowL bs W z.val) (rowL bs W y.val)])
def aFold (H W : Nat) (bs : List Bool) (pre : List (Fin H)) : List (Fin H) × List Nat := pre.foldl (aStep H W bs) ([], [])
theorem aFold_snoc (H W : Nat) (bs : List Bool) (pre : List (Fin H)) (y : Fin H) : aFold H W bs (pre ++ [y]) = aStep H W bs (aFold H W bs pre) y := by simp [aFold]
theorem aFold_len' (H W : Nat) (bs : List Bool) (l : List (Fin H)) : ∀ st : List (Fin H) × List Nat, (l.foldl (aStep H W bs) st).2.length = st.2.length + l.length ∧ (l.foldl (aStep H W bs) st).1.length ≤ st.1.length + l.length := by
 induction l with
 | nil => intro st; simp
 | cons y l ih =>
  intro st
  have h := ih (aStep H W bs st y)
  have h1 : (aStep H W bs st y).2.length = st.2.length + 1 := by simp [aStep]
  have h2 : (aStep H W bs st y).1.length ≤ st.1.length + 1 := by unfold aStep; simp only; split <;> simp
  simp only [List.foldl_cons, List.length_cons]
  omega
theorem aFold_len (H W : Nat) (bs : List Bool) (pre : List (Fin H)) : (aFold H W bs pre).2.length = pre.length ∧ (aFold H W bs pre).1.length ≤ pre.length := by
 have := aFold_len' H W bs pre ([], [])
 simpa [aFold] using this
def alikeL (W H : Nat) (bs : List Bool) : List Nat := (aFold H W bs (List.finRange H)).2
theorem alikeL_len (W H : Nat) (bs : List Bool) : (alikeL W H bs).length = H := by unfold alikeL; rw [(aFold_len _ _ _ _).1]; simp
theorem wpAppIn {l N : Nat} {W : World} {ops : Array Oper} {rest : List Oper} {o : Oper} {a : Act} {Q : Exit → Act → World → Prop} {t e size bytes : Nat} {z : Value} (hE : ElemOk t e size bytes z)
  (hgd : o.guard = none) (s x : Operand) (ho : o.op = .call { callee := .builtin .append, args := #[s, x], argTypes := #[t, t] })
  (base : Nat) (v : Value) (n : Nat) (xs : List Value) (cs : Array Value) (hs : a.eval s = v) (hown : W.ownsRow base e size v n xs)
  (hx : a.eval x = .slice (some ⟨W.heap.size, 0, none⟩) 1 1) (hl : cs.size = size) (h1 : ∀ u ∈ cs.toList, u.oneCell' = true)
  (hb : bytes ≤ 4096) (hn : n ≤ 1000000000) (hbase : base ≤ W.heap.size)
  (h : ∀ v' w', w'.ownsRow base e size v' (n + 1) (xs ++ cs.toList) → (W.alloc (.cells cs e)).grownBy w' v.ownBlock → wpListIn (Fence.wide.inRound l) N Tryd.prog ops Q rest (a.put o.dst v') w') : wpListIn (Fence.wide.inRound l) N Tryd.prog ops Q (o :: rest) a (W.alloc (.cells cs e)) := by
 obtain ⟨h2, h3, h4, h5⟩ := hE
 obtain ⟨i0, hi, hz0, hz1, hz2⟩ := info_parts h3
 have hw : Region.wanted o (yielded ops a.tmps) = true := by simp [Region.wanted, hgd]
 simp only [wpListIn, hw, if_true]
 refine wpIn_of_wp (fun c e => by rw [ho] at e; cases e) ?_
 refine wp_append_own _ s x t ho base e i0 z size bytes h2 hi hz0 hz1 hz2 h4 h5 v n xs hs (hown.alloc _) ⟨W.heap.size, 0, none⟩ 1 1 cs.toList hx (by simpa using hl) ?_ h1 (by unfold maxLen; omega) ?_ (by simp; omega) ?_
 ·intro j u hj
  have : (⟨W.heap.size, 0, none⟩ : Addr).add j = ⟨W.heap.size, j, none⟩ := by rw [Addr.add_lit]; simp
  rw [this, World.cell?_alloc_new]
  simpa using hj
 ·calc (n + 1) * bytes ≤ 1000000001 * 4096 := Nat.mul_le_mul (by omega) hb
   _ ≤ 140737488355328 := by omega
 ·intro v' w' hown' hg _
  exact h v' w' hown' hg
theorem opApp {W : World} {o : Oper} {a : Act} {K : Act → World → Prop} {Q : Exit → Act → World → Prop} {t e size bytes : Nat} {z : Value} (hE : ElemOk t e size bytes z)
  (s x : Operand) (ho : o.op = .call { callee := .builtin .append, args := #[s, x], argTypes := #[t, t] })
  (base : Nat) (v : Value) (n : Nat) (xs : List Value) (cs : Array Value) (B : Nat) (hs : a.eval s = v) (hown : W.ownsRow base e size v n xs)
  (hx : a.eval x = .slice (some ⟨B, 0, none⟩) 1 1) (hcs : ∀ j u, cs[j]? = some u → W.cell? ⟨B, j, none⟩ = some u) (hl : cs.size = size) (h1 : ∀ u ∈ cs.toList, u.oneCell' = true)
  (hb : bytes ≤ 4096) (hn : n ≤ 1000000000) (hbase : base ≤ W.heap.size)
  (h : ∀ v' w', w'.ownsRow base e size v' (n + 1) (xs ++ cs.toList) → W.grownBy w' v.ownBlock → K (a.put o.dst v') w') : o.wp Tryd.prog a W K Q := by
 obtain ⟨h2, h3, h4, h5⟩ := hE
 obtain ⟨i0, hi, hz0, hz1, hz2⟩ := info_parts h3
 refine wp_append_own _ s x t ho base e i0 z size bytes h2 hi hz0 hz1 hz2 h4 h5 v n xs hs hown ⟨B, 0, none⟩ 1 1 cs.toList hx (by simpa using hl) ?_ h1 (by unfold maxLen; omega) ?_ hbase ?_
 ·intro j u hj
  have : (⟨B, 0, none⟩ : Addr).add j = ⟨B, j, none⟩ := by rw [Addr.add_lit]; simp
  rw [this]
  exact hcs j u (by simpa using hj)
 ·calc (n + 1) * bytes ≤ 1000000001 * 4096 := Nat.mul_le_mul (by omega) hb
   _ ≤ 140737488355328 := by omega
 ·intro v' w' hown' hg _
  exact h v' w' hown' hg
theorem own_ne {W : World} {b1 b2 e1 e2 s1 s2 n1 n2 : Nat} {v1 v2 : Value} {x1 x2 : List Value} (h1 : W.ownsRow b1 e1 s1 v1 n1 x1) (h2 : W.ownsRow b2 e2 s2 v2 n2 x2) (he : e1 ≠ e2) : v1 = .slice none 0 0 ∨ v1.ownBlock ≠ v2.ownBlock := by
 rcases h1.2 with ⟨rfl, _⟩ | ⟨g, cap, cur, rfl, _, hg, _⟩
 ·exact .inl rfl
 ·refine .inr fun e => ?_
  rcases h2.2 with ⟨rfl, _⟩ | ⟨g', cap', cur', rfl, _, hg', _⟩
  ·simp [Value.ownBlock] at e
  ·have e' : g = g' := by simpa [Value.ownBlock] using e
   subst e'
   rw [hg] at hg'
   injection hg' with hg'
   injection hg' with _ h5
   exact he h5
end
section
open Go.RowKit
section
variable {P : Program} {ops : Array Oper} {Q : Exit → Act → World → Prop} {md : Region.Mode} {S : World → Prop} {stop : Nat → Bool}
def anyT (P : Program) (md : Region.Mode) (ops : Array Oper) (Q : Exit → Act → World → Prop) (S : World → Prop) (stop : Nat → Bool) : Nat → Array Bool → Act → World → Prop
 | 0, listed, a, w => Region.ready md ops listed = [] ∧ Q .normal a w
 | f + 1, listed, a, w => (Region.ready md ops listed = [] → Q .normal a w) ∧
   ∀ i ∈ Region.ready md ops listed, wpOp P ops Q i (fun a' w' => (stop i = false → S w') ∧ anyT P md ops Q S stop f (listed.setIfInBounds i true) a' w') a w
theorem anyT_any (f : Nat) : ∀ (listed : Array Bool) (a : Act) (w : World), anyT P md ops Q S stop f listed a w → wpAny P md ops Q f listed a w := by
 induction f with
 | zero => intro listed a w h; exact h
 | succ f ih => intro listed a w h; exact ⟨h.1, fun i hi => wpOp_mono (fun a' w' h' => ih _ a' w' h'.2) (h.2 i hi)⟩
theorem anyT_first {i : Nat} {oi : Oper} {v : Value} (hi : ops[i]? = some oi) (hsel : ∀ (j : Nat) (o : Oper) cs b, ops[j]? = some o → o.op ≠ .select cs b)
  (hst : ∀ j oj, ops[j]? = some oj → stop j = true → ∃ e ∈ oj.after, Region.binds md e = true ∧ e.on = i) (hQ : ∀ c a w, ¬ Q (.panic c) a w) (f : Nat) :
  ∀ (listed : Array Bool) (a : Act) (w : World),
   (∀ j oj, ops[j]? = some oj → j ≠ i → listed.getD j true = false → (∀ e ∈ oj.after, Region.binds md e = true → e.on ≠ i) → oi.apart ops oj = true) →
   i ∈ Region.ready md ops listed → YieldsIf P ops S oi v a → S w → stop i = false →
   anyT P md ops Q S stop f (listed.setIfInBounds i true) (a.put oi.dst v) w → anyT P md ops Q S stop (f + 1) listed a w := by
 induction f with
 | zero =>
  intro listed a w _ hr hy hS hs H
  refine ⟨fun h => (by rw [h] at hr; cases hr), fun j hj => ?_⟩
  rcases Nat.decEq j i with hji | hji
  ·exact absurd (ready_mono hj hji) (by rw [H.1]; simp)
  ·subst hji; exact hy.wpOp hi hS ⟨fun _ => hS, H⟩
 | succ f ih =>
  intro listed a w hfree hr hy hS hs H
  refine ⟨fun h => (by rw [h] at hr; cases hr), fun j hj => ?_⟩
  rcases Nat.decEq j i with hji | hji
  ·obtain ⟨hjun, oj, hoj, hall⟩ := mem_ready.1 hj
   have hnot : ∀ e ∈ oj.after, Region.binds md e = true → e.on ≠ i := by
    intro e he hb heq
    have h1 := hall e he hb
    rw [heq, getD_both (mem_ready.1 hr).1] at h1
    cases h1
   have hsj : stop j = false := by
    cases h : stop j with
    | false => rfl
    | true =>
     obtain ⟨e, he, hb, heq⟩ := hst j oj hoj h
     exact absurd heq (hnot e he hb)
   have hap := hfree j oj hoj hji hjun hnot
   have h2 := wpOp_putIf (S := S) hoj hap (fun cs b => hsel i oi cs b hi) (fun cs b => hsel j oj cs b hoj) (fun c a w h => absurd h (hQ c _ _)) hy (H.2 j (ready_mono hj hji))
   refine wpOp_mono (fun a' w' h3 => ?_) h2
   have hSw := h3.2.1 hsj
   refine ⟨fun _ => hSw, ih _ a' w' (fun k ok hk hki hun hno => ?_) (ready_mono hr (Ne.symm hji)) h3.1 hSw hs ?_⟩
   ·refine hfree k ok hk hki ?_ hno
    by_cases hjk : j = k
    ·subst hjk; exact hjun
    ·rwa [getD_set_ne true hjk] at hun
   ·rw [Array.setIfInBounds_comm _ _ hji]; exact h3.2.2
  ·subst hji; exact hy.wpOp hi hS ⟨fun _ => hS, H⟩
def stopB (md : Region.Mode) (ops : Array Oper) (stop : Nat → Bool) (i : Nat) : Bool :=
 !stop i && (List.range ops.size).all fun j => !stop j || (match ops[j]? with | some o => o.after.any (fun e => Region.binds md e && e.on == i) | none => true)
theorem anyT_take {i : Nat} {oi : Oper} (v : Value) {f : Nat} {listed : Array Bool} {a : Act} {w : World} (hi : ops[i]? = some oi)
  (hb : (Region.noSelect ops && Region.free md ops listed i && (Region.ready md ops listed).contains i && stopB md ops stop i) = true)
  (hQ : ∀ c a w, ¬ Q (.panic c) a w) (hy : YieldsIf P ops S oi v a) (hS : S w)
  (h : anyT P md ops Q S stop f (listed.setIfInBounds i true) (a.put oi.dst v) w) : anyT P md ops Q S stop (f + 1) listed a w := by
 simp only [Bool.and_eq_true] at hb
 obtain ⟨⟨⟨h1, h2⟩, h3⟩, h4⟩ := hb
 unfold stopB at h4
 simp only [Bool.and_eq_true, Bool.not_eq_true'] at h4
 refine anyT_first hi (Region.noSelect_spec h1) (fun j oj hoj hs => ?_) hQ f listed a w (Region.free_spec hi h2) (by simpa using h3) hy hS h4.1 h
 have hlt : j < ops.size := (Array.getElem?_eq_some_iff.1 hoj).1
 have h5 := List.all_eq_true.1 h4.2 j (List.mem_range.2 hlt)
 rw [hoj, hs] at h5
 simp only [Bool.not_true, Bool.false_or] at h5
 rw [Array.any_eq_true'] at h5
 obtain ⟨e, he, h6⟩ := h5
 simp only [Bool.and_eq_true, beq_iff_eq] at h6
 exact ⟨e, he, h6.1, h6.2⟩
theorem anyT_one {i : Nat} {oi : Oper} {f : Nat} {listed : Array Bool} {a : Act} {w : World} (hr : Region.ready md ops listed = [i]) (hi : ops[i]? = some oi) (hg : oi.guard = none)
  (h : oi.wp P a w (fun a' w' => (stop i = false → S w') ∧ anyT P md ops Q S stop f (listed.setIfInBounds i true) a' w') Q) : anyT P md ops Q S stop (f + 1) listed a w := by
 refine ⟨fun h0 => absurd (hr.symm.trans h0) (by simp), fun j hj => ?_⟩
 rw [hr] at hj
 have : j = i := by simpa using hj
 subst this
 unfold wpOp
 simp only [hi, Region.wanted, hg, if_true]
 exact .inl h
theorem anyT_done {f : Nat} {listed : Array Bool} {a : Act} {w : World} (hr : Region.ready md ops listed = []) (h : Q .normal a w) : anyT P md ops Q S stop f listed a w := by
 cases f with
 | zero => exact ⟨hr, h⟩
 | succ f => exact ⟨fun _ => h, by rw [hr]; simp⟩
end
end
end Go.Proofs.YtajdoobkfbdgoaaDoor
