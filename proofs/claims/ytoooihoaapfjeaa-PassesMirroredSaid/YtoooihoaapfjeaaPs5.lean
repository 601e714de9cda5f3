/- Chapter 13: going through all passes. -/
import Derived.Test.YtoooihoaapfjeaaPs4
import Derived.Test.YtoooihoaapfjeaaRf1
namespace Go.Proofs.Ytoooihoaapfjeaa
open Go.RowKit
set_option linter.unusedVariables false
set_option linter.unusedSimpArgs false
open Go.Shelf
open Ps
attribute [local go_sem] Oper.semAt_some
namespace Ps
/-- Where the passes by b begin. -/
def pos (n : Nat) (j : Nat) : Nat := if j ≤ 2 then j * (2 ^ n - 1) else (j - 1) * (2 ^ n - 1)
theorem PL_len (n : Nat) : (PL n).length = 4 * (2 ^ n - 1) := by
  unfold PL
  simp
  omega
theorem PL_get (n j k : Nat) (hj : j = 0 ∨ j = 1 ∨ j = 3 ∨ j = 4) (hk : k < 2 ^ n - 1) : (PL n)[pos n j + k]? = some ((j : Int) - 2, k + 1) := by
  unfold PL pos
  generalize 2 ^ n - 1 = M at *
  simp only [List.flatMap_cons, List.flatMap_nil, List.append_nil]
  have hl : ∀ b : Int, ((List.range M).map fun w => (b, w + 1)).length = M := fun b => by simp
  have hg : ∀ b : Int, ((List.range M).map fun w => (b, w + 1))[k]? = some (b, k + 1) := fun b => by
    rw [List.getElem?_map, List.getElem?_range hk]; rfl
  rcases hj with rfl | rfl | rfl | rfl
  · rw [if_pos (by omega), Nat.zero_mul, Nat.zero_add, List.getElem?_append_left (by rw [hl]; exact hk)]
    exact hg _
  · rw [if_pos (by omega), Nat.one_mul, List.getElem?_append_right (by rw [hl]; omega), hl, Nat.add_sub_cancel_left, List.getElem?_append_left (by rw [hl]; exact hk)]
    exact hg _
  · rw [if_neg (by omega)]
    rw [List.getElem?_append_right (by rw [hl]; omega), hl, List.getElem?_append_right (by rw [hl]; omega), hl, List.getElem?_append_left (by rw [hl]; omega)]
    rw [show (3 - 1) * M + k - M - M = k by omega]
    exact hg _
  · rw [if_neg (by omega)]
    rw [List.getElem?_append_right (by rw [hl]; omega), hl, List.getElem?_append_right (by rw [hl]; omega), hl, List.getElem?_append_right (by rw [hl]; omega), hl]
    rw [show (4 - 1) * M + k - M - M - M = k by omega]
    exact hg _
/-- The k-th pass. -/
def PLv (n k : Nat) : Int × Nat := (PL n).getD k (1, 1)
theorem PLv_eq (n j k : Nat) (hj : j = 0 ∨ j = 1 ∨ j = 3 ∨ j = 4) (hk : k < 2 ^ n - 1) : PLv n (pos n j + k) = ((j : Int) - 2, k + 1) := by
  unfold PLv
  rw [List.getD_eq_getElem?_getD, PL_get n j k hj hk]
  rfl
theorem PLv_valid {n k : Nat} (h : k < 4 * (2 ^ n - 1)) : valid n (PLv n k) := by
  refine mem_PL.1 ?_
  unfold PLv
  rw [List.getD_eq_getElem?_getD, List.getElem?_eq_getElem (by rw [PL_len]; exact h)]
  exact List.getElem_mem _
theorem PLv_all (n : Nat) : (List.finRange (4 * (2 ^ n - 1))).map (fun x => PLv n x.val) = PL n := by
  apply List.ext_getElem (by simp [PL_len])
  intro i h1 h2
  rw [List.getElem_map]
  have e : ∀ k, k = i → PLv n k = (PL n)[i] := by
    rintro k rfl
    unfold PLv
    rw [List.getD_eq_getElem?_getD, List.getElem?_eq_getElem h2]
    rfl
  exact e _ (by simp)
theorem finN_take {H k : Nat} (hk : k < H) : (List.finRange H).take (k+1) = (List.finRange H).take k ++ [⟨k, hk⟩] := by
  rw [List.take_succ_eq_append_getElem (by simpa using hk)]
  simp
theorem pos_next (n j : Nat) (hj : j = 0 ∨ j = 1 ∨ j = 3 ∨ j = 4) : pos n j + (2 ^ n - 1) = pos n (j + 1) := by
  unfold pos
  generalize 2 ^ n - 1 = M
  rcases hj with rfl | rfl | rfl | rfl <;> simp <;> omega
theorem pos_two (n : Nat) : pos n 2 = pos n 3 := by unfold pos; simp
end Ps
theorem all_in (n : Nat) (k : Nat) (w : World) :
    CallsIn Fence.wide k Try.prog 16 #[.int .i64 (n)] w fun e w' => e = .returned (.func (.func 27) #[] #[.pointer (some ⟨w.heap.size, 0, none⟩)]) ∧ w' = w.alloc (.cells #[.int .i64 (n)] 3) := by
  refine callsIn_wide.2 ?_
  go_enter Try.func16, Try.ntmps16
  go_wp2
  go_ret
  exact ⟨rfl, rfl⟩
/-- Block tb holds a number. -/
def NB (tb n : Nat) (w : World) : Prop := w.cell? ⟨tb, 0, none⟩ = some (.int .i64 (n))
set_option maxRecDepth 100000 in
set_option maxHeartbeats 2000000 in
theorem all1_in (k0 : Nat) (hn0 : 1 ≤ k0) (l tb n : Nat) (hn : 1 ≤ n) (hn5 : n ≤ 5) (J Jx : Nat → World → Prop)
    (hY : ∀ (k : Nat) (W1 : World), J k W1 → k < 4 * (2 ^ n - 1) → YieldAt Fence.wide (k0 - 1) Try.prog l #[.agg #[.int .i64 ((PLv n k).1), .int .i64 (((PLv n k).2 : Nat))]] W1 fun e W' =>
      (e = .returned (.bool true) ∧ J (k + 1) W' ∧ (NB tb n W1 → NB tb n W')) ∨ (e = .returned (.bool false) ∧ Jx (k + 1) W'))
    (w : World) (hT : NB tb n w) (h0 : J 0 w) :
    CallsIn Fence.wide k0 Try.prog 27 #[.func (.yield l) #[] #[], .pointer (some ⟨tb, 0, none⟩)] w fun e W' => (∃ v, e = .returned v) ∧
      (J (4 * (2 ^ n - 1)) W' ∨ (∃ k, k ≤ 4 * (2 ^ n - 1) ∧ Jx k W')) := by
  have HY := Lib.hid hY
  have HT := Lib.hid hT
  have hm0 : w.cell? ⟨tb, 0, none⟩ = some (.int .i64 (n)) := hT
  clear hY hT
  refine callsIn_of_wp Try.func27 rfl trivial ?_ rfl
  simp only [Try.ntmps27, List.size_toArray, List.length_cons, List.length_nil, Nat.reduceAdd, Nat.reduceSub, Array.replicate_succ, Array.replicate_zero, List.push_toArray, List.append_toArray, List.nil_append, List.cons_append]
  gi_wp2
  gi_loopw [3] (fun i wr => ∃ j : Nat, j ≤ 5 ∧ i = .int .i64 ((j : Int) - 2) ∧ Hid (J (pos n j) wr) ∧ Hid (NB tb n wr)) (fun i _ => 5 - (intOf i + 2).toNat)
  case atStart => exact ⟨0, Nat.zero_le _, rfl, Lib.hid (by rw [show pos n 0 = 0 by unfold pos; simp]; exact h0), HT⟩
  case round =>
    clear hm0 HT h0
    obtain ⟨j, hj, rfl, hJs, hT⟩ := hrel
    obtain ⟨M, hM⟩ : ∃ M, 2 ^ n - 1 = M := ⟨_, rfl⟩
    have hM31 : M ≤ 31 := by
      have : 2 ^ n ≤ 2 ^ 5 := Nat.pow_le_pow_right (by omega) hn5
      omega
    have h2n : ((2 : Int) ^ n) = (M : Int) + 1 := by
      have h1 : 1 ≤ 2 ^ n := Nat.one_le_two_pow
      have h2 : ((2 ^ n : Nat) : Int) = (M : Int) + 1 := by omega
      rw [← h2]; simp
    have HM := Lib.hid hM
    have hwr : IntKind.i64.wrap ((M : Int) + 1) = (M : Int) + 1 := IntWalk.i64_in _ (by omega)
    have hc : j = 0 ∨ j = 1 ∨ j = 2 ∨ j = 3 ∨ j = 4 ∨ j = 5 := by omega
    have hnb : wr.cell? ⟨tb, 0, none⟩ = some (.int .i64 (n)) := hT.out
    clear hM
    rcases hc with rfl | rfl | rfl | rfl | rfl | rfl
    · skip
      gi_wp2
      gi_loopw [4] (fun i wr => ∃ k : Nat, k ≤ M ∧ i = .int .i64 ((k : Int) + 1) ∧ Hid (J (pos n 0 + k) wr) ∧ Hid (NB tb n wr)) (fun i _ => M + 1 - (intOf i).toNat)
      case atStart => exact ⟨0, Nat.zero_le _, rfl, hJs, hT⟩
      case round =>
        clear hJs hT hnb
        obtain ⟨k, hk, rfl, hJs, hT⟩ := hrel
        have hnb : wr.cell? ⟨tb, 0, none⟩ = some (.int .i64 (n)) := hT.out
        by_cases hkM : k < M
        · have hpb : pos n 0 + M ≤ 4 * (2 ^ n - 1) := by rw [HM.out]; unfold pos; rw [HM.out]; simp; omega
          obtain ⟨fn, tmps, assign, body, hy, hR⟩ := HY.out _ wr hJs.out (by omega)
          rw [PLv_eq n 0 k (by decide) (by rw [HM.out]; exact hkM)] at hy
          push_cast at hy
          try simp only [show (0 : Int) - 2 = -2 by decide] at hy
          have dk : decide ((k : Int) + 1 < (M : Int) + 1) = true := by simp; omega
          have dk' : decide (k + 1 < M + 1) = true := by simp; omega
          have dk2 : decide ((k : Int) < (M : Int)) = true := by simp; omega
          have v9 : IntKind.i64.wrap ((k : Int) + 1 + 1) = (k : Int) + 1 + 1 := IntWalk.i64_in _ (by omega)
          have HPB := Lib.hid hpb
          clear hpb
          gi_wp2
          refine hR.mono ?_
          rintro e W3 (⟨rfl, hJ3, hk3⟩ | ⟨rfl, hJx3⟩)
          · have HJ := Lib.hid hJ3
            have HT3 := Lib.hid (hk3 hT.out)
            clear hJ3 hk3
            gi_wp2
            go_roundw
            case rel =>
              first
                | exact ⟨k + 1, by omega, by go_num, HJ, HT3⟩
                | (repeat apply Exists.intro
                   exact ⟨⟨k + 1, by omega, by go_num, HJ, HT3⟩, rfl⟩)
            case measure => simp [intOf]; omega
          · gi_wp2
            refine bodyPost_ret (results_none rfl _ _ _) rfl ?_
            exact ⟨⟨_, rfl⟩, .inr ⟨pos n 0 + k + 1, by have := HPB.out; omega, hJx3⟩⟩
        · obtain rfl : k = M := by omega
          have dk : decide ((k : Int) + 1 < (k : Int) + 1) = false := by simp
          gi_wp2
          go_roundw
          case rel => exact ⟨1, by omega, by go_num, by rw [show pos n 1 = pos n 0 + k by rw [← HM.out]; exact (pos_next n 0 (by decide)).symm]; exact hJs, hT⟩
          case measure => simp [intOf]
    · skip
      gi_wp2
      gi_loopw [4] (fun i wr => ∃ k : Nat, k ≤ M ∧ i = .int .i64 ((k : Int) + 1) ∧ Hid (J (pos n 1 + k) wr) ∧ Hid (NB tb n wr)) (fun i _ => M + 1 - (intOf i).toNat)
      case atStart => exact ⟨0, Nat.zero_le _, rfl, hJs, hT⟩
      case round =>
        clear hJs hT hnb
        obtain ⟨k, hk, rfl, hJs, hT⟩ := hrel
        have hnb : wr.cell? ⟨tb, 0, none⟩ = some (.int .i64 (n)) := hT.out
        by_cases hkM : k < M
        · have hpb : pos n 1 + M ≤ 4 * (2 ^ n - 1) := by rw [HM.out]; unfold pos; rw [HM.out]; simp; omega
          obtain ⟨fn, tmps, assign, body, hy, hR⟩ := HY.out _ wr hJs.out (by omega)
          rw [PLv_eq n 1 k (by decide) (by rw [HM.out]; exact hkM)] at hy
          push_cast at hy
          try simp only [show (1 : Int) - 2 = -1 by decide] at hy
          have dk : decide ((k : Int) + 1 < (M : Int) + 1) = true := by simp; omega
          have dk' : decide (k + 1 < M + 1) = true := by simp; omega
          have dk2 : decide ((k : Int) < (M : Int)) = true := by simp; omega
          have v9 : IntKind.i64.wrap ((k : Int) + 1 + 1) = (k : Int) + 1 + 1 := IntWalk.i64_in _ (by omega)
          have HPB := Lib.hid hpb
          clear hpb
          gi_wp2
          refine hR.mono ?_
          rintro e W3 (⟨rfl, hJ3, hk3⟩ | ⟨rfl, hJx3⟩)
          · have HJ := Lib.hid hJ3
            have HT3 := Lib.hid (hk3 hT.out)
            clear hJ3 hk3
            gi_wp2
            go_roundw
            case rel =>
              first
                | exact ⟨k + 1, by omega, by go_num, HJ, HT3⟩
                | (repeat apply Exists.intro
                   exact ⟨⟨k + 1, by omega, by go_num, HJ, HT3⟩, rfl⟩)
            case measure => simp [intOf]; omega
          · gi_wp2
            refine bodyPost_ret (results_none rfl _ _ _) rfl ?_
            exact ⟨⟨_, rfl⟩, .inr ⟨pos n 1 + k + 1, by have := HPB.out; omega, hJx3⟩⟩
        · obtain rfl : k = M := by omega
          have dk : decide ((k : Int) + 1 < (k : Int) + 1) = false := by simp
          gi_wp2
          go_roundw
          case rel => exact ⟨2, by omega, by go_num, by rw [show pos n 2 = pos n 1 + k by rw [← HM.out]; exact (pos_next n 1 (by decide)).symm]; exact hJs, hT⟩
          case measure => simp [intOf]
    · gi_wp2
      gi_loopw [4] (fun i wr => i = .int .i64 1 ∧ Hid (J (pos n 2) wr) ∧ Hid (NB tb n wr)) (fun i _ => 0)
      case atStart => exact ⟨rfl, hJs, hT⟩
      case round =>
        clear hJs hT hnb
        obtain ⟨rfl, hJs, hT⟩ := hrel
        have hnb : wr.cell? ⟨tb, 0, none⟩ = some (.int .i64 (n)) := hT.out
        have hM1 : 1 ≤ M := by
          have h1 : 2 ^ 1 ≤ 2 ^ n := Nat.pow_le_pow_right (by omega) hn
          have := HM.out
          omega
        have d0 : decide (1 < (M : Int) + 1) = true := by simp; omega
        have d1 : decide ((0 : Int) < (M : Int)) = true := by simp; omega
        have d2 : decide (0 < M) = true := by simp; omega
        clear hM1
        gi_wp2
        go_roundw
        case rel =>
          first
            | exact ⟨3, by omega, by go_num, by rw [← pos_two]; exact hJs, hT⟩
            | (repeat apply Exists.intro
               exact ⟨⟨3, by omega, by go_num, by rw [← pos_two]; exact hJs, hT⟩, rfl⟩)
        case measure => simp [intOf]
    · skip
      gi_wp2
      gi_loopw [4] (fun i wr => ∃ k : Nat, k ≤ M ∧ i = .int .i64 ((k : Int) + 1) ∧ Hid (J (pos n 3 + k) wr) ∧ Hid (NB tb n wr)) (fun i _ => M + 1 - (intOf i).toNat)
      case atStart => exact ⟨0, Nat.zero_le _, rfl, hJs, hT⟩
      case round =>
        clear hJs hT hnb
        obtain ⟨k, hk, rfl, hJs, hT⟩ := hrel
        have hnb : wr.cell? ⟨tb, 0, none⟩ = some (.int .i64 (n)) := hT.out
        by_cases hkM : k < M
        · have hpb : pos n 3 + M ≤ 4 * (2 ^ n - 1) := by rw [HM.out]; unfold pos; rw [HM.out]; simp; omega
          obtain ⟨fn, tmps, assign, body, hy, hR⟩ := HY.out _ wr hJs.out (by omega)
          rw [PLv_eq n 3 k (by decide) (by rw [HM.out]; exact hkM)] at hy
          push_cast at hy
          try simp only [show (3 : Int) - 2 = 1 by decide] at hy
          have dk : decide ((k : Int) + 1 < (M : Int) + 1) = true := by simp; omega
          have dk' : decide (k + 1 < M + 1) = true := by simp; omega
          have dk2 : decide ((k : Int) < (M : Int)) = true := by simp; omega
          have v9 : IntKind.i64.wrap ((k : Int) + 1 + 1) = (k : Int) + 1 + 1 := IntWalk.i64_in _ (by omega)
          have HPB := Lib.hid hpb
          clear hpb
          gi_wp2
          refine hR.mono ?_
          rintro e W3 (⟨rfl, hJ3, hk3⟩ | ⟨rfl, hJx3⟩)
          · have HJ := Lib.hid hJ3
            have HT3 := Lib.hid (hk3 hT.out)
            clear hJ3 hk3
            gi_wp2
            go_roundw
            case rel =>
              first
                | exact ⟨k + 1, by omega, by go_num, HJ, HT3⟩
                | (repeat apply Exists.intro
                   exact ⟨⟨k + 1, by omega, by go_num, HJ, HT3⟩, rfl⟩)
            case measure => simp [intOf]; omega
          · gi_wp2
            refine bodyPost_ret (results_none rfl _ _ _) rfl ?_
            exact ⟨⟨_, rfl⟩, .inr ⟨pos n 3 + k + 1, by have := HPB.out; omega, hJx3⟩⟩
        · obtain rfl : k = M := by omega
          have dk : decide ((k : Int) + 1 < (k : Int) + 1) = false := by simp
          gi_wp2
          go_roundw
          case rel => exact ⟨4, by omega, by go_num, by rw [show pos n 4 = pos n 3 + k by rw [← HM.out]; exact (pos_next n 3 (by decide)).symm]; exact hJs, hT⟩
          case measure => simp [intOf]
    · skip
      gi_wp2
      gi_loopw [4] (fun i wr => ∃ k : Nat, k ≤ M ∧ i = .int .i64 ((k : Int) + 1) ∧ Hid (J (pos n 4 + k) wr) ∧ Hid (NB tb n wr)) (fun i _ => M + 1 - (intOf i).toNat)
      case atStart => exact ⟨0, Nat.zero_le _, rfl, hJs, hT⟩
      case round =>
        clear hJs hT hnb
        obtain ⟨k, hk, rfl, hJs, hT⟩ := hrel
        have hnb : wr.cell? ⟨tb, 0, none⟩ = some (.int .i64 (n)) := hT.out
        by_cases hkM : k < M
        · have hpb : pos n 4 + M ≤ 4 * (2 ^ n - 1) := by rw [HM.out]; unfold pos; rw [HM.out]; simp; omega
          obtain ⟨fn, tmps, assign, body, hy, hR⟩ := HY.out _ wr hJs.out (by omega)
          rw [PLv_eq n 4 k (by decide) (by rw [HM.out]; exact hkM)] at hy
          push_cast at hy
          try simp only [show (4 : Int) - 2 = 2 by decide] at hy
          have dk : decide ((k : Int) + 1 < (M : Int) + 1) = true := by simp; omega
          have dk' : decide (k + 1 < M + 1) = true := by simp; omega
          have dk2 : decide ((k : Int) < (M : Int)) = true := by simp; omega
          have v9 : IntKind.i64.wrap ((k : Int) + 1 + 1) = (k : Int) + 1 + 1 := IntWalk.i64_in _ (by omega)
          have HPB := Lib.hid hpb
          clear hpb
          gi_wp2
          refine hR.mono ?_
          rintro e W3 (⟨rfl, hJ3, hk3⟩ | ⟨rfl, hJx3⟩)
          · have HJ := Lib.hid hJ3
            have HT3 := Lib.hid (hk3 hT.out)
            clear hJ3 hk3
            gi_wp2
            go_roundw
            case rel =>
              first
                | exact ⟨k + 1, by omega, by go_num, HJ, HT3⟩
                | (repeat apply Exists.intro
                   exact ⟨⟨k + 1, by omega, by go_num, HJ, HT3⟩, rfl⟩)
            case measure => simp [intOf]; omega
          · gi_wp2
            refine bodyPost_ret (results_none rfl _ _ _) rfl ?_
            exact ⟨⟨_, rfl⟩, .inr ⟨pos n 4 + k + 1, by have := HPB.out; omega, hJx3⟩⟩
        · obtain rfl : k = M := by omega
          have dk : decide ((k : Int) + 1 < (k : Int) + 1) = false := by simp
          gi_wp2
          go_roundw
          case rel => exact ⟨5, by omega, by go_num, by rw [show pos n 5 = pos n 4 + k by rw [← HM.out]; exact (pos_next n 4 (by decide)).symm]; exact hJs, hT⟩
          case measure => simp [intOf]
    · gi_wp2
      go_end0
      have e : pos n 5 = 4 * (2 ^ n - 1) := by unfold pos; simp
      exact ⟨⟨_, rfl⟩, .inl (by rw [← e]; exact hJs.out)⟩
theorem all_stops (k0 : Nat) (hn0 : 1 ≤ k0) (tb n : Nat) (hn : 1 ≤ n) (hn5 : n ≤ 5) (w : World) (hT : NB tb n w) :
    SeqStopsK Fence.wide k0 Try.prog 27 #[.pointer (some ⟨tb, 0, none⟩)] (fun x : Fin (4 * (2 ^ n - 1)) => #[.agg #[.int .i64 ((PLv n x.val).1), .int .i64 (((PLv n x.val).2 : Nat))]]) (fun A B => NB tb n A → NB tb n B) (fun ys => ys = List.finRange (4 * (2 ^ n - 1)))
      (fun pre => ∃ k, k ≤ 4 * (2 ^ n - 1) ∧ pre = (List.finRange (4 * (2 ^ n - 1))).take k) (4 * (2 ^ n - 1)) w := fun l J Jx W' hW' _ _ hY h0 =>
  (all1_in k0 hn0 l tb n hn hn5 (fun k W => J ((List.finRange (4 * (2 ^ n - 1))).take k) W) (fun k W => Jx ((List.finRange (4 * (2 ^ n - 1))).take k) W)
    (fun k W1 hJ hk => by
      have h1 := hY _ (⟨k, hk⟩ : Fin (4 * (2 ^ n - 1))) W1 hJ (by rw [List.length_take]; simp; omega)
      rw [← finN_take hk] at h1
      exact h1) W' (bCs hW' hT) h0).mono fun e w2 h => ⟨h.1, by
    rcases h.2 with h | ⟨k, h1, h2⟩
    · exact .inl ⟨_, rfl, by
        rw [List.take_of_length_le (by simp)] at h
        exact h⟩
    · exact .inr ⟨_, ⟨k, h1, rfl⟩, h2⟩⟩
end Go.Proofs.Ytoooihoaapfjeaa
