/- Lemmas and contracts of functions (what each call returns, and that it changes nothing that was there) that the proof of a law of this seat uses; each lemma states its own conditions. -/
import Derived.Test.YtoooihoaapfjeaaB08
import Derived.Test.YtoooihoaapfjeaaB03
import Derived.Test.YtoooihoaapfjeaaB06
namespace Go.Proofs.Ytoooihoaapfjeaa
open Go.RowKit
set_option linter.unusedVariables false
set_option linter.unusedSimpArgs false
open Go.Shelf
open Ps
attribute [local go_sem] Oper.semAt_some
namespace Ps
/-- Where the passes by b begin. -/
def pos (n : Nat) (j : Nat) : Nat := if j ≤ 2 then j * (2 ^ n - 1) else (j - 1) * (2 ^ n - 1)
theorem PL_len (n : Nat) : (PL n).length = 4 * (2 ^ n - 1) := by
  unfold PL
  simp
  omega
theorem PL_get (n j k : Nat) (hj : j = 0 ∨ j = 1 ∨ j = 3 ∨ j = 4) (hk : k < 2 ^ n - 1) : (PL n)[pos n j + k]? = some ((j : Int) - 2, k + 1) := by
  unfold PL pos
  generalize 2 ^ n - 1 = M at *
  simp only [List.flatMap_cons, List.flatMap_nil, List.append_nil]
  have hl : ∀ b : Int, ((List.range M).map fun w => (b, w + 1)).length = M := fun b => by simp
  have hg : ∀ b : Int, ((List.range M).map fun w => (b, w + 1))[k]? = some (b, k + 1) := fun b => by
    rw [List.getElem?_map, List.getElem?_range hk]; rfl
  rcases hj with rfl | rfl | rfl | rfl
  · rw [if_pos (by omega), Nat.zero_mul, Nat.zero_add, List.getElem?_append_left (by rw [hl]; exact hk)]
    exact hg _
  · rw [if_pos (by omega), Nat.one_mul, List.getElem?_append_right (by rw [hl]; omega), hl, Nat.add_sub_cancel_left, List.getElem?_append_left (by rw [hl]; exact hk)]
    exact hg _
  · rw [if_neg (by omega)]
    rw [List.getElem?_append_right (by rw [hl]; omega), hl, List.getElem?_append_right (by rw [hl]; omega), hl, List.getElem?_append_left (by rw [hl]; omega)]
    rw [show (3 - 1) * M + k - M - M = k by omega]
    exact hg _
  · rw [if_neg (by omega)]
    rw [List.getElem?_append_right (by rw [hl]; omega), hl, List.getElem?_append_right (by rw [hl]; omega), hl, List.getElem?_append_right (by rw [hl]; omega), hl]
    rw [show (4 - 1) * M + k - M - M - M = k by omega]
    exact hg _
/-- The k-th pass. -/
def PLv (n k : Nat) : Int × Nat := (PL n).getD k (1, 1)
theorem PLv_eq (n j k : Nat) (hj : j = 0 ∨ j = 1 ∨ j = 3 ∨ j = 4) (hk : k < 2 ^ n - 1) : PLv n (pos n j + k) = ((j : Int) - 2, k + 1) := by
  unfold PLv
  rw [List.getD_eq_getElem?_getD, PL_get n j k hj hk]
  rfl
theorem PLv_valid {n k : Nat} (h : k < 4 * (2 ^ n - 1)) : valid n (PLv n k) := by
  refine mem_PL.1 ?_
  unfold PLv
  rw [List.getD_eq_getElem?_getD, List.getElem?_eq_getElem (by rw [PL_len]; exact h)]
  exact List.getElem_mem _
theorem PLv_all (n : Nat) : (List.finRange (4 * (2 ^ n - 1))).map (fun x => PLv n x.val) = PL n := by
  apply List.ext_getElem (by simp [PL_len])
  intro i h1 h2
  rw [List.getElem_map]
  have e : ∀ k, k = i → PLv n k = (PL n)[i] := by
    rintro k rfl
    unfold PLv
    rw [List.getD_eq_getElem?_getD, List.getElem?_eq_getElem h2]
    rfl
  exact e _ (by simp)
theorem finN_take {H k : Nat} (hk : k < H) : (List.finRange H).take (k+1) = (List.finRange H).take k ++ [⟨k, hk⟩] := by
  rw [List.take_succ_eq_append_getElem (by simpa using hk)]
  simp
theorem pos_next (n j : Nat) (hj : j = 0 ∨ j = 1 ∨ j = 3 ∨ j = 4) : pos n j + (2 ^ n - 1) = pos n (j + 1) := by
  unfold pos
  generalize 2 ^ n - 1 = M
  rcases hj with rfl | rfl | rfl | rfl <;> simp <;> omega
theorem pos_two (n : Nat) : pos n 2 = pos n 3 := by unfold pos; simp
end Ps
theorem all_in (n : Nat) (k : Nat) (w : World) :
    CallsIn Fence.wide k Try.prog 16 #[.int .i64 (n)] w fun e w' => e = .returned (.func (.func 27) #[] #[.pointer (some ⟨w.heap.size, 0, none⟩)]) ∧ w' = w.alloc (.cells #[.int .i64 (n)] 3) := by
  refine callsIn_wide.2 ?_
  go_enter Try.func16, Try.ntmps16
  go_wp2
  go_ret
  exact ⟨rfl, rfl⟩
/-- Block tb holds a number. -/
def NB (tb n : Nat) (w : World) : Prop := w.cell? ⟨tb, 0, none⟩ = some (.int .i64 (n))
set_option maxRecDepth 100000 in
set_option maxHeartbeats 2000000 in
theorem all1_in (k0 : Nat) (hn0 : 1 ≤ k0) (l tb n : Nat) (hn : 1 ≤ n) (hn5 : n ≤ 5) (J Jx : Nat → World → Prop)
    (hY : ∀ (k : Nat) (W1 : World), J k W1 → k < 4 * (2 ^ n - 1) → YieldAt Fence.wide (k0 - 1) Try.prog l #[.agg #[.int .i64 ((PLv n k).1), .int .i64 (((PLv n k).2 : Nat))]] W1 fun e W' =>
      (e = .returned (.bool true) ∧ J (k + 1) W' ∧ (NB tb n W1 → NB tb n W')) ∨ (e = .returned (.bool false) ∧ Jx (k + 1) W'))
    (w : World) (hT : NB tb n w) (h0 : J 0 w) :
    CallsIn Fence.wide k0 Try.prog 27 #[.func (.yield l) #[] #[], .pointer (some ⟨tb, 0, none⟩)] w fun e W' => (∃ v, e = .returned v) ∧
      (J (4 * (2 ^ n - 1)) W' ∨ (∃ k, k ≤ 4 * (2 ^ n - 1) ∧ Jx k W')) := by
  have HY := Lib.hid hY
  have HT := Lib.hid hT
  have hm0 : w.cell? ⟨tb, 0, none⟩ = some (.int .i64 (n)) := hT
  clear hY hT
  refine callsIn_of_wp Try.func27 rfl trivial ?_ rfl
  simp only [Try.ntmps27, List.size_toArray, List.length_cons, List.length_nil, Nat.reduceAdd, Nat.reduceSub, Array.replicate_succ, Array.replicate_zero, List.push_toArray, List.append_toArray, List.nil_append, List.cons_append]
  gi_wp2
  gi_loopw [3] (fun i wr => ∃ j : Nat, j ≤ 5 ∧ i = .int .i64 ((j : Int) - 2) ∧ Hid (J (pos n j) wr) ∧ Hid (NB tb n wr)) (fun i _ => 5 - (intOf i + 2).toNat)
  case atStart => exact ⟨0, Nat.zero_le _, rfl, Lib.hid (by rw [show pos n 0 = 0 by unfold pos; simp]; exact h0), HT⟩
  case round =>
    clear hm0 HT h0
    obtain ⟨j, hj, rfl, hJs, hT⟩ := hrel
    obtain ⟨M, hM⟩ : ∃ M, 2 ^ n - 1 = M := ⟨_, rfl⟩
    have hM31 : M ≤ 31 := by
      have : 2 ^ n ≤ 2 ^ 5 := Nat.pow_le_pow_right (by omega) hn5
      omega
    have h2n : ((2 : Int) ^ n) = (M : Int) + 1 := by
      have h1 : 1 ≤ 2 ^ n := Nat.one_le_two_pow
      have h2 : ((2 ^ n : Nat) : Int) = (M : Int) + 1 := by omega
      rw [← h2]; simp
    have HM := Lib.hid hM
    have hwr : IntKind.i64.wrap ((M : Int) + 1) = (M : Int) + 1 := IntWalk.i64_in _ (by omega)
    have hc : j = 0 ∨ j = 1 ∨ j = 2 ∨ j = 3 ∨ j = 4 ∨ j = 5 := by omega
    have hnb : wr.cell? ⟨tb, 0, none⟩ = some (.int .i64 (n)) := hT.out
    clear hM
    rcases hc with rfl | rfl | rfl | rfl | rfl | rfl
    · skip
      gi_wp2
      gi_loopw [4] (fun i wr => ∃ k : Nat, k ≤ M ∧ i = .int .i64 ((k : Int) + 1) ∧ Hid (J (pos n 0 + k) wr) ∧ Hid (NB tb n wr)) (fun i _ => M + 1 - (intOf i).toNat)
      case atStart => exact ⟨0, Nat.zero_le _, rfl, hJs, hT⟩
      case round =>
        clear hJs hT hnb
        obtain ⟨k, hk, rfl, hJs, hT⟩ := hrel
        have hnb : wr.cell? ⟨tb, 0, none⟩ = some (.int .i64 (n)) := hT.out
        by_cases hkM : k < M
        · have hpb : pos n 0 + M ≤ 4 * (2 ^ n - 1) := by rw [HM.out]; unfold pos; rw [HM.out]; simp; omega
          obtain ⟨fn, tmps, assign, body, hy, hR⟩ := HY.out _ wr hJs.out (by omega)
          rw [PLv_eq n 0 k (by decide) (by rw [HM.out]; exact hkM)] at hy
          push_cast at hy
          try simp only [show (0 : Int) - 2 = -2 by decide] at hy
          have dk : decide ((k : Int) + 1 < (M : Int) + 1) = true := by simp; omega
          have dk' : decide (k + 1 < M + 1) = true := by simp; omega
          have dk2 : decide ((k : Int) < (M : Int)) = true := by simp; omega
          have v9 : IntKind.i64.wrap ((k : Int) + 1 + 1) = (k : Int) + 1 + 1 := IntWalk.i64_in _ (by omega)
          have HPB := Lib.hid hpb
          clear hpb
          gi_wp2
          refine hR.mono ?_
          rintro e W3 (⟨rfl, hJ3, hk3⟩ | ⟨rfl, hJx3⟩)
          · have HJ := Lib.hid hJ3
            have HT3 := Lib.hid (hk3 hT.out)
            clear hJ3 hk3
            gi_wp2
            go_roundw
            case rel =>
              first
                | exact ⟨k + 1, by omega, by go_num, HJ, HT3⟩
                | (repeat apply Exists.intro
                   exact ⟨⟨k + 1, by omega, by go_num, HJ, HT3⟩, rfl⟩)
            case measure => simp [intOf]; omega
          · gi_wp2
            refine bodyPost_ret (results_none rfl _ _ _) rfl ?_
            exact ⟨⟨_, rfl⟩, .inr ⟨pos n 0 + k + 1, by have := HPB.out; omega, hJx3⟩⟩
        · obtain rfl : k = M := by omega
          have dk : decide ((k : Int) + 1 < (k : Int) + 1) = false := by simp
          gi_wp2
          go_roundw
          case rel => exact ⟨1, by omega, by go_num, by rw [show pos n 1 = pos n 0 + k by rw [← HM.out]; exact (pos_next n 0 (by decide)).symm]; exact hJs, hT⟩
          case measure => simp [intOf]
    · skip
      gi_wp2
      gi_loopw [4] (fun i wr => ∃ k : Nat, k ≤ M ∧ i = .int .i64 ((k : Int) + 1) ∧ Hid (J (pos n 1 + k) wr) ∧ Hid (NB tb n wr)) (fun i _ => M + 1 - (intOf i).toNat)
      case atStart => exact ⟨0, Nat.zero_le _, rfl, hJs, hT⟩
      case round =>
        clear hJs hT hnb
        obtain ⟨k, hk, rfl, hJs, hT⟩ := hrel
        have hnb : wr.cell? ⟨tb, 0, none⟩ = some (.int .i64 (n)) := hT.out
        by_cases hkM : k < M
        · have hpb : pos n 1 + M ≤ 4 * (2 ^ n - 1) := by rw [HM.out]; unfold pos; rw [HM.out]; simp; omega
          obtain ⟨fn, tmps, assign, body, hy, hR⟩ := HY.out _ wr hJs.out (by omega)
          rw [PLv_eq n 1 k (by decide) (by rw [HM.out]; exact hkM)] at hy
          push_cast at hy
          try simp only [show (1 : Int) - 2 = -1 by decide] at hy
          have dk : decide ((k : Int) + 1 < (M : Int) + 1) = true := by simp; omega
          have dk' : decide (k + 1 < M + 1) = true := by simp; omega
          have dk2 : decide ((k : Int) < (M : Int)) = true := by simp; omega
          have v9 : IntKind.i64.wrap ((k : Int) + 1 + 1) = (k : Int) + 1 + 1 := IntWalk.i64_in _ (by omega)
          have HPB := Lib.hid hpb
          clear hpb
          gi_wp2
          refine hR.mono ?_
          rintro e W3 (⟨rfl, hJ3, hk3⟩ | ⟨rfl, hJx3⟩)
          · have HJ := Lib.hid hJ3
            have HT3 := Lib.hid (hk3 hT.out)
            clear hJ3 hk3
            gi_wp2
            go_roundw
            case rel =>
              first
                | exact ⟨k + 1, by omega, by go_num, HJ, HT3⟩
                | (repeat apply Exists.intro
                   exact ⟨⟨k + 1, by omega, by go_num, HJ, HT3⟩, rfl⟩)
            case measure => simp [intOf]; omega
          · gi_wp2
            refine bodyPost_ret (results_none rfl _ _ _) rfl ?_
            exact ⟨⟨_, rfl⟩, .inr ⟨pos n 1 + k + 1, by have := HPB.out; omega, hJx3⟩⟩
        · obtain rfl : k = M := by omega
          have dk : decide ((k : Int) + 1 < (k : Int) + 1) = false := by simp
          gi_wp2
          go_roundw
          case rel => exact ⟨2, by omega, by go_num, by rw [show pos n 2 = pos n 1 + k by rw [← HM.out]; exact (pos_next n 1 (by decide)).symm]; exact hJs, hT⟩
          case measure => simp [intOf]
    · gi_wp2
      gi_loopw [4] (fun i wr => i = .int .i64 1 ∧ Hid (J (pos n 2) wr) ∧ Hid (NB tb n wr)) (fun i _ => 0)
      case atStart => exact ⟨rfl, hJs, hT⟩
      case round =>
        clear hJs hT hnb
        obtain ⟨rfl, hJs, hT⟩ := hrel
        have hnb : wr.cell? ⟨tb, 0, none⟩ = some (.int .i64 (n)) := hT.out
        have hM1 : 1 ≤ M := by
          have h1 : 2 ^ 1 ≤ 2 ^ n := Nat.pow_le_pow_right (by omega) hn
          have := HM.out
          omega
        have d0 : decide (1 < (M : Int) + 1) = true := by simp; omega
        have d1 : decide ((0 : Int) < (M : Int)) = true := by simp; omega
        have d2 : decide (0 < M) = true := by simp; omega
        clear hM1
        gi_wp2
        go_roundw
        case rel =>
          first
            | exact ⟨3, by omega, by go_num, by rw [← pos_two]; exact hJs, hT⟩
            | (repeat apply Exists.intro
               exact ⟨⟨3, by omega, by go_num, by rw [← pos_two]; exact hJs, hT⟩, rfl⟩)
        case measure => simp [intOf]
    · skip
      gi_wp2
      gi_loopw [4] (fun i wr => ∃ k : Nat, k ≤ M ∧ i = .int .i64 ((k : Int) + 1) ∧ Hid (J (pos n 3 + k) wr) ∧ Hid (NB tb n wr)) (fun i _ => M + 1 - (intOf i).toNat)
      case atStart => exact ⟨0, Nat.zero_le _, rfl, hJs, hT⟩
      case round =>
        clear hJs hT hnb
        obtain ⟨k, hk, rfl, hJs, hT⟩ := hrel
        have hnb : wr.cell? ⟨tb, 0, none⟩ = some (.int .i64 (n)) := hT.out
        by_cases hkM : k < M
        · have hpb : pos n 3 + M ≤ 4 * (2 ^ n - 1) := by rw [HM.out]; unfold pos; rw [HM.out]; simp; omega
          obtain ⟨fn, tmps, assign, body, hy, hR⟩ := HY.out _ wr hJs.out (by omega)
          rw [PLv_eq n 3 k (by decide) (by rw [HM.out]; exact hkM)] at hy
          push_cast at hy
          try simp only [show (3 : Int) - 2 = 1 by decide] at hy
          have dk : decide ((k : Int) + 1 < (M : Int) + 1) = true := by simp; omega
          have dk' : decide (k + 1 < M + 1) = true := by simp; omega
          have dk2 : decide ((k : Int) < (M : Int)) = true := by simp; omega
          have v9 : IntKind.i64.wrap ((k : Int) + 1 + 1) = (k : Int) + 1 + 1 := IntWalk.i64_in _ (by omega)
          have HPB := Lib.hid hpb
          clear hpb
          gi_wp2
          refine hR.mono ?_
          rintro e W3 (⟨rfl, hJ3, hk3⟩ | ⟨rfl, hJx3⟩)
          · have HJ := Lib.hid hJ3
            have HT3 := Lib.hid (hk3 hT.out)
            clear hJ3 hk3
            gi_wp2
            go_roundw
            case rel =>
              first
                | exact ⟨k + 1, by omega, by go_num, HJ, HT3⟩
                | (repeat apply Exists.intro
                   exact ⟨⟨k + 1, by omega, by go_num, HJ, HT3⟩, rfl⟩)
            case measure => simp [intOf]; omega
          · gi_wp2
            refine bodyPost_ret (results_none rfl _ _ _) rfl ?_
            exact ⟨⟨_, rfl⟩, .inr ⟨pos n 3 + k + 1, by have := HPB.out; omega, hJx3⟩⟩
        · obtain rfl : k = M := by omega
          have dk : decide ((k : Int) + 1 < (k : Int) + 1) = false := by simp
          gi_wp2
          go_roundw
          case rel => exact ⟨4, by omega, by go_num, by rw [show pos n 4 = pos n 3 + k by rw [← HM.out]; exact (pos_next n 3 (by decide)).symm]; exact hJs, hT⟩
          case measure => simp [intOf]
    · skip
      gi_wp2
      gi_loopw [4] (fun i wr => ∃ k : Nat, k ≤ M ∧ i = .int .i64 ((k : Int) + 1) ∧ Hid (J (pos n 4 + k) wr) ∧ Hid (NB tb n wr)) (fun i _ => M + 1 - (intOf i).toNat)
      case atStart => exact ⟨0, Nat.zero_le _, rfl, hJs, hT⟩
      case round =>
        clear hJs hT hnb
        obtain ⟨k, hk, rfl, hJs, hT⟩ := hrel
        have hnb : wr.cell? ⟨tb, 0, none⟩ = some (.int .i64 (n)) := hT.out
        by_cases hkM : k < M
        · have hpb : pos n 4 + M ≤ 4 * (2 ^ n - 1) := by rw [HM.out]; unfold pos; rw [HM.out]; simp; omega
          obtain ⟨fn, tmps, assign, body, hy, hR⟩ := HY.out _ wr hJs.out (by omega)
          rw [PLv_eq n 4 k (by decide) (by rw [HM.out]; exact hkM)] at hy
          push_cast at hy
          try simp only [show (4 : Int) - 2 = 2 by decide] at hy
          have dk : decide ((k : Int) + 1 < (M : Int) + 1) = true := by simp; omega
          have dk' : decide (k + 1 < M + 1) = true := by simp; omega
          have dk2 : decide ((k : Int) < (M : Int)) = true := by simp; omega
          have v9 : IntKind.i64.wrap ((k : Int) + 1 + 1) = (k : Int) + 1 + 1 := IntWalk.i64_in _ (by omega)
          have HPB := Lib.hid hpb
          clear hpb
          gi_wp2
          refine hR.mono ?_
          rintro e W3 (⟨rfl, hJ3, hk3⟩ | ⟨rfl, hJx3⟩)
          · have HJ := Lib.hid hJ3
            have HT3 := Lib.hid (hk3 hT.out)
            clear hJ3 hk3
            gi_wp2
            go_roundw
            case rel =>
              first
                | exact ⟨k + 1, by omega, by go_num, HJ, HT3⟩
                | (repeat apply Exists.intro
                   exact ⟨⟨k + 1, by omega, by go_num, HJ, HT3⟩, rfl⟩)
            case measure => simp [intOf]; omega
          · gi_wp2
            refine bodyPost_ret (results_none rfl _ _ _) rfl ?_
            exact ⟨⟨_, rfl⟩, .inr ⟨pos n 4 + k + 1, by have := HPB.out; omega, hJx3⟩⟩
        · obtain rfl : k = M := by omega
          have dk : decide ((k : Int) + 1 < (k : Int) + 1) = false := by simp
          gi_wp2
          go_roundw
          case rel => exact ⟨5, by omega, by go_num, by rw [show pos n 5 = pos n 4 + k by rw [← HM.out]; exact (pos_next n 4 (by decide)).symm]; exact hJs, hT⟩
          case measure => simp [intOf]
    · gi_wp2
      go_end0
      have e : pos n 5 = 4 * (2 ^ n - 1) := by unfold pos; simp
      exact ⟨⟨_, rfl⟩, .inl (by rw [← e]; exact hJs.out)⟩
theorem all_stops (k0 : Nat) (hn0 : 1 ≤ k0) (tb n : Nat) (hn : 1 ≤ n) (hn5 : n ≤ 5) (w : World) (hT : NB tb n w) :
    SeqStopsK Fence.wide k0 Try.prog 27 #[.pointer (some ⟨tb, 0, none⟩)] (fun x : Fin (4 * (2 ^ n - 1)) => #[.agg #[.int .i64 ((PLv n x.val).1), .int .i64 (((PLv n x.val).2 : Nat))]]) (fun A B => NB tb n A → NB tb n B) (fun ys => ys = List.finRange (4 * (2 ^ n - 1)))
      (fun pre => ∃ k, k ≤ 4 * (2 ^ n - 1) ∧ pre = (List.finRange (4 * (2 ^ n - 1))).take k) (4 * (2 ^ n - 1)) w := fun l J Jx W' hW' _ _ hY h0 =>
  (all1_in k0 hn0 l tb n hn hn5 (fun k W => J ((List.finRange (4 * (2 ^ n - 1))).take k) W) (fun k W => Jx ((List.finRange (4 * (2 ^ n - 1))).take k) W)
    (fun k W1 hJ hk => by
      have h1 := hY _ (⟨k, hk⟩ : Fin (4 * (2 ^ n - 1))) W1 hJ (by rw [List.length_take]; simp; omega)
      rw [← finN_take hk] at h1
      exact h1) W' (bCs hW' hT) h0).mono fun e w2 h => ⟨h.1, by
    rcases h.2 with h | ⟨k, h1, h2⟩
    · exact .inl ⟨_, rfl, by
        rw [List.take_of_length_le (by simp)] at h
        exact h⟩
    · exact .inr ⟨_, ⟨k, h1, rfl⟩, h2⟩⟩
end Go.Proofs.Ytoooihoaapfjeaa

namespace Go.Proofs.Ytoooihoaapfjeaa
open Go.RowKit
set_option linter.unusedVariables false
set_option linter.unusedSimpArgs false
/-- 'append(s, x)' of one element, which lies in block B. -/
theorem wpAppG {W : World} {ops : Array Oper} {rest : List Oper} {o : Oper} {a : Act} {Q : Exit → Act → World → Prop} {t e size bytes : Nat} {z : Value} (hE : ElemOk t e size bytes z)
    (hgd : o.guard = none) (s x : Operand) (ho : o.op = .call { callee := .builtin .append, args := #[s, x], argTypes := #[t, t] })
    (base : Nat) (v : Value) (n : Nat) (xs : List Value) (cs : Array Value) (B : Nat) (hs : a.eval s = v) (hown : W.ownsRow base e size v n xs)
    (hx : a.eval x = .slice (some ⟨B, 0, none⟩) 1 1) (hcs : ∀ j u, cs[j]? = some u → W.cell? ⟨B, j, none⟩ = some u) (hl : cs.size = size) (h1 : ∀ u ∈ cs.toList, u.oneCell' = true)
    (hb : bytes ≤ 4096) (hn : n ≤ 1000000000) (hbase : base ≤ W.heap.size)
    (h : ∀ v' w', w'.ownsRow base e size v' (n + 1) (xs ++ cs.toList) → W.grownBy w' v.ownBlock → wpList Try.prog ops Q rest (a.put o.dst v') w') : wpList Try.prog ops Q (o :: rest) a W := by
  obtain ⟨h2, h3, h4, h5⟩ := hE
  obtain ⟨i0, hi, hz0, hz1, hz2⟩ := info_parts h3
  refine wpList_append_own _ hgd s x t ho base e i0 z size bytes h2 hi hz0 hz1 hz2 h4 h5 v n xs hs hown ⟨B, 0, none⟩ 1 1 cs.toList hx (by simpa using hl) ?_ h1 (by unfold maxLen; omega) ?_ hbase ?_
  · intro j u hj
    have : (⟨B, 0, none⟩ : Addr).add j = ⟨B, j, none⟩ := by rw [Addr.add_lit]; simp
    rw [this]
    exact hcs j u (by simpa using hj)
  · calc (n + 1) * bytes ≤ 1000000001 * 4096 := Nat.mul_le_mul (by omega) hb
      _ ≤ 140737488355328 := by omega
  · intro v' w' hown' hg _
    exact h v' w' hown' hg
theorem okLists : ElemOk 53 22 1 24 (.slice none 0 0) := ⟨Try.underlying53, by kernel_rfl, rfl, by omega⟩
theorem rowIs_ne_type {w : World} {b b' t t' n n' : Nat} {f f' : Nat → Value} (h : w.rowIs b t n f) (h' : w.rowIs b' t' n' f') (hne : t ≠ t') : b ≠ b' := by
  rintro rfl
  obtain ⟨c, h1, _⟩ := h
  obtain ⟨c', h2, _⟩ := h'
  rw [h1] at h2
  injection h2 with h2
  injection h2 with _ h3
  exact hne h3
theorem rowIs_not_ownL {A : World} {b t n base e size k : Nat} {f : Nat → Value} {v : Value} {xs : List Value} (hr : A.rowIs b t n f) (h : A.ownsRow base e size v k xs) (hne : t ≠ e) : some b ≠ v.ownBlock := by
  rcases h.2 with ⟨rfl, _⟩ | ⟨g, cap, cur, rfl, _, hg, _⟩
  · simp [Value.ownBlock]
  · intro e'
    have e2 : b = g := by simpa [Value.ownBlock] using e'
    subst e2
    obtain ⟨cs, hb, _⟩ := hr
    rw [hb] at hg
    injection hg with hg
    injection hg with _ h5
    exact hne h5
/-- A list of integers in a block of its own. -/
def IntRow (w : World) (v : Value) (zs : List Int) : Prop :=
  (v = .slice none 0 0 ∧ zs = []) ∨ ∃ g cap f c, v = .slice (some ⟨g, 0, none⟩) zs.length c ∧ w.rowIs g 3 cap f ∧ zs.length ≤ cap ∧ ∀ j, j < zs.length → f j = .int .i64 (zs.getD j 0)
theorem IntRow.of_own {w : World} {base : Nat} {v : Value} {zs : List Int} (h : w.ownsRow base 3 1 v zs.length (zs.map (Value.int .i64))) : IntRow w v zs := by
  rcases h.2 with ⟨h1, h2⟩ | ⟨g, cap, cur, h1, h2, h3, h4, h5, h6, h7⟩
  · exact .inl ⟨h1, List.length_eq_zero_iff.1 h2⟩
  · refine .inr ⟨g, cap, fun j => cur.toList.getD j (.int .i64 0), cap, h1, ⟨cur, h3, by omega, fun i hi => ?_⟩, h4, fun j hj => ?_⟩
    · have : i < cur.toList.length := by simp; omega
      show cur[i]? = some (cur.toList.getD i (.int .i64 0))
      rw [List.getD_eq_getElem?_getD, List.getElem?_eq_getElem this, Option.getD_some]
      simp
    · have e : (cur.toList.take (zs.length * 1))[j]? = (zs.map (Value.int .i64))[j]? := by rw [h7]
      rw [List.getElem?_take, if_pos (by omega), List.getElem?_map, List.getElem?_eq_getElem hj] at e
      simp only [List.getD_eq_getElem?_getD, e, List.getElem?_eq_getElem hj, Option.map_some, Option.getD_some]
theorem IntRow.ints {w : World} {v : Value} {zs : List Int} (h : IntRow w v zs) : ∃ a c, v = .slice a zs.length c ∧ IsInts w a zs.length zs := by
  rcases h with ⟨rfl, rfl⟩ | ⟨g, cap, f, c, rfl, h2, h3, h4⟩
  · exact ⟨none, 0, rfl, rfl, fun h => by simp at h⟩
  · exact ⟨_, _, rfl, rfl, fun _ => ⟨g, 0, rfl, h2.lt, fun j hj => by rw [Nat.zero_add, h2.cell (by omega), h4 j hj]⟩⟩
theorem IntRow.of_block {w w' : World} {v : Value} {zs : List Int} (h : IntRow w v zs) (hb : ∀ g cap f, w.rowIs g 3 cap f → w'.heap[g]? = w.heap[g]?) : IntRow w' v zs := by
  rcases h with h | ⟨g, cap, f, c, h1, h2, h3, h4⟩
  · exact .inl h
  · exact .inr ⟨g, cap, f, c, h1, h2.of_block (hb g cap f h2), h3, h4⟩
/-- Lists that a call has made, one behind the other. -/
def OutL (base : Nat) (v : Value) (LL : List (List Int)) (w : World) : Prop :=
  ∃ vs : List Value, w.ownsRow base 22 1 v LL.length vs ∧ ∀ j, j < LL.length → IntRow w (vs.getD j (.slice none 0 0)) (LL.getD j [])
theorem OutL.nil (base : Nat) (w : World) : OutL base (.slice none 0 0) [] w := ⟨[], World.ownsRow_nil _ _ _ _, fun j h => by simp at h⟩
theorem OutL.form {base : Nat} {v : Value} {LL : List (List Int)} {w : World} (h : OutL base v LL w) : ∃ A c, v = .slice A LL.length c := by
  obtain ⟨vs, h1, _⟩ := h
  exact own_form h1
theorem OutL.of_block {base : Nat} {v : Value} {LL : List (List Int)} {w w' : World} (h : OutL base v LL w) (h1 : ∀ g cap f, w.rowIs g 3 cap f → w'.heap[g]? = w.heap[g]?) (h2 : ∀ g xs n c, w.ownsRow base 22 1 (.slice (some ⟨g, 0, none⟩) n c) n xs → w'.heap[g]? = w.heap[g]?) : OutL base v LL w' := by
  obtain ⟨vs, ho, hr⟩ := h
  refine ⟨vs, ⟨ho.1, ?_⟩, fun j hj => (hr j hj).of_block h1⟩
  rcases ho.2 with hn | ⟨g, cap, cur, rfl, e2, e3, e4⟩
  · exact .inl hn
  · exact .inr ⟨g, cap, cur, rfl, e2, by rw [h2 g _ _ _ ho]; exact e3, e4⟩
theorem OutL.below {base : Nat} {v : Value} {LL : List (List Int)} {w w' : World} (h : OutL base v LL w) (hb : Below w.heap.size w w') : OutL base v LL w' :=
  h.of_block (fun g cap f hg => hb.block g hg.lt) (fun g xs n c ho => hb.block g (ho.lt g rfl).2)
/-- What is stored into a row of another type. -/
theorem OutL.belowX {base mb t n : Nat} {f : Nat → Value} {v : Value} {LL : List (List Int)} {w w' : World} (h : OutL base v LL w) (hX : BelowX w.heap.size mb w w') (hr : w.rowIs mb t n f) (h1 : t ≠ 3) (h2 : t ≠ 22) : OutL base v LL w' :=
  h.of_block (fun g cap f' hg => hX.block g hg.lt (rowIs_ne_type hg hr (Ne.symm h1))) (fun g xs n c ho => hX.block g (ho.lt g rfl).2 (by
    have := rowIs_not_ownL hr ho h2
    intro e
    exact this (by simp [Value.ownBlock, e])))
/-- Another list behind them: its slice lay in a block of one cell. -/
theorem OutL.app {base : Nat} {v v' x : Value} {LL : List (List Int)} {zs : List Int} {vs : List Value} {w wa w' : World} (ho : w.ownsRow base 22 1 v LL.length vs) (hr : ∀ j, j < LL.length → IntRow w (vs.getD j (.slice none 0 0)) (LL.getD j [])) (hx : IntRow w x zs) (ha : Below w.heap.size w wa) (hown : w'.ownsRow base 22 1 v' (LL.length + 1) (vs ++ [x])) (hg : wa.grownBy w' v.ownBlock) : OutL base v' (LL ++ [zs]) w' := by
  have hb : ∀ g cap f, w.rowIs g 3 cap f → w'.heap[g]? = w.heap[g]? := fun g cap f hr => by
    rw [hg.block g (Nat.lt_of_lt_of_le hr.lt ha.size) (rowIs_not_ownL hr ho (by decide)), ha.block g hr.lt]
  have hl : vs.length = LL.length := by have := ho.1; omega
  refine ⟨vs ++ [x], by rw [List.length_append]; exact hown, fun j hj => ?_⟩
  rw [List.length_append, List.length_cons, List.length_nil] at hj
  by_cases e : j < LL.length
  · rw [List.getD_eq_getElem?_getD, List.getD_eq_getElem?_getD, List.getElem?_append_left (by omega), List.getElem?_append_left e, ← List.getD_eq_getElem?_getD, ← List.getD_eq_getElem?_getD]
    exact (hr j e).of_block hb
  · obtain rfl : j = LL.length := by omega
    rw [List.getD_eq_getElem?_getD, List.getD_eq_getElem?_getD, List.getElem?_append_right (by omega), List.getElem?_append_right (Nat.le_refl _), hl]
    simpa using hx.of_block hb
/-- Lists of integers that came in. -/
def IsLists (w : World) (a : Option Addr) (n : Nat) (LL : List (List Int)) : Prop :=
  LL.length = n ∧ (0 < n → ∃ b o, a = some ⟨b, o, none⟩ ∧ b < w.heap.size ∧ ∀ j, j < n → ∃ A c, w.cell? ⟨b, o + j, none⟩ = some (.slice A (LL.getD j []).length c) ∧ IsInts w A (LL.getD j []).length (LL.getD j []))
theorem IsLists.below {w w' : World} {a : Option Addr} {n : Nat} {LL : List (List Int)} (h : IsLists w a n LL) (hb : Below w.heap.size w w') : IsLists w' a n LL := by
  refine ⟨h.1, fun hn => ?_⟩
  obtain ⟨b, o, h1, h2, h3⟩ := h.2 hn
  refine ⟨b, o, h1, Nat.lt_of_lt_of_le h2 hb.size, fun j hj => ?_⟩
  obtain ⟨A, c, h4, h5⟩ := h3 j hj
  exact ⟨A, c, bCs hb h4, h5.below hb⟩
theorem OutL.lists {base : Nat} {v : Value} {LL : List (List Int)} {w : World} (h : OutL base v LL w) : ∃ a c, v = .slice a LL.length c ∧ IsLists w a LL.length LL := by
  obtain ⟨vs, ho, hr⟩ := h
  rcases ho.2 with ⟨h1, h2⟩ | ⟨g, cap, cur, rfl, e2, e3, e4⟩
  · exact ⟨none, 0, by rw [h1, h2], rfl, fun h => by omega⟩
  · refine ⟨_, _, rfl, rfl, fun _ => ⟨g, 0, rfl, (ho.lt g rfl).2, fun j hj => ?_⟩⟩
    obtain ⟨A, c, h1, h2⟩ := (hr j hj).ints
    refine ⟨A, c, ?_, h2⟩
    have hl : vs.length = LL.length := by have := ho.1; omega
    rw [Nat.zero_add, ho.cellAt j (by omega), ← h1, List.getD_eq_getElem?_getD, List.getElem?_eq_getElem (by omega)]
    rfl
def natLL (LL : List (List Nat)) : List (List Int) := LL.map natI
theorem natLL_len (LL : List (List Nat)) : (natLL LL).length = LL.length := by simp [natLL]
theorem natLL_get (LL : List (List Nat)) (j : Nat) : (natLL LL).getD j [] = natI (LL.getD j []) := by
  unfold natLL
  rw [List.getD_eq_getElem?_getD, List.getElem?_map, List.getD_eq_getElem?_getD]
  cases LL[j]? <;> rfl
theorem IntRow.of_nats {w : World} {base : Nat} {v : Value} {L : List Nat} (h : w.ownsRow base 3 1 v L.length (natV L)) : IntRow w v (natI L) := by
  refine IntRow.of_own (base := base) ?_
  rw [natI_map, show (natI L).length = L.length by simp [natI]]
  exact h
end Go.Proofs.Ytoooihoaapfjeaa
