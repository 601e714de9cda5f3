/- Lemmas and contracts of functions (what each call returns, and that it changes nothing that was there) that the proof of a law of this seat uses; each lemma states its own conditions. -/
import Derived.Test.YtikddfjickkhhaaTw1
import Derived.Test.YtikddfjickkhhaaTw2
import Derived.Test.YtikddfjickkhhaaBoolRow
namespace Go.Proofs.Ytikddfjickkhhaa
open Go.RowKit
set_option linter.unusedVariables false
set_option linter.unusedSimpArgs false
open Tw
/-- The bits of a satin. -/
def satL (n k : Nat) : List Bool := (List.range (n * n)).map fun j => decide (j % n = j / n * k % n)
theorem mem_moves {n k : Nat} : k ∈ movesL n ↔ mvOk n k := by
  unfold movesL mvOk
  rw [List.mem_filter, List.mem_range]
  unfold mvP
  simp only [Bool.and_eq_true, decide_eq_true_eq, beq_iff_eq]
  constructor
  · rintro ⟨h1, h2, h3⟩; exact ⟨h2, by omega, h3⟩
  · rintro ⟨h1, h2, h3⟩; exact ⟨by omega, h1, h3⟩
def satZ (n : Nat) : List Int := [1, (n : Int) - 1]
theorem sat_twE {n k : Nat} (h : mvOk n k) (hn : n ≤ 64) : twE (satZ n) k = 0 := by
  obtain ⟨h1, h2, _⟩ := h
  have hr : runsOk (satZ n) := by
    intro j hj
    have hj2 : j = 0 ∨ j = 1 := by simp [satZ] at hj; omega
    rcases hj2 with rfl | rfl <;> simp [satZ] <;> omega
  have hs : sumTo (satZ n) (satZ n).length = n := by simp [satZ, sumTo]; omega
  rw [twE_rest (by simp [satZ]) hr, hs, if_neg (by omega), if_neg (by omega)]
theorem sat_sum (n : Nat) : sumTo (satZ n) (satZ n).length = n := by simp [satZ, sumTo]; omega
theorem sat_row {n p : Nat} (hn : 2 ≤ n) (hp : p < n) : (rowTo (satZ n) (satZ n).length).getD p false = decide (p = 0) := by
  have e : rowTo (satZ n) (satZ n).length = true :: List.replicate (n - 1) false := by
    have e1 : ((n : Int) - 1).toNat = n - 1 := by omega
    simp [satZ, rowTo, e1]
  rw [e]
  cases p with
  | zero => simp
  | succ p => simp [List.getD, List.getElem?_replicate]; split <;> rfl
theorem sat_bits {n k : Nat} (hn : 2 ≤ n) : bitsTo (rowTo (satZ n) (satZ n).length) n k (n * n) = satL n k := by
  unfold bitsTo satL
  apply List.map_congr_left
  intro j hj
  rw [sat_row hn (plc_lt (by omega))]
  have hx : j % n < n := Nat.mod_lt _ (by omega)
  have h := place_zero (n := n) (k := k) (x := j % n) (y := j / n) hx
  have h1 := Int.emod_nonneg (((j % n : Nat) : Int) - (j / n * k : Nat)) (show (n : Int) ≠ 0 by omega)
  have e : plc n k (j % n) (j / n) = ((((j % n : Nat) : Int) - (j / n * k : Nat)) % n).toNat := by
    unfold plc; rw [Int.natCast_mul]
  rw [e]
  congr 1
  apply propext
  rw [← h]
  omega
def SatinPost (n : Nat) (move : Int) (w : World) (r : Ending) (w' : World) : Prop :=
  ((∀ k : Nat, move = k → ¬ mvOk n k) ∧ r = .returned (.tuple #[.agg #[.int .i64 0, .int .i64 0, .slice none 0 0], .int .i64 (6)]) ∧ Below w.heap.size w w') ∨
  (∃ k : Nat, move = k ∧ mvOk n k ∧ ∃ A c, r = .returned (.tuple #[.agg #[.int .i64 (n), .int .i64 (n), .slice A (n * n) c], .int .i64 (0)]) ∧ IsBools w' A (n * n) (satL n k) ∧ Below w.heap.size w w')
set_option maxRecDepth 100000 in
set_option maxHeartbeats 8000000 in
theorem Satin_bad (n move : Int) (w : World) (h0 : (-9223372036854775808 ≤ n ∧ n ≤ 9223372036854775807)) (h : n < 1 ∨ 64 < n) :
    Calls Try.prog 16 #[.int .i64 (n), .int .i64 (move)] w fun e w' => e = .returned (.tuple #[.agg #[.int .i64 0, .int .i64 0, .slice none 0 0], .int .i64 (3)]) ∧ Below w.heap.size w w' := by
  have HM := Lib.hid (fun w => Moves_bad n w h0 h)
  clear h
  go_enter Try.func16, Try.ntmps16
  (go_wp2_with fail; refine (HM.out _).mono ?_; rintro r w1 ⟨rfl, hb⟩; obtain ⟨E, d, rfl⟩ := bExt hb; clear hb)
  go_wp2
  refine bodyPost_ret (v := .tuple #[.agg #[.int .i64 0, .int .i64 0, .slice none 0 0], .int .i64 (3)]) (by simp [results, Try.results16, go_sem]) rfl ⟨rfl, (by repeat (first | exact Below.refl _ _ | refine Below.drew ?_ | refine below_drewN ?_ _ | refine Below.alloc ?_ (by first | exact Nat.le_refl _ | (simp; done) | (simp; omega) | omega) _ | refine Below.setCell ?_ (by first | exact Nat.le_refl _ | (simp; done) | (simp; omega) | omega) _ | refine bExtW ?_ (by first | exact Nat.le_refl _ | (simp; done) | (simp; omega) | omega) | refine Below.trans ?_ (Below.mono (by assumption) (by first | exact Nat.le_refl _ | (simp; done) | (simp; omega) | omega))))⟩
set_option maxRecDepth 100000 in
set_option maxHeartbeats 8000000 in
theorem Satin_any (n : Nat) (move : Int) (w : World) (h1 : 1 ≤ n) (h2 : n ≤ 64) (hm : (-9223372036854775808 ≤ move ∧ move ≤ 9223372036854775807)) :
    Calls Try.prog 16 #[.int .i64 (n), .int .i64 (move)] w (SatinPost n move w) := by
  have HM := Lib.hid (fun w => Moves_ok n w h1 h2)
  have HMem := Lib.hid (fun k => mem_moves (n := n) (k := k))
  have hll := movesL_len n h2
  go_enter Try.func16, Try.ntmps16
  go_wp2_with fail
  refine (HM.out _).mono ?_
  rintro r w1 ⟨A, c, rfl, hI, hb⟩
  have HB0 := Lib.hid (show Below w.heap.size w w1 from by
    have := hb; exact ((Below.refl _ _).alloc (Nat.le_refl _) _).trans (hb.mono (by simp)))
  have hq := World.rowIs_alloc w #[.int .i64 0, .int .i64 0, .slice none 0 0] 26 (fun j => if j = 0 then .int .i64 0 else if j = 1 then .int .i64 0 else .slice none 0 0) (by
    intro j hj
    have hj3 : j = 0 ∨ j = 1 ∨ j = 2 := by simp at hj; omega
    rcases hj3 with rfl | rfl | rfl <;> rfl)
  have HQ : Hid (w1.rowIs w.heap.size 26 3 (fun j => if j = 0 then .int .i64 0 else if j = 1 then .int .i64 0 else .slice none 0 0)) := Lib.hid (rowBelow hq hb (by simp))
  have HI := Lib.hid hI
  have hsz := hb.size
  simp only [World.size_alloc] at hsz
  clear hq hI hb
  generalize hL : movesL n = L at *
  have HL := Lib.hid hL
  clear hL
  obtain ⟨q, hqe⟩ : ∃ q, q = w.heap.size := ⟨_, rfl⟩
  rw [← hqe] at HQ hsz ⊢
  have HQE := Lib.hid hqe
  clear hqe
  go_wp2_with fail
  go_loop [21] (fun i => ∃ j : Nat, j ≤ L.length ∧ i = .int .i64 j ∧ Hid (∀ i, i < j → L[i]? ≠ none → (L.getD i 0 : Int) ≠ move)) (fun i => L.length - (intOf i).toNat)
  case atStart => exact ⟨0, Nat.zero_le _, rfl, Lib.hid (by omega)⟩
  case round =>
    obtain ⟨j, hj, rfl, HJ⟩ := hrel
    have q0 : w1.cell? ⟨q, 0, none⟩ = some (.int .i64 0) := HQ.out.cell (i := 0) (by omega)
    have q1 : w1.cell? ⟨q, 1, none⟩ = some (.int .i64 0) := HQ.out.cell (i := 1) (by omega)
    have q2 : w1.cell? ⟨q, 2, none⟩ = some (.slice none 0 0) := HQ.out.cell (i := 2) (by omega)
    have f0 := HQ.out.frozen 0; have f1 := HQ.out.frozen 1; have f2 := HQ.out.frozen 2
    have lq : LtW q w1 := HQ.out.lt
    by_cases hjL : j < L.length
    · obtain ⟨b, o, rfl, hbl, hc⟩ := HI.out.2 (by omega)
      have c0 := hc j hjL
      have e0 : (natI L).getD j 0 = (L.getD j 0 : Nat) := by simp [natI, List.getD, hjL]
      rw [e0] at c0
      have hmem : L.getD j 0 ∈ L := by rw [List.getD_eq_getElem?_getD, List.getElem?_eq_getElem hjL]; exact List.getElem_mem hjL
      have HME := Lib.hid hmem
      obtain ⟨k, hk⟩ : ∃ k, L.getD j 0 = k := ⟨_, rfl⟩
      rw [hk] at c0 HME
      have HK := Lib.hid hk
      clear hc hk e0 hmem hbl
      by_cases hkm : (k : Int) = move
      · subst hkm
        have hok : mvOk n k := (HMem.out k).1 HME.out
        have HOK := Lib.hid hok
        have hk2 : 2 ≤ k ∧ k + 2 ≤ n := ⟨hok.1, hok.2.1⟩
        have HTE := Lib.hid (sat_twE hok h2)
        have HTB := Lib.hid (sat_bits (n := n) (k := k) (by omega))
        have HTS := Lib.hid (sat_sum n)
        clear hok
        go_wp2_with fail
        refine (Twill_any (some ⟨w1.heap.size, 0, none⟩) 2 2 (satZ n) k _ ⟨rfl, fun _ => ⟨w1.heap.size, 0, rfl, by simp, ?_⟩⟩ (by omega) (by omega)).mono ?_
        · intro i hi
          have hi2 : i = 0 ∨ i = 1 := by omega
          rcases hi2 with rfl | rfl <;> simp [satZ]
        rintro r w2 (⟨hbad, _⟩ | ⟨_, N, A2, c2, hN, rfl, hIB, hb2⟩)
        · exact absurd HTE.out hbad
        · rw [HTS.out] at hN
          obtain rfl : N = n := by omega
          rw [HTB.out] at hIB
          have hQ2 := rowBelow (HQ.out.alloc (.cells #[.int .i64 (1), .int .i64 ((N:Int)-1)] 3)) hb2 (by rw [World.size_alloc]; have := lq.lt; omega)
          clear q0 q1 q2 f0 f1 f2
          have q0 : w2.cell? ⟨q, 0, none⟩ = some (.int .i64 0) := hQ2.cell (i := 0) (by omega)
          have q1 : w2.cell? ⟨q, 1, none⟩ = some (.int .i64 0) := hQ2.cell (i := 1) (by omega)
          have q2 : w2.cell? ⟨q, 2, none⟩ = some (.slice none 0 0) := hQ2.cell (i := 2) (by omega)
          have f0 := hQ2.frozen 0; have f1 := hQ2.frozen 1; have f2 := hQ2.frozen 2
          have HFin := Lib.hid (storeTruth (N:Int) (N:Int) A2 (N * N) c2 hQ2 hIB.bits).1
          have HB0' := HB0.out
          have HBW : Hid (Below q w w2) := Lib.hid (by rw [HQE.out]; exact HB0'.trans ((((Below.refl _ w1).alloc (Nat.le_refl _) _).trans (hb2.mono (by simp))).mono HB0'.size))
          clear hQ2 hIB hb2 HB0'
          go_wp2
          refine bodyPost_ret (v := .tuple #[.agg #[.int .i64 (N), .int .i64 (N), .slice A2 (N * N) c2], .int .i64 (0)]) (by simp [results, Try.results16, go_sem, q0, q1, q2]) rfl (.inr ⟨k, rfl, HOK.out, A2, c2, rfl, HFin.out, ?_⟩)
          rw [← HQE.out]
          exact ((HBW.out.setCell (by simp) _).setCell (by simp) _).setCell (by simp) _
      · have hne : ((k : Int) == move) = false := by simpa using hkm
        have HJ1 : Hid (∀ i, i < j + 1 → L[i]? ≠ none → (L.getD i 0 : Int) ≠ move) := Lib.hid (by
          intro i hi hn'
          by_cases e : i = j
          · subst e; rw [HK.out]; exact hkm
          · exact HJ.out i (by omega) hn')
        clear hkm
        go_wp2
        go_round
        case rel => exact ⟨j + 1, by omega, by go_num, HJ1⟩
        case measure => simp [intOf]; omega
    · have HN : Hid (∀ k : Nat, move = k → ¬ mvOk n k) := Lib.hid (by
        rintro k rfl hok
        have hmem := (HMem.out k).2 hok
        obtain ⟨i, hi, he⟩ := List.getElem_of_mem hmem
        have := HJ.out i (by omega) (by rw [List.getElem?_eq_getElem hi]; simp)
        rw [List.getD_eq_getElem?_getD, List.getElem?_eq_getElem hi] at this
        simp at this
        omega)
      go_wp2
      refine bodyPost_ret (v := .tuple #[.agg #[.int .i64 0, .int .i64 0, .slice none 0 0], .int .i64 (6)]) (by simp [results, Try.results16, go_sem, q0, q1, q2]) rfl (.inl ⟨HN.out, rfl, ?_⟩)
      exact (by have hb := HQE.out; have := HB0.out; subst hb; repeat (first | exact this | refine Below.setCell ?_ (by simp) _))
end Go.Proofs.Ytikddfjickkhhaa
