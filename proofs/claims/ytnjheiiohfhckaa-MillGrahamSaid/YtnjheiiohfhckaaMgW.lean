/- Lemmas and contracts of functions (what each call returns, and that it changes nothing that was there) that the proof of a law of this seat uses; each lemma states its own conditions. -/
import Derived.Test.YtnjheiiohfhckaaOwn
import Derived.Test.YtnjheiiohfhckaaMgP
namespace Go.Proofs.Ytnjheiiohfhckaa
open Go.RowKit
open Mg
theorem okJobs : ElemOk 24 29 2 16 (.agg #[.int .i64 0, .int .i64 0]) := ⟨Try.underlying24, by kernel_rfl, rfl, by omega⟩
def wrongM (n l : Int) : Int := if n > 64 then 5 else if l < 1 ∨ l > 16 then 3 else 0
set_option maxRecDepth 100000 in
set_option maxHeartbeats 400000 in
theorem wrong_any (n l : Int) (w : World) : Calls Try.prog 30 #[.int .i64 (n), .int .i64 (l)] w fun r w' => r = .returned (.int .i64 (wrongM n l)) ∧ w = w' := by
  by_cases h1 : 64 < n
  · have HE := Lib.hid (show wrongM n l = 5 by simp [wrongM, h1])
    go_enter Try.func30, Try.ntmps30
    go_wp2
    go_ret
    exact ⟨by rw [HE.out]; rfl, rfl⟩
  · by_cases h2 : l < 1
    · have HE := Lib.hid (show wrongM n l = 3 by simp [wrongM, h1, h2])
      go_enter Try.func30, Try.ntmps30
      go_wp2
      go_ret
      exact ⟨by rw [HE.out]; rfl, rfl⟩
    · by_cases h3 : 16 < l
      · have HE := Lib.hid (show wrongM n l = 3 by simp [wrongM, h1, h3])
        go_enter Try.func30, Try.ntmps30
        go_wp2
        go_ret
        exact ⟨by rw [HE.out]; rfl, rfl⟩
      · have HE := Lib.hid (show wrongM n l = 0 by simp [wrongM, h1, h2, h3])
        go_enter Try.func30, Try.ntmps30
        go_wp2
        go_ret
        exact ⟨by rw [HE.out]; rfl, rfl⟩
def jobCells (l : List (Int × Int)) : List Value := l.flatMap fun p => [.int .i64 (p.1), .int .i64 (p.2)]
def inR (zs : List Int) : Bool := zs.all fun z => decide (0 ≤ z ∧ z ≤ 1048576)
theorem inR_take_succ (l : List Int) (k : Nat) (h : k < l.length) : inR (l.take (k+1)) = (inR (l.take k) && decide (0 ≤ l.getD k 0 ∧ l.getD k 0 ≤ 1048576)) := by
  unfold inR; rw [List.take_succ_eq_append_getElem h, List.all_append]; simp [List.getD, h]
theorem inR_of_take (l : List Int) (k : Nat) (h : inR (l.take k) = false) : inR l = false := by
  unfold inR at *
  rw [← List.take_append_drop k l, List.all_append, h]; rfl
set_option maxRecDepth 100000 in
set_option maxHeartbeats 400000 in
theorem Plan_wrong (a : Option Addr) (n c : Nat) (m e : Int) (w : World) (he : wrongM n m = e) (hne : e ≠ 0) (hn : n ≤ 9223372036854775807) :
    Calls Try.prog 10 #[.slice a n c, .int .i64 (m)] w fun r w' => r = .returned (.tuple #[.slice none 0 0, .int .i64 0, .int .i64 (e)]) ∧ w = w' := by
  have HE := Lib.hid he
  clear he
  have hb : (e != 0) = true := by simpa using hne
  clear hne
  go_enter Try.func10, Try.ntmps10
  go_wp2_with fail
  refine (wrong_any _ _ _).mono ?_
  rintro r w1 ⟨rfl, rfl⟩
  rw [HE.out]
  go_wp2
  go_ret3
  exact ⟨rfl, rfl⟩
set_option maxRecDepth 100000 in
set_option maxHeartbeats 400000 in
theorem Plan_bad (a : Option Addr) (n c : Nat) (zs : List Int) (m : Int) (w : World) (hi : IsInts w a n zs) (he : wrongM n m = 0) (hr : inR zs = false) :
    Calls Try.prog 10 #[.slice a n c, .int .i64 (m)] w fun r w' => r = .returned (.tuple #[.slice none 0 0, .int .i64 0, .int .i64 3]) ∧ w = w' := by
  obtain ⟨hl, hc⟩ := hi
  have hn : n ≤ 64 := by unfold wrongM at he; split at he <;> omega
  have HE := Lib.hid he
  have HL := Lib.hid hl
  have HR := Lib.hid hr
  have HC := Lib.hid hc
  clear he hl hr hc
  go_enter Try.func10, Try.ntmps10
  go_wp2_with fail
  refine (wrong_any _ _ _).mono ?_
  rintro r w1 ⟨rfl, rfl⟩
  rw [HE.out]
  go_wp2_with fail
  go_loop [27] (fun i => ∃ k : Nat, k ≤ n ∧ i = .int .i64 k ∧ inR (zs.take k) = true) (fun i => n - (intOf i).toNat)
  case atStart => exact ⟨0, Nat.zero_le _, rfl, rfl⟩
  case round =>
    obtain ⟨k, hk, rfl, hs⟩ := hrel
    have HS := Lib.hid hs
    clear hs
    by_cases hlt : k < n
    · obtain ⟨b, o, rfl, hb, hc⟩ := HC.out (by omega)
      have HT := Lib.hid (inR_take_succ zs k (by rw [HL.out]; exact hlt))
      have c0 := hc k hlt
      clear hc
      obtain ⟨z, hz⟩ : ∃ z, z = zs.getD k 0 := ⟨_, rfl⟩
      rw [← hz] at c0 HT
      clear hz
      by_cases hz0 : z < 0
      · go_wp2
        go_ret3
        exact ⟨rfl, rfl⟩
      · by_cases hz1 : 1048576 < z
        · go_wp2
          go_ret3
          exact ⟨rfl, rfl⟩
        · have HD : Hid (decide (0 ≤ z ∧ z ≤ 1048576) = true) := Lib.hid (by simp; omega)
          go_wp2
          go_round
          case rel => exact ⟨k + 1, by omega, by go_num, by rw [HT.out, HS.out, HD.out]; rfl⟩
          case measure => simp [intOf]; omega
    · exfalso
      have hkn : k = n := by omega
      have h1 := HS.out
      rw [hkn, ← HL.out, List.take_length, HR.out] at h1
      cases h1
end Go.Proofs.Ytnjheiiohfhckaa
