/- Chapter 13: key, puzzle.ok, moved. -/
import Derived.Test.YtoooihoaapfjeaaPsM
import Derived.Test.YtoooihoaapfjeaaTr
import Derived.Test.YtoooihoaapfjeaaEf1
namespace Go.Proofs.Ytoooihoaapfjeaa
open Go.RowKit
set_option linter.unusedVariables false
set_option linter.unusedSimpArgs false
open Ps
/-- Where loops stand as one number. -/
def keyZ (l : List Int) : Int := l.foldl (fun n x => n * 12 + x) 0
theorem keyZ_snoc (l : List Int) (k : Nat) (h : k < l.length) : keyZ (l.take (k + 1)) = keyZ (l.take k) * 12 + l.getD k 0 := by
  unfold keyZ
  rw [List.take_succ_eq_append_getElem h, List.foldl_append, List.getD_eq_getElem?_getD, List.getElem?_eq_getElem h]
  rfl
set_option maxRecDepth 100000 in
set_option maxHeartbeats 8000000 in
theorem key_ok (a : Option Addr) (n c : Nat) (zs : List Int) (w : World) (hI : IsInts w a n zs) (hn : n ≤ 5) (hb : ∀ x ∈ zs, -100 ≤ x ∧ x ≤ 100) :
    Calls Try.prog 15 #[.slice a n c] w fun e w' => e = .returned (.int .i64 (keyZ zs)) ∧ Below w.heap.size w w' := by
  have HI := Lib.hid hI; have HB := Lib.hid hb; have HL := Lib.hid hI.1
  have HK : Hid (∀ k, k ≤ n → -10000000 ≤ keyZ (zs.take k) ∧ keyZ (zs.take k) ≤ 10000000) := Lib.hid (by
    have hx : ∀ k, k < n → -100 ≤ zs.getD k 0 ∧ zs.getD k 0 ≤ 100 := fun k hk => by
      rw [List.getD_eq_getElem?_getD, List.getElem?_eq_getElem (by rw [hI.1]; exact hk)]
      exact hb _ (List.getElem_mem _)
    have s := fun k (hk : k < n) => keyZ_snoc zs k (by rw [hI.1]; exact hk)
    have e0 : keyZ (zs.take 0) = 0 := rfl
    have s0 : 0 < n → keyZ (zs.take 1) = keyZ (zs.take 0) * 12 + zs.getD 0 0 := s 0
    have s1 : 1 < n → keyZ (zs.take 2) = keyZ (zs.take 1) * 12 + zs.getD 1 0 := s 1
    have s2 : 2 < n → keyZ (zs.take 3) = keyZ (zs.take 2) * 12 + zs.getD 2 0 := s 2
    have s3 : 3 < n → keyZ (zs.take 4) = keyZ (zs.take 3) * 12 + zs.getD 3 0 := s 3
    have s4 : 4 < n → keyZ (zs.take 5) = keyZ (zs.take 4) * 12 + zs.getD 4 0 := s 4
    have b : ∀ k, k ≤ n → keyZ (zs.take k) = 0 ∨ True := fun _ _ => .inr trivial
    clear s b
    intro k hk
    have hc : k = 0 ∨ k = 1 ∨ k = 2 ∨ k = 3 ∨ k = 4 ∨ k = 5 := by omega
    rcases hc with rfl | rfl | rfl | rfl | rfl | rfl
    · omega
    · have := s0 (by omega); have := hx 0 (by omega); omega
    · have := s0 (by omega); have := hx 0 (by omega); have := s1 (by omega); have := hx 1 (by omega); omega
    · have := s0 (by omega); have := hx 0 (by omega); have := s1 (by omega); have := hx 1 (by omega); have := s2 (by omega); have := hx 2 (by omega); omega
    · have := s0 (by omega); have := hx 0 (by omega); have := s1 (by omega); have := hx 1 (by omega); have := s2 (by omega); have := hx 2 (by omega); have := s3 (by omega); have := hx 3 (by omega); omega
    · have := s0 (by omega); have := hx 0 (by omega); have := s1 (by omega); have := hx 1 (by omega); have := s2 (by omega); have := hx 2 (by omega); have := s3 (by omega); have := hx 3 (by omega); have := s4 (by omega); have := hx 4 (by omega); omega)
  clear hI hb
  go_enter Try.func15, Try.ntmps15
  go_wp2_with fail
  go_loopw [3, 8] (fun kv iv wr => ∃ k : Nat, k ≤ n ∧ iv = .int .i64 k ∧ kv = .int .i64 (keyZ (zs.take k)) ∧ Hid (Below w.heap.size w wr)) (fun _ iv _ => n - (intOf iv).toNat)
  case atStart => exact ⟨0, by omega, rfl, rfl, Lib.hid (Below.refl _ _)⟩
  case round =>
    obtain ⟨k, hk, rfl, rfl, HBW⟩ := hrel
    by_cases hkn : k < n
    · obtain ⟨b, o, rfl, hbl, hc⟩ := (HI.out.below HBW.out).2 (by omega)
      have c0 := hc k hkn
      have lb : LtW b wr := hbl
      have hs := keyZ_snoc zs k (by rw [HL.out]; exact hkn)
      have h1 := HK.out k hk
      have h2 := HK.out (k + 1) hkn
      have HS := Lib.hid hs
      generalize keyZ (zs.take k) = K at *
      generalize zs.getD k 0 = x at *
      have v1 : IntKind.i64.wrap (K * 12) = K * 12 := IntWalk.i64_in _ (by omega)
      have v2 : IntKind.i64.wrap (K * 12 + x) = K * 12 + x := IntWalk.i64_in _ (by omega)
      have dk : decide ((k : Int) < (n : Int)) = true := by simp; omega
      have dk' : decide (k < n) = true := by simpa using hkn
      clear hc hbl hs
      go_wp2
      go_roundw
      case rel => exact ⟨k + 1, by omega, by go_num, by rw [HS.out], HBW⟩
      case measure => simp [intOf]; omega
    · obtain rfl : k = n := by omega
      have dk : decide ((k : Int) < (k : Int)) = false := by simp
      have e : zs.take k = zs := List.take_of_length_le (by rw [HL.out]; exact Nat.le_refl _)
      rw [e]
      go_wp2
      go_ret
      exact ⟨rfl, HBW.out⟩
end Go.Proofs.Ytoooihoaapfjeaa
