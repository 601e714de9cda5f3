/- Lemmas and contracts of functions (what each call returns, and that it changes nothing that was there) that the proof of a law of this seat uses; each lemma states its own conditions. -/
import Derived.Test.YtikddfjickkhhaaMl4
namespace Go.Proofs.Ytikddfjickkhhaa
open Go.RowKit
set_option linter.unusedVariables false
set_option linter.unusedSimpArgs false
open Lo Tw
theorem rowTo_at {zs : List Int} (h : runsOk zs) {i k : Nat} (hi : i < zs.length) (h1 : sumTo zs i ≤ k) (h2 : (k : Int) < sumTo zs (i+1)) : ∀ m, i < m → m ≤ zs.length → (rowTo zs m).getD k false = (i % 2 == 0) := by
  intro m
  induction m with
  | zero => intro h; omega
  | succ m ih =>
    intro him hm
    have hl := rowTo_len h m (by omega)
    rw [rowTo]
    rcases Nat.lt_or_ge i m with hlt | hge
    · have h3 := sumTo_mono h (show i + 1 ≤ m by omega) (by omega)
      rw [List.getD_eq_getElem?_getD, List.getElem?_append_left (by omega), ← List.getD_eq_getElem?_getD]
      exact ih hlt (by omega)
    · obtain rfl : m = i := by omega
      have h4 := h m hi
      simp only [sumTo] at h2
      rw [List.getD_eq_getElem?_getD, List.getElem?_append_right (by omega), List.getElem?_replicate, if_pos (by omega)]
      rfl
set_option maxRecDepth 100000 in
set_option maxHeartbeats 8000000 in
theorem Up_ok (a : Option Addr) (n c : Nat) (zs : List Int) (k : Nat) (w : World) (hi : IsInts w a n zs) (hr : runsOk zs) (hn : n ≤ 16) (hk : (k : Int) < sumTo zs n) :
    Calls Try.prog 67 #[.slice a n c, .int .i64 (k)] w fun e w' => e = .returned (.bool ((rowTo zs n).getD k false)) ∧ Below w.heap.size w w' := by
  have hl := hi.1
  have HI := Lib.hid hi
  have HR := Lib.hid hr
  have HAT := Lib.hid (fun i (h : i < n) h1 h2 => rowTo_at hr (i := i) (k := k) (by omega) h1 h2 n h (by omega))
  have HBD := Lib.hid (fun j (h : j ≤ n) => sumTo_bd hr j (by omega))
  have HK := Lib.hid hk
  have HL := Lib.hid hl
  have hk1 : k ≤ 1024 := by have := (sumTo_bd hr n (by omega)).2; omega
  clear hi hr hk hl
  go_enter Try.func67, Try.ntmps67
  go_wp2_with fail
  go_loopw [1, 9] (fun u i wr => ∃ j : Nat, j ≤ n ∧ u = .int .i64 ((k : Int) - sumTo zs j) ∧ i = .int .i64 j ∧ Hid (sumTo zs j ≤ k) ∧ wr = w) (fun _ i _ => n - (intOf i).toNat)
  case atStart => exact ⟨0, Nat.zero_le _, by simp [sumTo], rfl, Lib.hid (by simp [sumTo]), rfl⟩
  case round =>
    obtain ⟨j, hj, rfl, rfl, HS, rfl⟩ := hrel
    have hjn : j < n := by
      rcases Nat.lt_or_ge j n with h | h
      · exact h
      · obtain rfl : j = n := by omega
        have h1 := HS.out
        have h2 := HK.out
        omega
    obtain ⟨b, o, rfl, hb, hc⟩ := HI.out.2 (by omega)
    have cz := hc j hjn
    have hz := HR.out j (by rw [HL.out]; exact hjn)
    have hbd := (HBD.out j hj).1
    have HSS : Hid (sumTo zs (j+1) = sumTo zs j + zs.getD j 0) := Lib.hid rfl
    have HA := Lib.hid (HAT.out j hjn HS.out)
    clear hc
    obtain ⟨z, hz2⟩ : ∃ z, zs.getD j 0 = z := ⟨_, rfl⟩
    obtain ⟨s, hs2⟩ : ∃ s, sumTo zs j = s := ⟨_, rfl⟩
    have hsk := HS.out
    rw [hz2] at cz hz HSS
    rw [hs2] at hbd HSS hsk ⊢
    obtain ⟨t, ht⟩ : ∃ t, (k : Int) - s = t := ⟨_, rfl⟩
    rw [ht]
    have htb : 0 ≤ t ∧ t ≤ 1024 := by omega
    have HTT := Lib.hid ht
    have HS2 := Lib.hid hs2
    have HZ2 := Lib.hid hz2
    clear ht hs2 hz2 hsk hbd
    by_cases hlt : t < z
    · obtain ⟨r, hr2⟩ : ∃ r, j % 2 = r := ⟨_, rfl⟩
      have hrem : (j : Int).tmod 2 = (r : Int) := by rw [← hr2]; rfl
      have hr3 : r < 2 := by omega
      have v1 : IntKind.i64.wrap (r : Int) = (r : Int) := IntWalk.i64_in _ (by omega)
      obtain ⟨bb, hbb⟩ : ∃ b, ((r : Int) == 0) = b := ⟨_, rfl⟩
      have HV : Hid ((rowTo zs n).getD k false = bb) := Lib.hid (by
        rw [HA.out (by rw [HSS.out]; have := HTT.out; omega), hr2, ← hbb]
        rcases (show r = 0 ∨ r = 1 by omega) with rfl | rfl <;> rfl)
      clear hr2
      go_wp2
      go_ret
      exact ⟨by rw [HV.out]; rfl, (by repeat (first | exact Below.refl _ _ | refine Below.drew ?_ | refine below_drewN ?_ _ | refine Below.alloc ?_ (by first | exact Nat.le_refl _ | (simp; done) | (simp; omega) | omega) _ | refine Below.setCell ?_ (by first | exact Nat.le_refl _ | (simp; done) | (simp; omega) | omega) _ | refine bExtW ?_ (by first | exact Nat.le_refl _ | (simp; done) | (simp; omega) | omega) | refine Below.trans ?_ (Below.mono (by assumption) (by first | exact Nat.le_refl _ | (simp; done) | (simp; omega) | omega))))⟩
    · go_wp2
      go_roundw
      case rel => exact ⟨j + 1, by omega, by rw [HSS.out, ← HTT.out]; congr 1; omega, by go_num, Lib.hid (by rw [HSS.out]; have := HTT.out; omega), trivial⟩
      case measure => simp [intOf]; omega
end Go.Proofs.Ytikddfjickkhhaa
