/- Lemmas on which the law of this seat rests; each states its own conditions. -/
import Derived.Test.YtnlnonmgekciaaaDoorB02
set_option linter.unusedVariables false
set_option linter.unusedSimpArgs false
namespace Go.Proofs.YtnlnonmgekciaaaDoor
section
open Go.RowKit
open By (bytesOf hasAt sgL encN decL colAt)
def colR (r : Nat) : Option Nat := (List.range 62).find? fun k => decide (signK k = r)
theorem colR_some {r k : Nat} : colR r = some k ↔ k < 62 ∧ signK k = r := by
 unfold colR
 constructor
 ·intro h
  have h1 := List.find?_some h
  exact ⟨List.mem_range.1 (List.mem_of_find?_eq_some h), of_decide_eq_true h1⟩
 ·rintro ⟨hk, h⟩
  cases hc : (List.range 62).find? fun k => decide (signK k = r) with
  | none =>
   have := List.find?_eq_none.1 hc k (List.mem_range.2 hk)
   simp [h] at this
  | some j =>
   have h1' := List.find?_some hc
   have h1 := of_decide_eq_true h1'
   have h2 := List.mem_range.1 (List.mem_of_find?_eq_some hc)
   have := By.sign_inj ⟨j, h2⟩ ⟨k, hk⟩ (h1.trans h.symm)
   simp only [Fin.mk.injEq] at this
   rw [this]
theorem colR_none {r : Nat} : colR r = none ↔ ∀ k, k < 62 → signK k ≠ r := by
 unfold colR
 rw [List.find?_eq_none]
 exact ⟨fun h k hk => by simpa using h k (List.mem_range.2 hk), fun h k hk => by simpa using h k (List.mem_range.1 hk)⟩
theorem colR_at {B : List Nat} (hB : ∀ x ∈ B, x < 256) {i : Nat} (hi : i < B.length) : colR (decL B i).1 = colAt B i := by
 cases h : colAt B i with
 | none =>
  rw [colR_none]
  intro k hk e
  exact By.colAt_none.1 h k hk ((By.has_dec hB (By.sign_lt' ⟨k, hk⟩).1).2 ⟨hi, e.symm⟩)
 | some k =>
  have h1 := (By.colAt_some hB).1 h
  exact colR_some.2 ⟨h1.1, ((By.has_dec hB (By.sign_lt' ⟨k, h1.1⟩).1).1 h1.2).2.symm⟩
def colV (o : Option Nat) : Value := .tuple #[.int .i64 ((o.getD 0 : Nat)), .bool o.isSome]
set_option maxRecDepth 100000 in
set_option maxHeartbeats 8000000 in
theorem colour_ok (r : Nat) (w : World) :
  Calls Tryd.prog 47 #[.int .i32 r] w fun e w' => e = .returned (colV (colR r)) ∧ Below w.heap.size w w' := by
 have HS := Lib.hid (fun c w h => sign_ok c w h)
 go_enter Tryd.func47, Tryd.ntmps47
 go_wp2_with fail
 go_loopw [5] (fun kv wr => ∃ (k : Nat) (E : Array Obj) (d : Nat), k ≤ 62 ∧ kv = .int .i64 k ∧ Hid (∀ j, j < k → signK j ≠ r) ∧ wr = extW w E d) (fun kv _ => 62 - (intOf kv).toNat)
 case atStart => exact ⟨0, #[], _, by omega, rfl, Lib.hid fun j h => absurd h (by omega), extW_zero _⟩
 case round =>
  obtain ⟨k, E, d, hk, rfl, HK, rfl⟩ := hrel
  by_cases hk6 : k < 62
  ·have dk : decide ((k : Int) < 62) = true := by simp; omega
   have dk' : decide (k < 62) = true := by simpa using hk6
   have vk : IntKind.i64.wrap ((k : Int) + 1) = (k : Int) + 1 := IntWalk.i64_in _ (by omega)
   have HS1 := Lib.hid (fun w => HS.out k w hk6)
   by_cases e : signK k = r
   ·have HV : Hid (colR r = some k) := Lib.hid (colR_some.2 ⟨hk6, e⟩)
    rw [e] at HS1
    clear e HS
    (go_wp2_with fail; refine (HS1.out _).mono ?_; rintro r w1 ⟨rfl, hb⟩; obtain ⟨E, d, rfl⟩ := bExt hb; clear hb)
    go_wp2
    go_ret2
    exact ⟨by rw [HV.out]; rfl, blw⟩
   ·have HN : Hid (signK k ≠ r) := Lib.hid e
    obtain ⟨sk, hsk⟩ : ∃ sk, signK k = sk := ⟨_, rfl⟩
    rw [hsk] at HS1
    have d1 : ((sk : Int) == (r : Int)) = false := by rw [beq_eq_false_iff_ne]; omega
    have d2 : (sk == r) = false := by rw [beq_eq_false_iff_ne]; omega
    clear hsk e
    (go_wp2_with fail; refine (HS1.out _).mono ?_; rintro r w1 ⟨rfl, hb⟩; obtain ⟨E, d, rfl⟩ := bExt hb; clear hb)
    go_wp2
    go_roundw
    case rel => exact ⟨k + 1, _, _, by omega, by go_num, Lib.hid fun j hj => (by
     by_cases e : j = k
     ·subst e; exact HN.out
     ·exact HK.out j (by omega)), by simp only [extW_extW]; rfl⟩
    case measure => simp [intOf]; omega
  ·obtain rfl : k = 62 := by omega
   have HV : Hid (colR r = none) := Lib.hid (colR_none.2 fun k hk => HK.out k hk)
   go_wp2
   go_ret2
   exact ⟨by rw [HV.out]; rfl, blw⟩
theorem by_slice (s : ByteArray) (a b : Nat) (h1 : a ≤ b) (h2 : b ≤ s.size) (w : World) : (Instr.slice 9 (.string s) (some (.int .i64 ((a : Int)))) (some (.int .i64 ((b : Int)))) none).run Tryd.prog w = .ok (.string (s.extract a b)) w := by
 have h := run_slice_string (P := Tryd.prog) w 9 s .i64 .i64 (a : Int) (b : Int) Tryd.underlying9 (by omega) (by omega) (by omega)
 simpa using h
theorem by_ne {s t : ByteArray} (h : s ≠ t) : (s.toList == t.toList) = false := by
 rw [ByteArray.toList_eq, ByteArray.toList_eq, beq_eq_false_iff_ne]
 intro e
 apply h
 cases s; cases t
 congr 1
 exact Array.ext' e
theorem hasAt_ext {s t : ByteArray} {i : Nat} (h : i + t.size ≤ s.size) : hasAt (bytesOf s) i (bytesOf t) ↔ s.extract i (i + t.size) = t := by
 unfold hasAt
 rw [By.bytesOf_len, ← By.bytesOf_extract s i t.size h]
 exact ⟨fun e => By.bytesOf_inj e, fun e => by rw [e]⟩
set_option maxRecDepth 100000 in
set_option maxHeartbeats 8000000 in
theorem starts_ok (s t : ByteArray) (i : Nat) (w : World) (hs : s.size ≤ 9223372036854775807) (ht : 0 < t.size) (hi : i + t.size ≤ 9223372036854775807) :
  Calls Tryd.prog 50 #[.string s, .int .i64 (i), .string t] w fun e w' => e = .returned (.bool (decide (hasAt (bytesOf s) i (bytesOf t)))) ∧ Below w.heap.size w w' := by
 obtain ⟨n, hn⟩ : ∃ n, s.size = n := ⟨_, rfl⟩
 obtain ⟨m, hm⟩ : ∃ m, t.size = m := ⟨_, rfl⟩
 obtain ⟨j, hj⟩ : ∃ j, i + m = j := ⟨_, rfl⟩
 have hji : (i : Int) + (m : Int) = (j : Int) := by omega
 have vj : IntKind.i64.wrap (j : Int) = (j : Int) := IntWalk.i64_in _ (by omega)
 by_cases h : j ≤ n
 ·have d1 : decide ((j : Int) ≤ (n : Int)) = true := by simpa using h
  have d2 : decide (j ≤ n) = true := by simpa using h
  have hx := hasAt_ext (s := s) (t := t) (i := i) (by omega)
  rw [hm, hj] at hx
  obtain ⟨S, hS⟩ : ∃ S, s.extract i j = S := ⟨_, rfl⟩
  have hsl : ∀ w, (Instr.slice 9 (.string s) (some (.int .i64 (i))) (some (.int .i64 (j))) none).run Tryd.prog w = .ok (.string S) w := fun w => by
   rw [← hS]; exact by_slice s i j (by omega) (by omega) w
  rw [hS] at hx
  by_cases e : S = t
  ·have HV := Lib.hid (hx.2 e)
   subst e
   clear hx hS hs ht hi hj
   go_enter Tryd.func50, Tryd.ntmps50
   go_wp2
   go_ret
   exact ⟨by rw [decide_eq_true HV.out]; rfl, blw⟩
  ·have HV : Hid (¬ hasAt (bytesOf s) i (bytesOf t)) := Lib.hid (fun h => e (hx.1 h))
   have b1 := by_ne e
   clear hx hS hs ht hi hj e
   go_enter Tryd.func50, Tryd.ntmps50
   go_wp2
   go_ret
   exact ⟨by rw [decide_eq_false HV.out]; rfl, blw⟩
 ·have d1 : decide ((j : Int) ≤ (n : Int)) = false := by simp; omega
  have d2 : decide (j ≤ n) = false := by simp; omega
  have HV : Hid (¬ hasAt (bytesOf s) i (bytesOf t)) := Lib.hid (fun h2 => by
   have hl := By.hasAt_bd h2 (fun e => by have := By.bytesOf_len t; rw [e] at this; simp at this; omega)
   rw [By.bytesOf_len, By.bytesOf_len] at hl
   omega)
  clear hs ht hi hj
  go_enter Tryd.func50, Tryd.ntmps50
  go_wp2
  go_ret
  exact ⟨by rw [decide_eq_false HV.out]; rfl, blw⟩
end
end Go.Proofs.YtnlnonmgekciaaaDoor
