/- Lemmas on which the law of this seat rests; each states its own conditions. -/
import Derived.Test.YtajdoobkfbdgoaaDoorC17
import Derived.Shelf.Unicode.Decode
import Derived.Shelf.Unicode.DecodeSlow
import Derived.Shelf.Unicode.DecodeAny
import Derived.Test.YtajdoobkfbdgoaaDoorProg
import Derived.Test.YtajdoobkfbdgoaaDoorC06
import Derived.Test.YtajdoobkfbdgoaaDoorC07
set_option linter.unusedVariables false
set_option linter.unusedSimpArgs false
namespace Go.Proofs.YtajdoobkfbdgoaaDoor
section
open Go.RowKit
open By (bytesOf hasAt sgL encN decL colAt)
def colR (r : Nat) : Option Nat := (List.range 62).find? fun k => decide (signK k = r)
theorem colR_some {r k : Nat} : colR r = some k ↔ k < 62 ∧ signK k = r := by
 unfold colR
 constructor
 ·intro h
  have h1 := List.find?_some h
  exact ⟨List.mem_range.1 (List.mem_of_find?_eq_some h), of_decide_eq_true h1⟩
 ·rintro ⟨hk, h⟩
  cases hc : (List.range 62).find? fun k => decide (signK k = r) with
  | none =>
   have := List.find?_eq_none.1 hc k (List.mem_range.2 hk)
   simp [h] at this
  | some j =>
   have h1' := List.find?_some hc
   have h1 := of_decide_eq_true h1'
   have h2 := List.mem_range.1 (List.mem_of_find?_eq_some hc)
   have := By.sign_inj ⟨j, h2⟩ ⟨k, hk⟩ (h1.trans h.symm)
   simp only [Fin.mk.injEq] at this
   rw [this]
theorem colR_none {r : Nat} : colR r = none ↔ ∀ k, k < 62 → signK k ≠ r := by
 unfold colR
 rw [List.find?_eq_none]
 exact ⟨fun h k hk => by simpa using h k (List.mem_range.2 hk), fun h k hk => by simpa using h k (List.mem_range.1 hk)⟩
theorem colR_at {B : List Nat} (hB : ∀ x ∈ B, x < 256) {i : Nat} (hi : i < B.length) : colR (decL B i).1 = colAt B i := by
 cases h : colAt B i with
 | none =>
  rw [colR_none]
  intro k hk e
  exact By.colAt_none.1 h k hk ((By.has_dec hB (By.sign_lt' ⟨k, hk⟩).1).2 ⟨hi, e.symm⟩)
 | some k =>
  have h1 := (By.colAt_some hB).1 h
  exact colR_some.2 ⟨h1.1, ((By.has_dec hB (By.sign_lt' ⟨k, h1.1⟩).1).1 h1.2).2.symm⟩
def colV (o : Option Nat) : Value := .tuple #[.int .i64 ((o.getD 0 : Nat)), .bool o.isSome]
set_option maxRecDepth 100000 in
set_option maxHeartbeats 8000000 in
theorem colour_ok (r : Nat) (w : World) :
  Calls Tryd.prog 47 #[.int .i32 r] w fun e w' => e = .returned (colV (colR r)) ∧ Below w.heap.size w w' := by
 have HS := Lib.hid (fun c w h => sign_ok c w h)
 go_enter Tryd.func47, Tryd.ntmps47
 go_wp2_with fail
 go_loopw [5] (fun kv wr => ∃ (k : Nat) (E : Array Obj) (d : Nat), k ≤ 62 ∧ kv = .int .i64 k ∧ Hid (∀ j, j < k → signK j ≠ r) ∧ wr = extW w E d) (fun kv _ => 62 - (intOf kv).toNat)
 case atStart => exact ⟨0, #[], _, by omega, rfl, Lib.hid fun j h => absurd h (by omega), extW_zero _⟩
 case round =>
  obtain ⟨k, E, d, hk, rfl, HK, rfl⟩ := hrel
  by_cases hk6 : k < 62
  ·have dk : decide ((k : Int) < 62) = true := by simp; omega
   have dk' : decide (k < 62) = true := by simpa using hk6
   have vk : IntKind.i64.wrap ((k : Int) + 1) = (k : Int) + 1 := IntWalk.i64_in _ (by omega)
   have HS1 := Lib.hid (fun w => HS.out k w hk6)
   by_cases e : signK k = r
   ·have HV : Hid (colR r = some k) := Lib.hid (colR_some.2 ⟨hk6, e⟩)
    rw [e] at HS1
    clear e HS
    (go_wp2_with fail; refine (HS1.out _).mono ?_; rintro r w1 ⟨rfl, hb⟩; obtain ⟨E, d, rfl⟩ := bExt hb; clear hb)
    go_wp2
    go_ret2
    exact ⟨by rw [HV.out]; rfl, blw⟩
   ·have HN : Hid (signK k ≠ r) := Lib.hid e
    obtain ⟨sk, hsk⟩ : ∃ sk, signK k = sk := ⟨_, rfl⟩
    rw [hsk] at HS1
    have d1 : ((sk : Int) == (r : Int)) = false := by rw [beq_eq_false_iff_ne]; omega
    have d2 : (sk == r) = false := by rw [beq_eq_false_iff_ne]; omega
    clear hsk e
    (go_wp2_with fail; refine (HS1.out _).mono ?_; rintro r w1 ⟨rfl, hb⟩; obtain ⟨E, d, rfl⟩ := bExt hb; clear hb)
    go_wp2
    go_roundw
    case rel => exact ⟨k + 1, _, _, by omega, by go_num, Lib.hid fun j hj => (by
     by_cases e : j = k
     ·subst e; exact HN.out
     ·exact HK.out j (by omega)), by simp only [extW_extW]; rfl⟩
    case measure => simp [intOf]; omega
  ·obtain rfl : k = 62 := by omega
   have HV : Hid (colR r = none) := Lib.hid (colR_none.2 fun k hk => HK.out k hk)
   go_wp2
   go_ret2
   exact ⟨by rw [HV.out]; rfl, blw⟩
end
end Go.Proofs.YtajdoobkfbdgoaaDoor
namespace Go.Proofs
open Go.Shelf
def Tryd.lays197_ren : Go.Shelf.Ren := ⟨fun | 197 => 46 | 260 => 66 | n => n, fun | 9 => 9 | 21 => 21 | 3 => 3 | 4 => 4 | 5 => 5 | 105 => 64 | 119 => 176 | 0 => 0 | 46 => 145 | 139 => 179 | 138 => 178 | n => n, fun | 3 => 0 | 4 => 1 | n => n⟩
theorem Tryd.lays197 : Go.Proofs.Lays.n197 Tryd.prog Tryd.lays197_ren := {
 mixed := by kernel_rfl
 f197 := Tryd.func46.trans (congrArg some (by kernel_rfl))
 f260 := Tryd.func66.trans (congrArg some (by kernel_rfl))
 t0 := Tryd.underlying0
 a0 := Tryd.isAgg0
 z0 := Tryd.sizeOf0
 v0 := Tryd.zeroValue0
 t3 := Tryd.underlying3
 a3 := Tryd.isAgg3
 z3 := Tryd.sizeOf3
 v3 := Tryd.zeroValue3
 t4 := Tryd.underlying4
 a4 := Tryd.isAgg4
 z4 := Tryd.sizeOf4
 v4 := Tryd.zeroValue4
 t5 := Tryd.underlying5
 a5 := Tryd.isAgg5
 z5 := Tryd.sizeOf5
 v5 := Tryd.zeroValue5
 t9 := Tryd.underlying9
 a9 := Tryd.isAgg9
 z9 := Tryd.sizeOf9
 v9 := Tryd.zeroValue9
 t21 := Tryd.underlying21
 a21 := Tryd.isAgg21
 z21 := Tryd.sizeOf21
 v21 := Tryd.zeroValue21
 t46 := Tryd.underlying145
 a46 := Tryd.isAgg145
 z46 := Tryd.sizeOf145
 v46 := Tryd.zeroValue145
 t105 := Tryd.underlying64
 a105 := Tryd.isAgg64
 z105 := Tryd.sizeOf64
 v105 := Tryd.zeroValue64
 t119 := Tryd.underlying176
 a119 := Tryd.isAgg176
 z119 := Tryd.sizeOf176
 t138 := Tryd.underlying178
 a138 := Tryd.isAgg178
 z138 := Tryd.sizeOf178
 v138 := Tryd.zeroValue178
 t139 := Tryd.underlying179
 a139 := Tryd.isAgg179
 z139 := Tryd.sizeOf179
 v139 := Tryd.zeroValue179
 g3 := by kernel_rfl
 g4 := by kernel_rfl }
open Go.RowKit Go.Lib in
theorem Tryd.utf8_DecodeRuneInString_ascii (s : ByteArray) (x : UInt8) (w : World) (h0 : s.data.toList[0]? = some x) (hx : x.toNat < 128) :
  Calls Tryd.prog 46 #[.string s] w fun e w' => e = .returned (.tuple #[.int .i32 x.toNat, .int .i64 1]) ∧ w' = w := Any.utf8_DecodeRuneInString_ascii Tryd.lays197 s x w h0 hx
def Tryd.lays260_ren : Go.Shelf.Ren := ⟨fun | 260 => 66 | n => n, fun | 9 => 9 | 21 => 21 | 3 => 3 | 4 => 4 | 5 => 5 | 119 => 176 | 0 => 0 | 46 => 145 | 139 => 179 | 138 => 178 | n => n, fun | 3 => 0 | 4 => 1 | n => n⟩
theorem Tryd.lays260 : Go.Proofs.Lays.n260 Tryd.prog Tryd.lays260_ren := {
 mixed := by kernel_rfl
 f260 := Tryd.func66.trans (congrArg some (by kernel_rfl))
 t0 := Tryd.underlying0
 a0 := Tryd.isAgg0
 z0 := Tryd.sizeOf0
 v0 := Tryd.zeroValue0
 t3 := Tryd.underlying3
 a3 := Tryd.isAgg3
 z3 := Tryd.sizeOf3
 v3 := Tryd.zeroValue3
 t4 := Tryd.underlying4
 a4 := Tryd.isAgg4
 z4 := Tryd.sizeOf4
 v4 := Tryd.zeroValue4
 t5 := Tryd.underlying5
 a5 := Tryd.isAgg5
 z5 := Tryd.sizeOf5
 v5 := Tryd.zeroValue5
 t9 := Tryd.underlying9
 a9 := Tryd.isAgg9
 z9 := Tryd.sizeOf9
 v9 := Tryd.zeroValue9
 t21 := Tryd.underlying21
 a21 := Tryd.isAgg21
 z21 := Tryd.sizeOf21
 v21 := Tryd.zeroValue21
 t46 := Tryd.underlying145
 a46 := Tryd.isAgg145
 z46 := Tryd.sizeOf145
 v46 := Tryd.zeroValue145
 t119 := Tryd.underlying176
 a119 := Tryd.isAgg176
 z119 := Tryd.sizeOf176
 t138 := Tryd.underlying178
 a138 := Tryd.isAgg178
 z138 := Tryd.sizeOf178
 v138 := Tryd.zeroValue178
 t139 := Tryd.underlying179
 a139 := Tryd.isAgg179
 z139 := Tryd.sizeOf179
 v139 := Tryd.zeroValue179
 g3 := by kernel_rfl
 g4 := by kernel_rfl }
open Go.RowKit Go.Lib in
theorem Tryd.utf8_decodeRuneInStringSlow (s : ByteArray) (w : World) (hT : Lib.Utf8Tabs 0 1 w) :
  Calls Tryd.prog 66 #[.string s] w fun e w' => e = .returned (.tuple #[.int .i32 (Lib.decodeGo s).1, .int .i64 (Lib.decodeGo s).2]) ∧ Below w.heap.size w w' := Any.utf8_decodeRuneInStringSlow Tryd.lays260 s w hT
open Go.RowKit Go.Lib in
theorem Tryd.utf8_DecodeRuneInString (s : ByteArray) (w : World) (hT : Lib.Utf8Tabs 0 1 w) :
  Calls Tryd.prog 46 #[.string s] w fun e w' => e = .returned (.tuple #[.int .i32 (Lib.decodeGo s).1, .int .i64 (Lib.decodeGo s).2]) ∧ Below w.heap.size w w' := Any.utf8_DecodeRuneInString Tryd.lays197 s w hT
end Go.Proofs
namespace Go.Proofs.YtajdoobkfbdgoaaDoor
section
open Go.RowKit
open By (bytesOf hasAt sgL encN decL colAt)
def Tabs (w : World) : Prop := Lib.Utf8Tabs 0 1 w
theorem Tabs.below {w w' : World} (h : Tabs w) (hb : Below w.heap.size w w') : Tabs w' :=
 ⟨fun c hc => bCs hb (h.1 c hc), fun i hi => ⟨bCs hb (h.2 i hi).1, bCs hb (h.2 i hi).2⟩⟩
def decP (B : List Nat) (i : Nat) : Nat × Nat := if i < B.length then decL B i else (65533, 0)
theorem bytesOf_tail (s : ByteArray) (i : Nat) : bytesOf (s.extract i s.size) = (bytesOf s).drop i := by
 by_cases h : i ≤ s.size
 ·have := By.bytesOf_extract s i (s.size - i) (by omega)
  rw [show i + (s.size - i) = s.size by omega] at this
  rw [this, List.take_of_length_le (by rw [List.length_drop, By.bytesOf_len]; omega)]
 ·rw [List.drop_eq_nil_of_le (by rw [By.bytesOf_len]; omega)]
  have h2 : (bytesOf (s.extract i s.size)).length = 0 := by rw [By.bytesOf_len, ByteArray.size_extract]; omega
  exact List.length_eq_zero_iff.1 h2
theorem decL_drop (B : List Nat) (i : Nat) : decL (B.drop i) 0 = decL B i := by
 have e : ∀ j, (B.drop i).getD j 0 = B.getD (i + j) 0 := fun j => by rw [List.getD_eq_getElem?_getD, List.getElem?_drop, ← List.getD_eq_getElem?_getD]
 unfold decL
 rw [e, e, e, e, List.length_drop]
 simp
theorem decodeGo_at (s : ByteArray) (i : Nat) : Go.Lib.decodeGo (s.extract i s.size) = decP (bytesOf s) i := by
 unfold Go.Lib.decodeGo decP
 have hl : (s.extract i s.size).size = s.size - i := by rw [ByteArray.size_extract]; omega
 rw [hl, By.bytesOf_len]
 by_cases h : i < s.size
 ·rw [if_neg (by omega), if_pos h, By.dec_L, bytesOf_tail, decL_drop]
 ·rw [if_pos (by omega), if_neg h]
theorem dec_ok (s : ByteArray) (i : Nat) (w : World) (hT : Tabs w) :
  Calls Tryd.prog 46 #[.string (s.extract i s.size)] w fun e w' => e = .returned (.tuple #[.int .i32 (decP (bytesOf s) i).1, .int .i64 (decP (bytesOf s) i).2]) ∧ Below w.heap.size w w' := by
 have h := Tryd.utf8_DecodeRuneInString (s.extract i s.size) w hT
 rw [decodeGo_at] at h
 exact h
theorem dec_col {B : List Nat} (hB : ∀ x ∈ B, x < 256) {i k : Nat} (h : colAt B i = some k) : decP B i = (signK k, (sgL k).length) := by
 have h1 := (By.colAt_some hB).1 h
 have h2 := (By.has_dec hB (By.sign_lt' ⟨k, h1.1⟩).1).1 h1.2
 unfold decP
 rw [if_pos h2.1]
 exact Prod.ext h2.2 (By.dec_len hB (By.sign_lt' ⟨k, h1.1⟩).1 h2.2)
end
section
open Go.RowKit
open By (bytesOf hasAt sgL encN decL colAt)
theorem by_from (s : ByteArray) (a : Nat) (h2 : a ≤ s.size) (w : World) : (Instr.slice 9 (.string s) (some (.int .i64 ((a : Int)))) none none).run Tryd.prog w = .ok (.string (s.extract a s.size)) w := by
 have h := run_slice_string_l (P := Tryd.prog) w 9 s Tryd.underlying9 .i64 (a : Int) (by omega) (by omega)
 simpa using h
def nxt (B : List Nat) (i : Nat) : Nat × Nat := if i = B.length then (0, 0) else decL B i
set_option maxRecDepth 100000 in
set_option maxHeartbeats 8000000 in
theorem next_ok (s : ByteArray) (i b : Nat) (w : World) (hT : Tabs w) (hs : s.size ≤ 9223372036854775807) (hi : i ≤ s.size) (h0 : w.cell? ⟨b, 0, none⟩ = some (.string s)) (h1 : w.cell? ⟨b, 1, none⟩ = some (.int .i64 (i))) :
  Calls Tryd.prog 17 #[.pointer (some ⟨b, 0, none⟩)] w fun e w' => e = .returned (.tuple #[.int .i32 (nxt (bytesOf s) i).1, .int .i64 (nxt (bytesOf s) i).2]) ∧ Below w.heap.size w w' := by
 have lb : LtW b w := World.block_lt_of_cell? _ _ h0
 obtain ⟨n, hn⟩ : ∃ n, s.size = n := ⟨_, rfl⟩
 have hl := By.bytesOf_len s
 by_cases e : i = n
 ·subst e
  have d1 : ((i : Int) == (i : Int)) = true := by simp
  have d2 : (i == i) = true := by simp
  have hv : nxt (bytesOf s) i = (0, 0) := by unfold nxt; rw [if_pos (by omega)]
  rw [hv]
  clear hv hT hi hs
  go_enter Tryd.func17, Tryd.ntmps17
  go_wp2_with fail
  (refine wp_region_ext (by kernel_rfl) (by kernel_rfl) ?_; (repeat (first | ((with_reducible refine ext_step (fun K hK => ?_)); go_simp; first | (refine hK _ ?_; clear hK K) | (apply Exists.intro; refine ⟨fun _ _ => ?_, hK _ ?_⟩; fail; clear hK K)))); refine wpQuiet_nil ?_; intro E d)
  go_wp2
  go_ret2
  exact ⟨rfl, blw⟩
 ·have d1 : ((i : Int) == (n : Int)) = false := by rw [beq_eq_false_iff_ne]; omega
  have d2 : (i == n) = false := by rw [beq_eq_false_iff_ne]; omega
  have hsl := fun w => by_from s i (by omega) w
  have hv : nxt (bytesOf s) i = decP (bytesOf s) i := by unfold nxt decP; rw [if_neg (by omega), if_pos (by omega)]
  rw [hv]
  have HD := Lib.hid (fun w hT => dec_ok s i w hT)
  have HT := Lib.hid hT
  obtain ⟨S, hS⟩ : ∃ S, s.extract i s.size = S := ⟨_, rfl⟩
  rw [hS] at HD
  simp only [hS] at hsl
  generalize decP (bytesOf s) i = q at *
  clear hv hT hi hs hl hS e
  go_enter Tryd.func17, Tryd.ntmps17
  go_wp2_with fail
  (refine wp_region_ext (by kernel_rfl) (by kernel_rfl) ?_; (repeat (first | ((with_reducible refine ext_step (fun K hK => ?_)); go_simp; first | (refine hK _ ?_; clear hK K) | (apply Exists.intro; refine ⟨fun _ _ => ?_, hK _ ?_⟩; fail; clear hK K)))); refine wpQuiet_nil ?_; intro E d)
  go_wp2_with fail
  (refine wp_region_ext (by kernel_rfl) (by kernel_rfl) ?_; (repeat (first | ((with_reducible refine ext_step (fun K hK => ?_)); go_simp; first | (refine hK _ ?_; clear hK K) | (apply Exists.intro; refine ⟨fun _ _ => ?_, hK _ ?_⟩; (go_at_call 46; exact extOf (HD.out _ (HT.out.below blw))); clear hK K)))); refine wpQuiet_nil ?_; intro E d)
  go_wp2
  go_ret2
  exact ⟨rfl, blw⟩
end
section
open Go.RowKit
open By (bytesOf hasAt sgL encN decL colAt rowF RowR)
theorem okRdI : ElemOk 23 3 1 8 (.int .i64 0) := ⟨Tryd.underlying23, by kernel_rfl, rfl, by omega⟩
def colsV (L : List Nat) : List Value := L.map fun (k : Nat) => .int .i64 (k : Int)
def rdF (s : ByteArray) (p : Nat) : Nat → Value := fun j => if j = 0 then .string s else .int .i64 p
structure RwR (b : Nat) (s : ByteArray) (W0 : World) (p : Nat) (L : List Nat) (v : Value) (w : World) : Prop where
 rd : w.rowIs b 62 2 (rdF s p)
 own : w.ownsRow W0.heap.size 3 1 v L.length (colsV L)
 bel : BelowX W0.heap.size b W0 w
 lt : b < W0.heap.size
theorem RwR.grow {b : Nat} {s : ByteArray} {W0 w w' : World} {p : Nat} {L : List Nat} {v : Value} (h : RwR b s W0 p L v w) (hb : Below w.heap.size w w') : RwR b s W0 p L v w' :=
 ⟨rowBelow h.rd hb h.rd.lt, ownBelow h.own hb, h.bel.trans (BelowX.of_below h.bel.size (hb.mono h.bel.size)), h.lt⟩
theorem RwR.app {b : Nat} {s : ByteArray} {W0 w w' : World} {p x : Nat} {L : List Nat} {v v' : Value} (h : RwR b s W0 p L v w) (ho : w'.ownsRow W0.heap.size 3 1 v' (L.length + 1) (colsV L ++ [.int .i64 x])) (hb : Below W0.heap.size w w') : RwR b s W0 p (L ++ [x]) v' w' :=
 ⟨rowBelow h.rd hb h.lt, by rw [List.length_append, List.length_singleton]; unfold colsV at ho ⊢; rw [List.map_append]; exact ho, h.bel.trans (BelowX.of_below h.bel.size hb), h.lt⟩
theorem RwR.setAt {b : Nat} {s : ByteArray} {W0 w : World} {p : Nat} {L : List Nat} {v : Value} (h : RwR b s W0 p L v w) (q : Nat) : RwR b s W0 q L v (w.setCell ⟨b, 1, none⟩ (.int .i64 q)) := by
 refine ⟨(h.rd.set 1 _).congr fun i hi => ?_, ?_, ?_, h.lt⟩
 ·have : i = 0 ∨ i = 1 := by omega
  rcases this with rfl | rfl <;> rfl
 ·refine ⟨h.own.1, ?_⟩
  rcases h.own.2 with h2 | ⟨g, cap, cur, e1, hb2, hc, h3⟩
  ·exact .inl h2
  ·refine .inr ⟨g, cap, cur, e1, hb2, ?_, h3⟩
   rw [Below.heap_setCell _ _ _ g (fun e2 => by have := h.lt; simp only at e2; omega)]
   exact hc
 ·have h1 := h.bel
  have hs : Below b w (w.setCell ⟨b, 1, none⟩ (.int .i64 q)) := ((Below.refl _ w : Below w.heap.size w w).mono (Nat.le_of_lt h.rd.lt)).setCell (p := ⟨b, 1, none⟩) (Nat.le_refl _) _
  exact ⟨hs.os.trans h1.os, hs.tape.trans h1.tape, hs.output.trans h1.output, Nat.le_trans h1.size hs.size, fun k hk hne => by rw [Below.heap_setCell _ _ _ k (fun e => hne e)]; exact h1.block k hk hne⟩
def RowPost (b : Nat) (s : ByteArray) (W0 : World) (R : RowR) (e : Ending) (w' : World) : Prop :=
 match R with
 | .bad p => e = .returned (.tuple #[.slice none 0 0, .bool false]) ∧ ∃ L v, RwR b s W0 p L v w'
 | .ok row p => ∃ A C, e = .returned (.tuple #[.slice A row.length C, .bool true]) ∧ RwR b s W0 p row (.slice A row.length C) w'
theorem nxt_nl {B : List Nat} (hB : ∀ x ∈ B, x < 256) {i : Nat} (hi : i ≤ B.length) : (nxt B i).1 = 10 ↔ hasAt B i [10] := by
 have e1 : encN 10 = [10] := rfl
 rw [← e1, By.has_dec hB (by omega)]
 unfold nxt
 by_cases h : i = B.length
 ·rw [if_pos h]
  constructor
  ·intro e; simp at e
  ·rintro ⟨h1, _⟩; omega
 ·rw [if_neg h]
  exact ⟨fun e => ⟨by omega, e⟩, fun e => e.2⟩
theorem signK_ne0 : ∀ c : Fin 62, signK c ≠ 0 := by decide +kernel
theorem nxt_col {B : List Nat} (hB : ∀ x ∈ B, x < 256) {i : Nat} (hi : i ≤ B.length) : colR (nxt B i).1 = colAt B i := by
 unfold nxt
 by_cases h : i = B.length
 ·rw [if_pos h]
  have h1 : colAt B i = none := By.colAt_none.2 fun k _ h2 => by
   have := By.hasAt_bd h2 (By.sgL_ne k)
   have := (By.sgL_len k).1
   omega
  rw [h1]
  exact colR_none.2 fun k hk e => signK_ne0 ⟨k, hk⟩ e
 ·rw [if_neg h]
  exact colR_at hB (by omega)
theorem nxt_some {B : List Nat} (hB : ∀ x ∈ B, x < 256) {i k : Nat} (h : colAt B i = some k) : nxt B i = (signK k, (sgL k).length) ∧ i + (sgL k).length ≤ B.length := by
 have h1 := (By.colAt_some hB).1 h
 have h2 := By.hasAt_bd h1.2 (By.sgL_ne k)
 have h3 := (By.sgL_len k).1
 have h4 := dec_col hB h
 unfold nxt
 unfold decP at h4
 rw [if_pos (by omega)] at h4
 rw [if_neg (by omega)]
 exact ⟨h4, h2⟩
theorem measR {w w' : World} {b N p p' : Nat} (h : w.cell? ⟨b, 1, none⟩ = some (.int .i64 (p : Int))) (h' : w'.cell? ⟨b, 1, none⟩ = some (.int .i64 (p' : Int))) (hp : p < p') (hN : p < N) : N - (cellInt w' b 1).toNat < N - (cellInt w b 1).toNat := by
 rw [cellInt_of h, cellInt_of h']; omega
theorem lfRd40 {P : Prop} (h : P := by
 go_wp2_with fail
 refine HNX.out.mono ?_
 rintro r w2 ⟨rfl, hb2⟩
 have HW2 := Lib.hid (HW.out.grow hb2)
 clear hb2 r0 r1 fr lb hsz HW HNX
 go_wp2_with fail
 refine (HC.out _).mono ?_
 rintro r w3 ⟨rfl, hb3⟩
 have HW3 := Lib.hid (HW2.out.grow hb3)
 clear hb3 HW2 HC
 go_wp2
 go_ret2
 rw [HV.out]
 exact ⟨rfl, _, _, HW3.out⟩) : P := h
set_option maxRecDepth 100000 in
set_option maxHeartbeats 8000000 in
theorem row_ok (s : ByteArray) (i0 b : Nat) (W0 : World) (hT : Tabs W0) (hT2 : b ≠ 0 ∧ b ≠ 1) (hs : s.size ≤ 65536) (hi : i0 ≤ s.size) (hR : W0.rowIs b 62 2 (rdF s i0)) :
  Calls Tryd.prog 18 #[.pointer (some ⟨b, 0, none⟩)] W0 (RowPost b s W0 (rowF (bytesOf s) (s.size + 1) i0 [])) := by
 have HTB : Hid (∀ w, BelowX W0.heap.size b W0 w → Tabs w) := Lib.hid fun w hw => ⟨fun c hc => by
   have h1 := hT.1 c hc
   have h2 := hw.block _ (World.block_lt_of_cell? _ _ h1) (fun e => hT2.1 e.symm)
   unfold World.cell? at h1 ⊢
   rw [h2]; exact h1, fun i hi => ⟨by
   have h1 := (hT.2 i hi).1
   have h2 := hw.block _ (World.block_lt_of_cell? _ _ h1) (fun e => hT2.2 e.symm)
   unfold World.cell? at h1 ⊢
   rw [h2]; exact h1, by
   have h1 := (hT.2 i hi).2
   have h2 := hw.block _ (World.block_lt_of_cell? _ _ h1) (fun e => hT2.2 e.symm)
   unfold World.cell? at h1 ⊢
   rw [h2]; exact h1⟩⟩
 have HR0 : Hid (RwR b s W0 i0 [] (.slice none 0 0) W0) := Lib.hid ⟨hR, World.ownsRow_nil _ _ _ _, BelowX.refl (Nat.le_refl _), hR.lt⟩
 obtain ⟨RES, hRES⟩ : ∃ RES, rowF (bytesOf s) (s.size + 1) i0 [] = RES := ⟨_, rfl⟩
 rw [hRES]
 have HRES := Lib.hid hRES
 have hl := By.bytesOf_len s
 obtain ⟨N, hN⟩ : ∃ N, s.size = N := ⟨_, rfl⟩
 rw [hN] at hl hs hi HRES
 have HN := Lib.hid hN
 have HBL := Lib.hid hl
 have hlb0 : LtW b W0 := hR.lt
 clear hT hT2 hR hRES hl hN
 go_enter Tryd.func18, Tryd.ntmps18
 go_wp2_with fail
 go_loopw [4] (fun v wr => ∃ (i f : Nat) (L : List Nat), i ≤ N ∧ N + 1 ≤ i + f ∧ L.length ≤ i ∧ Hid (rowF (bytesOf s) f i L = RES) ∧ Hid (RwR b s W0 i L v wr)) (fun _ wr => N + 1 - (cellInt wr b 1).toNat)
 case atStart => exact ⟨i0, N + 1, [], hi, by omega, by simp, HRES, HR0⟩
 case round =>
  clear HR0 HRES
  obtain ⟨i, f, L, hiN, hf, hLi, HRS, HW⟩ := hrel
  obtain ⟨f, rfl⟩ : ∃ f', f = f' + 1 := ⟨f - 1, by omega⟩
  obtain ⟨A, C, rfl⟩ := own_form HW.out.own
  have r0 : (wr).cell? ⟨b, 0, none⟩ = some (.string s) := (HW.out).rd.cell (i := 0) (by omega)
  have r1 : (wr).cell? ⟨b, 1, none⟩ = some (.int .i64 ((i : Nat) : Int)) := (HW.out).rd.cell (i := 1) (by omega)
  have fr := (HW.out).rd.frozen 1
  have lb : LtW b wr := (HW.out).rd.lt
  have hsz : W0.heap.size ≤ (wr).heap.size := (HW.out).bel.size
  have HNX0 := next_ok s i b wr (HTB.out _ HW.out.bel) (by rw [HN.out]; omega) (by rw [HN.out]; exact hiN) r0 r1
  have hnl := nxt_nl (By.bytesOf_lt s) (i := i) (by rw [HBL.out]; exact hiN)
  have hcl := nxt_col (By.bytesOf_lt s) (i := i) (by rw [HBL.out]; exact hiN)
  have hsm := fun k (h : colAt (bytesOf s) i = some k) => nxt_some (By.bytesOf_lt s) h
  have hun : rowF (bytesOf s) (f + 1) i L = if L ≠ [] ∧ hasAt (bytesOf s) i [10] then .ok L (i + 1) else
   match colAt (bytesOf s) i with
   | none => .bad i
   | some k => rowF (bytesOf s) f (i + (sgL k).length) (L ++ [k]) := rfl
  rw [HRS.out] at hun
  rw [HBL.out] at hsm
  obtain ⟨c, m, hcm⟩ : ∃ c m, nxt (bytesOf s) i = (c, m) := ⟨_, _, rfl⟩
  rw [hcm] at HNX0 hnl hcl hsm
  simp only at HNX0 hnl hcl
  have HNX := Lib.hid HNX0
  have HC := Lib.hid (fun w => colour_ok c w)
  rw [hcl] at HC
  clear HNX0 hcm hcl HRS
  have vi : IntKind.i64.wrap ((i : Int) + 1) = (i : Int) + 1 := IntWalk.i64_in _ (by omega)
  by_cases h10 : hasAt (bytesOf s) i [10]
  ·obtain rfl : c = 10 := hnl.2 h10
   have hcn := By.col_nl (By.bytesOf_lt s) h10
   rw [hcn] at HC hun
   simp only [colV, Option.getD_none, Option.isSome_none] at HC
   by_cases hL : L = []
   ·subst hL
    rw [if_neg (fun h => h.1 rfl)] at hun
    simp only at hun
    have HV := Lib.hid hun
    clear hnl hsm hun h10 hcn
    exact lfRd40
   ·rw [if_pos ⟨hL, h10⟩] at hun
    have HV := Lib.hid hun
    have hlp : 0 < L.length := List.length_pos_iff.2 hL
    have d1 : decide ((L.length : Int) > 0) = true := by simp; omega
    have d2 : decide (0 < L.length) = true := by simpa using hlp
    have HLP := Lib.hid hlp
    clear hnl hsm hun h10 hcn hL hlp
    go_wp2_with fail
    refine HNX.out.mono ?_
    rintro r w2 ⟨rfl, hb2⟩
    have HW2 := Lib.hid (HW.out.grow hb2)
    clear hb2 r0 r1 fr lb hsz HW HNX
    have r0 : (w2).cell? ⟨b, 0, none⟩ = some (.string s) := (HW2.out).rd.cell (i := 0) (by omega)
    have r1 : (w2).cell? ⟨b, 1, none⟩ = some (.int .i64 ((i : Nat) : Int)) := (HW2.out).rd.cell (i := 1) (by omega)
    have fr := (HW2.out).rd.frozen 1
    have lb : LtW b w2 := (HW2.out).rd.lt
    have hsz : W0.heap.size ≤ (w2).heap.size := (HW2.out).bel.size
    have HW3 : Hid (RwR b s W0 (i + 1) L (.slice A L.length C) (w2.setCell ⟨b, 1, none⟩ (.int .i64 ((i : Int) + 1)))) := Lib.hid (HW2.out.setAt (i + 1))
    go_wp2
    all_goals first
     | (go_ret2; rw [HV.out]; exact ⟨_, _, rfl, HW3.out⟩)
     | (exfalso; have := HLP.out; omega)
  ·rw [if_neg (fun h => h10 h.2)] at hun
   have hc10 : c ≠ 10 := fun e => h10 (hnl.1 e)
   have d1 : ((c : Int) == 10) = false := by rw [beq_eq_false_iff_ne]; omega
   have d2 : (c == 10) = false := by rw [beq_eq_false_iff_ne]; omega
   clear hnl h10 hc10
   cases hc : colAt (bytesOf s) i with
   | none =>
    rw [hc] at HC hun
    simp only at hun
    simp only [colV, Option.getD_none, Option.isSome_none] at HC
    have HV := Lib.hid hun
    clear hsm hun hc
    exact lfRd40
   | some k =>
    rw [hc] at HC hun
    simp only at hun
    simp only [colV, Option.getD_some, Option.isSome_some] at HC
    obtain ⟨h1, h2⟩ := hsm k hc
    simp only [Prod.mk.injEq] at h1
    have hm := h1.2
    have hm1 := (By.sgL_len k).1
    rw [← hm] at h2 hm1 hun
    have HV := Lib.hid hun
    have d3 : ((m : Int) == 0) = false := by rw [beq_eq_false_iff_ne]; omega
    have d4 : (m == 0) = false := by rw [beq_eq_false_iff_ne]; omega
    have v2 : IntKind.i64.wrap ((i : Int) + (m : Int)) = (i : Int) + (m : Int) := IntWalk.i64_in _ (by omega)
    have HM1 := Lib.hid hm1
    have HMS := Lib.hid r1
    clear hsm hun hc h1 hm hm1 vi
    go_wp2_with fail
    refine HNX.out.mono ?_
    rintro r w2 ⟨rfl, hb2⟩
    have HW2 := Lib.hid (HW.out.grow hb2)
    clear hb2 r0 r1 fr lb hsz HW HNX
    go_wp2_with fail
    refine (HC.out _).mono ?_
    rintro r w3 ⟨rfl, hb3⟩
    have HW3 := Lib.hid (HW2.out.grow hb3)
    clear hb3 HW2 HC
    go_wp2_with (at_builtin; refine wpApp okRdI rfl (.tmp 40) (.tmp 42) rfl W0.heap.size _ _ _ #[.int .i64 k] rfl HW3.out.own rfl rfl (by simp [Value.oneCell']) (by omega) (by omega) HW3.out.bel.size ?_)
    intro v' w4 hown4 hb4
    obtain ⟨A', cp', rfl⟩ := own_form hown4
    have HW4 := Lib.hid (HW3.out.app hown4 hb4)
    clear hown4 hb4 HW3
    have r0 : (w4).cell? ⟨b, 0, none⟩ = some (.string s) := (HW4.out).rd.cell (i := 0) (by omega)
    have r1 : (w4).cell? ⟨b, 1, none⟩ = some (.int .i64 ((i : Nat) : Int)) := (HW4.out).rd.cell (i := 1) (by omega)
    have fr := (HW4.out).rd.frozen 1
    have lb : LtW b w4 := (HW4.out).rd.lt
    have hsz : W0.heap.size ≤ (w4).heap.size := (HW4.out).bel.size
    have HW5 : Hid (RwR b s W0 (i + m) (L ++ [k]) (.slice A' (L.length + 1) cp') (w4.setCell ⟨b, 1, none⟩ (.int .i64 ((i : Int) + (m : Int))))) := Lib.hid (HW4.out.setAt (i + m))
    go_wp2
    go_roundw
    case rel => exact ⟨i + m, f, L ++ [k], h2, by have := HM1.out; omega, by have := HM1.out; rw [List.length_append, List.length_singleton]; omega, Lib.hid HV.out.symm, HW5⟩
    case measure => exact measR (p' := i + m) HMS.out (HW5.out.rd.cell (i := 1) (by omega)) (by have := HM1.out; omega) (by omega)
end
section
open Go.RowKit
open By (bytesOf hasAt sgL encN decL colAt rowF RowR)
set_option maxRecDepth 100000 in
set_option maxHeartbeats 8000000 in
theorem chBad_any (e p : Int) (w : World) : Calls Tryd.prog 16 #[.int .i64 (e), .int .i64 (p)] w fun r w' => r = .returned (.tuple #[.agg #[.int .i64 (0), .int .i64 (0), .int .i64 (0), .slice none 0 0], .agg #[.int .i64 (e), .int .i64 (p)]]) ∧ Below w.heap.size w w' := by
 go_enter Tryd.func16, Tryd.ntmps16
 go_wp2
 refine bodyPost_ret (v := .tuple #[.agg #[.int .i64 (0), .int .i64 (0), .int .i64 (0), .slice none 0 0], .agg #[.int .i64 (e), .int .i64 (p)]]) (by simp [results, Tryd.results16, go_sem]) rfl ⟨rfl, blw⟩
theorem sgS_L {k : Nat} (hk : k < 62) : bytesOf (sigS k) = sgL k := By.sigS_L ⟨k, hk⟩
end
section
open Go.RowKit
open By (bytesOf hasAt sgL encN decL colAt rowF RowR)
end
end Go.Proofs.YtajdoobkfbdgoaaDoor
