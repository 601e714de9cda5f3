/- Lemmas on which the law of this seat rests; each states its own conditions. -/
import Derived.Test.YtnlnonmgekciaaaDoorB03
import Derived.Test.YtnlnonmgekciaaaDoorB04
import Derived.Test.YtnlnonmgekciaaaDoorB01
import Derived.Test.YtnlnonmgekciaaaDoorB02
import Derived.Laws.IdiomStrings
set_option linter.unusedVariables false
set_option linter.unusedSimpArgs false
namespace Go.Proofs.YtnlnonmgekciaaaDoor
section
open Go.RowKit
open By (bytesOf hasAt sgL encN decL colAt)
def Tabs (w : World) : Prop := Lib.Utf8Tabs 0 1 w
theorem Tabs.below {w w' : World} (h : Tabs w) (hb : Below w.heap.size w w') : Tabs w' :=
 ⟨fun c hc => bCs hb (h.1 c hc), fun i hi => ⟨bCs hb (h.2 i hi).1, bCs hb (h.2 i hi).2⟩⟩
def decP (B : List Nat) (i : Nat) : Nat × Nat := if i < B.length then decL B i else (65533, 0)
theorem bytesOf_tail (s : ByteArray) (i : Nat) : bytesOf (s.extract i s.size) = (bytesOf s).drop i := by
 by_cases h : i ≤ s.size
 ·have := By.bytesOf_extract s i (s.size - i) (by omega)
  rw [show i + (s.size - i) = s.size by omega] at this
  rw [this, List.take_of_length_le (by rw [List.length_drop, By.bytesOf_len]; omega)]
 ·rw [List.drop_eq_nil_of_le (by rw [By.bytesOf_len]; omega)]
  have h2 : (bytesOf (s.extract i s.size)).length = 0 := by rw [By.bytesOf_len, ByteArray.size_extract]; omega
  exact List.length_eq_zero_iff.1 h2
theorem decL_drop (B : List Nat) (i : Nat) : decL (B.drop i) 0 = decL B i := by
 have e : ∀ j, (B.drop i).getD j 0 = B.getD (i + j) 0 := fun j => by rw [List.getD_eq_getElem?_getD, List.getElem?_drop, ← List.getD_eq_getElem?_getD]
 unfold decL
 rw [e, e, e, e, List.length_drop]
 simp
theorem decodeGo_at (s : ByteArray) (i : Nat) : Go.Lib.decodeGo (s.extract i s.size) = decP (bytesOf s) i := by
 unfold Go.Lib.decodeGo decP
 have hl : (s.extract i s.size).size = s.size - i := by rw [ByteArray.size_extract]; omega
 rw [hl, By.bytesOf_len]
 by_cases h : i < s.size
 ·rw [if_neg (by omega), if_pos h, By.dec_L, bytesOf_tail, decL_drop]
 ·rw [if_pos (by omega), if_neg h]
theorem dec_ok (s : ByteArray) (i : Nat) (w : World) (hT : Tabs w) :
  Calls Tryd.prog 46 #[.string (s.extract i s.size)] w fun e w' => e = .returned (.tuple #[.int .i32 (decP (bytesOf s) i).1, .int .i64 (decP (bytesOf s) i).2]) ∧ Below w.heap.size w w' := by
 have h := Tryd.utf8_DecodeRuneInString (s.extract i s.size) w hT
 rw [decodeGo_at] at h
 exact h
def colB (B : List Nat) : Nat × Nat := match colAt B 0 with
 | some k => (k, (sgL k).length)
 | none => (0, 0)
theorem colR_P {B : List Nat} (hB : ∀ x ∈ B, x < 256) (i : Nat) : colR (decP B i).1 = colAt B i := by
 unfold decP
 split
 ·rename_i h
  exact colR_at hB h
 ·rename_i h
  have h1 : colAt B i = none := By.colAt_none.2 fun k _ h2 => by
   have := By.hasAt_bd h2 (By.sgL_ne k)
   have := (By.sgL_len k).1
   omega
  rw [h1]
  exact colR_none.2 fun k hk e => by have := (By.sign_lt' ⟨k, hk⟩).1; simp only at this; omega
theorem dec_col {B : List Nat} (hB : ∀ x ∈ B, x < 256) {i k : Nat} (h : colAt B i = some k) : decP B i = (signK k, (sgL k).length) := by
 have h1 := (By.colAt_some hB).1 h
 have h2 := (By.has_dec hB (By.sign_lt' ⟨k, h1.1⟩).1).1 h1.2
 unfold decP
 rw [if_pos h2.1]
 exact Prod.ext h2.2 (By.dec_len hB (By.sign_lt' ⟨k, h1.1⟩).1 h2.2)
set_option maxRecDepth 100000 in
set_option maxHeartbeats 8000000 in
theorem chColour_ok (s : ByteArray) (w : World) (hT : Tabs w) :
  Calls Tryd.prog 37 #[.string s] w fun e w' => e = .returned (.tuple #[.int .i64 (colB (bytesOf s)).1, .int .i64 (colB (bytesOf s)).2]) ∧ Below w.heap.size w w' := by
 have HD := Lib.hid (fun w hT => dec_ok s 0 w hT)
 have e0 : s.extract 0 s.size = s := by
  apply By.bytesOf_inj; rw [bytesOf_tail]; rfl
 rw [e0] at HD
 have HT := Lib.hid hT
 cases hc : colAt (bytesOf s) 0 with
 | some k =>
  have h1 := (By.colAt_some (By.bytesOf_lt s)).1 hc
  have hd := dec_col (By.bytesOf_lt s) hc
  have hcr := colR_P (By.bytesOf_lt s) 0
  have hv : colB (bytesOf s) = (k, (sgL k).length) := by unfold colB; rw [hc]
  rw [hd, hc] at hcr
  rw [hd] at HD
  rw [hv]
  have hl := (By.sgL_len k).1
  simp only at hcr HD
  have HC := Lib.hid (fun w => colour_ok (signK k) w)
  rw [hcr] at HC
  generalize (sgL k).length = m at *
  generalize signK k = r at *
  have d1 : decide ((m : Int) > 0) = true := by simp; omega
  have d2 : decide ((0 : Int) < m) = true := by simp; omega
  simp only [colV, Option.getD_some, Option.isSome_some] at HC
  have HL := Lib.hid hl
  clear hc h1 hd hcr hv e0 hT hl
  go_enter Tryd.func37, Tryd.ntmps37
  (go_wp2_with fail; refine (HD.out _ (HT.out.below blw)).mono ?_; rintro r w1 ⟨rfl, hb⟩; obtain ⟨E, d, rfl⟩ := bExt hb; clear hb)
  (go_wp2_with fail; refine (HC.out _).mono ?_; rintro r w1 ⟨rfl, hb⟩; obtain ⟨E, d, rfl⟩ := bExt hb; clear hb)
  go_wp2
  all_goals first | (go_ret2; exact ⟨rfl, blw⟩) | (exfalso; have := HL.out; omega)
 | none =>
  have hcr := colR_P (By.bytesOf_lt s) 0
  have hv : colB (bytesOf s) = (0, 0) := by unfold colB; rw [hc]
  rw [hc] at hcr
  rw [hv]
  have HC := Lib.hid (fun w => colour_ok (decP (bytesOf s) 0).1 w)
  rw [hcr] at HC
  generalize (decP (bytesOf s) 0).1 = r at *
  generalize (decP (bytesOf s) 0).2 = m at *
  simp only [colV, Option.getD_none, Option.isSome_none] at HC
  clear hc hcr hv e0 hT
  go_enter Tryd.func37, Tryd.ntmps37
  (go_wp2_with fail; refine (HD.out _ (HT.out.below blw)).mono ?_; rintro r w1 ⟨rfl, hb⟩; obtain ⟨E, d, rfl⟩ := bExt hb; clear hb)
  (go_wp2_with fail; refine (HC.out _).mono ?_; rintro r w1 ⟨rfl, hb⟩; obtain ⟨E, d, rfl⟩ := bExt hb; clear hb)
  go_wp2
  go_ret2
  exact ⟨rfl, blw⟩
end
section
open Go.RowKit
open By (bytesOf hasAt sgL encN decL colAt)
theorem by_from (s : ByteArray) (a : Nat) (h2 : a ≤ s.size) (w : World) : (Instr.slice 9 (.string s) (some (.int .i64 ((a : Int)))) none none).run Tryd.prog w = .ok (.string (s.extract a s.size)) w := by
 have h := run_slice_string_l (P := Tryd.prog) w 9 s Tryd.underlying9 .i64 (a : Int) (by omega) (by omega)
 simpa using h
end
section
open Go.RowKit
open By (bytesOf hasAt sgL encN decL colAt RowR)
end
section
open Go.RowKit
open By (bytesOf hasAt sgL encN decL colAt RowR)
theorem sigs_at' {q n : Nat} (h : q < n) : (sigs n)[q]? = some (.string (sigS q)) := by
 unfold sigs; rw [List.getElem?_map, List.getElem?_range h]; rfl
theorem sigs_cell {w : World} {B c q : Nat} {A : Nat} (h : w.ownsRow B 9 1 (.slice (some ⟨A, 0, none⟩) 62 c) 62 (sigs 62)) (hq : q < 62) : w.cell? ⟨A, q, none⟩ = some (.string (sigS q)) := by
 rw [(own_cell h hq).1, sigs_at' hq]
theorem sgS_L {k : Nat} (hk : k < 62) : bytesOf (sigS k) = sgL k := By.sigS_L ⟨k, hk⟩
theorem sgS_size {k : Nat} (hk : k < 62) : (sigS k).size = (sgL k).length := by rw [← sgS_L hk, By.bytesOf_len]
set_option maxRecDepth 100000 in
set_option maxHeartbeats 8000000 in
theorem r2Colour_ok (s : ByteArray) (w : World) (hs : s.size ≤ 9223372036854775807) :
  Calls Tryd.prog 40 #[.string s] w fun e w' => e = .returned (.tuple #[.int .i64 (colB (bytesOf s)).1, .int .i64 (colB (bytesOf s)).2]) ∧ Below w.heap.size w w' := by
 have HG := Lib.hid (fun w => Signs_ok w)
 have HST := Lib.hid (fun (k : Nat) w (hk : k < 62) => by
  have h := starts_ok s (sigS k) 0 w hs (by rw [sgS_size hk]; exact (By.sgL_len k).1) (by rw [sgS_size hk]; have := (By.sgL_len k).2; omega)
  rw [sgS_L hk] at h
  exact h)
 have hBL := By.bytesOf_lt s
 have HSO : Hid (∀ k, k < 62 → hasAt (bytesOf s) 0 (sgL k) → colB (bytesOf s) = (k, (sigS k).size)) := Lib.hid fun k hk h => by
  unfold colB
  rw [(By.colAt_some hBL).2 ⟨hk, h⟩, sgS_size hk]
 have HNO : Hid ((∀ k, k < 62 → ¬ hasAt (bytesOf s) 0 (sgL k)) → colB (bytesOf s) = (0, 0)) := Lib.hid fun h => by
  unfold colB
  rw [By.colAt_none.2 h]
 clear hBL hs
 go_enter Tryd.func40, Tryd.ntmps40
 go_wp2_with fail
 refine (HG.out _).mono ?_
 rintro r w2 ⟨A, c, rfl, hown, hb2⟩
 have HCE : Hid (∀ k, k < 62 → w2.cell? ⟨A, k, none⟩ = some (.string (sigS k))) := Lib.hid fun k hk => sigs_cell hown hk
 have hbw : Below w.heap.size w w2 := hb2
 have hsz2 : w.heap.size ≤ w2.heap.size := hb2.size
 clear hown hb2 HG
 go_wp2_with fail
 go_loopw [8] (fun kv wr => ∃ (k : Nat) (E : Array Obj) (d : Nat), k ≤ 62 ∧ kv = .int .i64 k ∧ Hid (∀ j, j < k → ¬ hasAt (bytesOf s) 0 (sgL j)) ∧ wr = extW w2 E d) (fun kv _ => 62 - (intOf kv).toNat)
 case atStart => exact ⟨0, #[], _, by omega, rfl, Lib.hid fun j h => absurd h (by omega), extW_zero _⟩
 case round =>
  obtain ⟨k, E, d, hk, rfl, HK, rfl⟩ := hrel
  by_cases hk6 : k < 62
  ·have dk : decide ((k : Int) < 62) = true := by simp; omega
   have dk' : decide (k < 62) = true := by simpa using hk6
   have vk : IntKind.i64.wrap ((k : Int) + 1) = (k : Int) + 1 := IntWalk.i64_in _ (by omega)
   have c0 := HCE.out k hk6
   have lA : LtW A w2 := World.block_lt_of_cell? _ _ c0
   have HS1 := Lib.hid (fun w => HST.out k w hk6)
   by_cases e : hasAt (bytesOf s) 0 (sgL k)
   ·have HV := Lib.hid (HSO.out k hk6 e)
    rw [decide_eq_true e] at HS1
    generalize sigS k = t at *
    clear e HST HSO HNO
    (go_wp2_with fail; refine (HS1.out _).mono ?_; rintro r w1 ⟨rfl, hb⟩; obtain ⟨E, d, rfl⟩ := bExt hb; clear hb)
    go_wp2
    go_ret2
    exact ⟨by rw [HV.out]; rfl, blw⟩
   ·have HN := Lib.hid e
    rw [decide_eq_false e] at HS1
    generalize sigS k = t at *
    clear e HST
    (go_wp2_with fail; refine (HS1.out _).mono ?_; rintro r w1 ⟨rfl, hb⟩; obtain ⟨E, d, rfl⟩ := bExt hb; clear hb)
    go_wp2
    go_roundw
    case rel => exact ⟨k + 1, _, _, by omega, by go_num, Lib.hid fun j hj => (by
     by_cases e : j = k
     ·subst e; exact HN.out
     ·exact HK.out j (by omega)), by simp only [extW_extW]; rfl⟩
    case measure => simp [intOf]; omega
  ·obtain rfl : k = 62 := by omega
   have HV := Lib.hid (HNO.out fun k hk => HK.out k hk)
   clear HST HSO HNO
   go_wp2
   go_ret2
   exact ⟨by rw [HV.out]; rfl, blw⟩
end
section
open Go.RowKit
open Se
open By (bytesOf hasAt sgL colAt)
theorem bytesOf_getS (s : ByteArray) {k : Nat} (h : k < s.size) : (bytesOf s).getD k 0 = (s[k]'h).toNat := by
 have hk : k < s.data.toList.length := by rw [Array.length_toList]; exact h
 unfold By.bytesOf
 rw [List.getD_eq_getElem?_getD, List.getElem?_map, List.getElem?_eq_getElem hk]
 rfl
theorem index_atS (s : ByteArray) {k : Nat} (hk : k < s.size) (w : World) : (Instr.index 9 (.string s) (.int .i64 (k))).run Tryd.prog w = .ok (.int .u8 ((bytesOf s).getD k 0 : Nat)) w := by
 rw [run_index_string (P := Tryd.prog) w 9 s .i64 (k : Int) Tryd.underlying9, dif_pos (by omega), bytesOf_getS s hk]
 rfl
theorem toL_empty (t : ByteArray) : t.toList.isEmpty = decide (t.size = 0) := by
 rw [ByteArray.toList_eq]
 have h : t.size = t.data.toList.length := by rw [Array.length_toList]; rfl
 rw [h]
 cases t.data.toList <;> simp
def SePost (R : SeT) (w : World) (r : Ending) (w' : World) : Prop :=
 match R with
 | .bad e p => r = .returned (.tuple #[.agg #[.bool false, .slice none 0 0], .agg #[.int .i64 (e), .int .i64 (p)]]) ∧ Below w.heap.size w w'
 | .ok pv l => (∃ A C, r = .returned (.tuple #[.agg #[.bool pv, .slice A l.length C], .agg #[.int .i64 (0), .int .i64 (0)]]) ∧ IsStr w' A l.length l) ∧ Below w.heap.size w w'
def finS (pv : Bool) : SeR → SeT
 | .bad e p => .bad e p
 | .ok l => if wrS pv l ≠ 0 then .bad (wrS pv l) 0 else .ok pv l
theorem readSe_eq (B : List Nat) : readSe B = if 65536 < B.length then .bad 4 0 else finS (pvB B) (seF B (pvB B) (B.length + 1) (pvB B).toNat []) := by
 unfold readSe finS
 rfl
def stS (pv : Bool) (v : Value) : Nat → Value := fun j => if j = 0 then .bool pv else v
theorem stS_alloc (w : World) (pv : Bool) (A : Option Addr) (k c : Nat) : (w.alloc (.cells #[.bool pv, .slice A k c] 24)).rowIs w.heap.size 24 2 (stS pv (.slice A k c)) := by
 refine World.rowIs_alloc w #[.bool pv, .slice A k c] 24 (stS pv (.slice A k c)) ?_
 intro j hj
 have hj' : j < 2 := hj
 have h2 : j = 0 ∨ j = 1 := by omega
 rcases h2 with rfl | rfl <;> rfl
def ftS (e p : Int) : Nat → Value := fun j => if j = 0 then .int .i64 e else .int .i64 p
theorem ftS_alloc (w : World) (e p : Int) : (w.alloc (.cells #[.int .i64 e, .int .i64 p] 38)).rowIs w.heap.size 38 2 (ftS e p) := by
 refine World.rowIs_alloc w #[.int .i64 e, .int .i64 p] 38 (ftS e p) ?_
 intro j hj
 have hj' : j < 2 := hj
 have h2 : j = 0 ∨ j = 1 := by omega
 rcases h2 with rfl | rfl <;> rfl
structure SI (q q1 sb base : Nat) (w0 : World) (pv : Bool) (acc : List St) (v : Value) (w : World) : Prop where
 res : w.rowIs q 24 2 (stS false (.slice none 0 0))
 flt : w.rowIs q1 38 2 (ftS 0 0)
 row : w.rowIs sb 24 2 (stS pv v)
 own : OwnSt w base v acc
 bel : Below q w0 w
 siz : base ≤ w.heap.size
 o1 : q < q1
 o2 : q1 < sb
 o3 : sb < base
section
variable {q q1 sb base : Nat} {w0 w w' : World} {pv : Bool} {acc acc' : List St} {v v' : Value}
theorem SI.grow (h : SI q q1 sb base w0 pv acc v w) (hb : Below w.heap.size w w') : SI q q1 sb base w0 pv acc v w' :=
 ⟨rowBelow h.res hb h.res.lt, rowBelow h.flt hb h.flt.lt, rowBelow h.row hb h.row.lt, ownBelow h.own hb, h.bel.trans (hb.mono (by have := h.res.lt; omega)), Nat.le_trans h.siz hb.size, h.o1, h.o2, h.o3⟩
theorem SI.app (h : SI q q1 sb base w0 pv acc v w) (hb : Below base w w') (hown : OwnSt w' base v' acc') : SI q q1 sb base w0 pv acc' v' (w'.setCell ⟨sb, 1, none⟩ v') := by
 have oa := h.o1; have ob := h.o2; have oc := h.o3
 refine ⟨(rowBelow h.res hb (by omega)).of_block (Below.heap_setCell _ _ _ q (by simp; omega)), (rowBelow h.flt hb (by omega)).of_block (Below.heap_setCell _ _ _ q1 (by simp; omega)), ((rowBelow h.row hb (by omega)).set 1 _).congr fun i hi => ?_, ownsRow_setCell_below hown (a := ⟨sb, 1, none⟩) (by simp; omega) _, (h.bel.trans (hb.mono (by omega))).setCell (by simp; omega) _, by rw [World.size_setCell]; exact Nat.le_trans h.siz hb.size, oa, ob, oc⟩
 have hi3 : i = 0 ∨ i = 1 := by omega
 rcases hi3 with rfl | rfl <;> rfl
end
theorem own_baseS {w : World} {base : Nat} {v : Value} {L : List St} (h : OwnSt w base v L) : ∀ k, v.ownBlock = some k → base ≤ k := by
 intro k hk
 rcases h.2 with ⟨e, _⟩ | ⟨g, cap, cur, e, hb, _⟩
 ·rw [e] at hk; cases hk
 ·rw [e] at hk
  have e2 : some g = some k := hk
  injection e2 with e2
  omega
theorem OwnSt.snoc {w : World} {base n : Nat} {v : Value} {L : List St} {x : St} (hl : L.length = n) (h : w.ownsRow base 44 2 v (n + 1) (strK L ++ [.int .i64 x.1, .int .i64 x.2])) : OwnSt w base v (L ++ [x]) := by
 unfold OwnSt
 rw [List.length_append, List.length_singleton, hl, strK_snoc]
 exact h
theorem pvB_pref (s : ByteArray) : Lib.hasPrefix s.data.toList [47] = Se.pvB (bytesOf s) := by
 unfold Lib.hasPrefix Se.pvB bytesOf
 cases s.data.toList with
 | nil => rfl
 | cons b l =>
  have e : (b.toNat = 47) ↔ b = 47 := ⟨fun h => UInt8.toNat_inj.1 h, fun h => by rw [h]; rfl⟩
  simp only [List.isPrefixOf, List.map_cons, List.length_cons, List.getD_cons_zero, Nat.zero_lt_succ, true_and, e, Bool.and_true]
  by_cases h : b = 47
  ·subst h; rfl
  ·rw [decide_eq_false h, beq_eq_false_iff_ne]
   exact fun x => h x.symm
theorem cut_ok (s : ByteArray) (w : World) :
  Calls Tryd.prog 36 #[.string s, .string ⟨#[47]⟩] w fun r w' => (∃ t : ByteArray, t.size + (pvB (bytesOf s)).toNat = s.size ∧ r = .returned (.tuple #[.string t, .bool (pvB (bytesOf s))])) ∧ Below w.heap.size w w' := by
 refine (Tryd.strings_CutPrefix s ⟨#[47]⟩ w).mono ?_
 rintro r w' ⟨rfl, rfl⟩
 have e1 : (⟨#[47]⟩ : ByteArray).data.toList = [47] := rfl
 rw [e1, pvB_pref]
 refine ⟨⟨_, ?_, rfl⟩, Below.refl _ _⟩
 unfold Lib.trimPrefix
 rw [pvB_pref]
 cases hp : pvB (bytesOf s) with
 | false =>
  simp only [Bool.false_eq_true, if_false, Bool.toNat_false]
  show (s.data.toList.toArray).size + 0 = s.data.size
  rw [List.size_toArray, Array.length_toList]
  rfl
 | true =>
  unfold pvB at hp
  rw [decide_eq_true_eq, By.bytesOf_len] at hp
  have h1 : 0 < s.data.size := hp.1
  simp only [if_true, Bool.toNat_true]
  show ((s.data.toList.drop 1).toArray).size + 1 = s.data.size
  rw [List.size_toArray, List.length_drop, Array.length_toList]
  omega
theorem atoi_ok (s : ByteArray) (w : World) (hne : bytesOf s ≠ []) (hd : ∀ b ∈ bytesOf s, isDig b = true) (hs : s.size ≤ 18) :
  Calls Tryd.prog 38 #[.string s] w fun r w' => r = .returned (.tuple #[.int .i64 ((valN (bytesOf s) : Nat)), .nilIface]) ∧ Below w.heap.size w w' := by
 refine (Tryd.strconv_Atoi s _ hs (atoi_val hne hd) w).mono ?_
 rintro r w' ⟨rfl, t, rfl⟩
 exact ⟨rfl, ⟨rfl, rfl, rfl, by rw [Lib.bytesWorld_size]; omega, fun j hj => Lib.bytesWorld_at_old w _ _ j hj⟩⟩
theorem sBad_any (e p : Int) (w : World) : Calls Tryd.prog 35 #[.int .i64 (e), .int .i64 (p)] w fun r w' => r = .returned (.tuple #[.agg #[.bool false, .slice none 0 0], .agg #[.int .i64 (e), .int .i64 (p)]]) ∧ Below w.heap.size w w' := by
 go_enter Tryd.func35, Tryd.ntmps35
 go_wp2
 refine bodyPost_ret (v := .tuple #[.agg #[.bool false, .slice none 0 0], .agg #[.int .i64 (e), .int .i64 (p)]]) (by simp [results, Tryd.results35, go_sem]) rfl ⟨rfl, blw⟩
theorem colB_drop (B : List Nat) (i : Nat) : colB (B.drop i) = match colAt B i with
  | some k => (k, (sgL k).length)
  | none => (0, 0) := by
 unfold colB
 rw [colAt_drop]
 all_goals (cases colAt B i <;> rfl)
end
end Go.Proofs.YtnlnonmgekciaaaDoor
