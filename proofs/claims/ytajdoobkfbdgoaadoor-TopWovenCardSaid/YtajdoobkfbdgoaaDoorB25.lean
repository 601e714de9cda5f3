/- Lemmas on which the law of this seat rests; each states its own conditions. -/
import Derived.Test.YtajdoobkfbdgoaaDoorB24
import Derived.Test.YtajdoobkfbdgoaaDoorB08
import Derived.Test.YtajdoobkfbdgoaaDoorB06
import Derived.Laws.IdiomStrings
import Derived.Lib.SlBytesConst
import Derived.Deep.RegionWith
import Derived.Deep.DeepCutAuto
set_option linter.unusedVariables false
set_option linter.unusedSimpArgs false
namespace Go.Proofs.YtajdoobkfbdgoaaDoor
section
open Go.RowKit
def IsB8 (w : World) (a : Option Addr) (n : Nat) (l : List Nat) : Prop :=
 l.length = n ∧ (0 < n → ∃ b o, a = some ⟨b, o, none⟩ ∧ b < w.heap.size ∧ ∀ j, j < n → w.cell? ⟨b, o + j, none⟩ = some (.int .u8 (l.getD j 0 : Nat)))
theorem IsB8.below {w w' : World} {a : Option Addr} {n : Nat} {l : List Nat} (h : IsB8 w a n l) (hb : Below w.heap.size w w') : IsB8 w' a n l := by
 refine ⟨h.1, fun hn => ?_⟩
 obtain ⟨b, o, h1, h2, h3⟩ := h.2 hn
 exact ⟨b, o, h1, Nat.lt_of_lt_of_le h2 hb.size, fun j hj => bCs hb (h3 j hj)⟩
theorem u8_nat (n : Nat) : IntKind.u8.wrap (n : Int) = ((n % 256 : Nat) : Int) := by rw [IntKind.wrap_u8]; omega
theorem take_sum {l : List Nat} {k : Nat} (hk : k < l.length) : (l.take (k+1)).sum = (l.take k).sum + l.getD k 0 := by
 rw [List.take_add_one, List.sum_append]; simp [List.getD, hk]
set_option maxRecDepth 100000 in
set_option maxHeartbeats 8000000 in
theorem sum_any (a : Option Addr) (n c : Nat) (l : List Nat) (w : World) (hi : IsB8 w a n l) (hn : n ≤ 9223372036854775807) (hl : ∀ x ∈ l, x < 256) :
  Calls Tryd.prog 27 #[.slice a n c] w fun e w' => e = .returned (.int .u8 ((l.sum % 256 : Nat))) ∧ Below w.heap.size w w' := by
 have HI := Lib.hid hi; have HL := Lib.hid hi.1; have HB := Lib.hid hl
 clear hi hl
 go_enter Tryd.func27, Tryd.ntmps27
 go_wp2_with fail
 go_loopw [8, 3] (fun i m wr => ∃ k : Nat, k ≤ n ∧ i = .int .i64 k ∧ m = .int .u8 (((l.take k).sum % 256 : Nat)) ∧ Below w.heap.size w wr) (fun i _ _ => n - (intOf i).toNat)
 case atStart => exact ⟨0, Nat.zero_le _, rfl, rfl, Below.refl _ _⟩
 case round =>
  obtain ⟨k, hk, rfl, rfl, hbel⟩ := hrel
  have HBL := Lib.hid hbel
  by_cases hkn : k < n
  ·obtain ⟨b, o, rfl, hb, hc⟩ := (HI.out.below hbel).2 (by omega)
   have c0 := hc k hkn
   have lb : LtW b wr := hb
   have hx : l.getD k 0 < 256 := HB.out _ (getD_memN (by rw [HL.out]; exact hkn))
   have HS := Lib.hid (take_sum (l := l) (k := k) (by rw [HL.out]; exact hkn))
   obtain ⟨x, hxe⟩ : ∃ x, l.getD k 0 = x := ⟨_, rfl⟩
   rw [hxe] at c0 hx HS
   obtain ⟨s, hs⟩ : ∃ s, (l.take k).sum % 256 = s := ⟨_, rfl⟩
   have hs2 : s < 256 := by omega
   have HSE := Lib.hid hs
   rw [hs]
   have v1 : IntKind.u8.wrap ((s : Int) + (x : Int)) = (((s + x) % 256 : Nat) : Int) := by rw [← Int.natCast_add, u8_nat]
   clear hc hb hxe hs hbel
   go_wp2
   go_roundw
   case rel => exact ⟨k + 1, by omega, by go_num, by rw [HS.out, Nat.add_mod, HSE.out, Nat.mod_eq_of_lt hx]; rfl, HBL.out⟩
   case measure => simp [intOf]; omega
  ·obtain rfl : n = k := by omega
   have HT : Hid (l.take n = l) := Lib.hid (List.take_of_length_le (by rw [HL.out]; exact Nat.le_refl _))
   go_wp2
   go_ret
   exact ⟨by rw [HT.out]; rfl, HBL.out⟩
theorem or8 : ∀ b0 b1 b2 b3 b4 b5 b6 b7 : Bool, ∀ k : Fin 8, [b0, b1, b2, b3, b4, b5, b6, b7].getD k.val false = false →
  (128 * b0.toNat + 64 * b1.toNat + 32 * b2.toNat + 16 * b3.toNat + 8 * b4.toNat + 4 * b5.toNat + 2 * b6.toNat + b7.toNat) ||| (128 / 2 ^ k.val) =
   128 * (b0 || k.val == 0).toNat + 64 * (b1 || k.val == 1).toNat + 32 * (b2 || k.val == 2).toNat + 16 * (b3 || k.val == 3).toNat + 8 * (b4 || k.val == 4).toNat + 4 * (b5 || k.val == 5).toNat + 2 * (b6 || k.val == 6).toNat + (b7 || k.val == 7).toNat := by decide +kernel
theorem byt_congr {f g : Nat → Bool} {j : Nat} (h : ∀ k, k < 8 → f (8*j+k) = g (8*j+k)) : byt f j = byt g j := by
 unfold byt
 have h0 := h 0 (by omega)
 rw [Nat.add_zero] at h0
 rw [h0, h 1 (by omega), h 2 (by omega), h 3 (by omega), h 4 (by omega), h 5 (by omega), h 6 (by omega), h 7 (by omega)]
theorem byt_or {f g : Nat → Bool} {j k : Nat} (hk : k < 8) (hf : f (8*j+k) = false) (hg : ∀ i, g i = (f i || i == 8*j+k)) : byt f j ||| (128 / 2 ^ k) = byt g j := by
 have h := or8 (f (8*j)) (f (8*j+1)) (f (8*j+2)) (f (8*j+3)) (f (8*j+4)) (f (8*j+5)) (f (8*j+6)) (f (8*j+7)) ⟨k, hk⟩
 have hk8 : k = 0 ∨ k = 1 ∨ k = 2 ∨ k = 3 ∨ k = 4 ∨ k = 5 ∨ k = 6 ∨ k = 7 := by omega
 have e : ∀ i, i < 8 → (8*j+i == 8*j+k) = (k == i) := fun i _ => by
  by_cases h : k = i
  ·subst h; simp
  ·rw [beq_eq_false_iff_ne.2 (by omega), beq_eq_false_iff_ne.2 h]
 refine Eq.trans (h ?_) ?_
 ·rcases hk8 with rfl | rfl | rfl | rfl | rfl | rfl | rfl | rfl <;> exact hf
 ·unfold byt
  have e0 := e 0 (by omega)
  rw [Nat.add_zero] at e0
  rw [hg, hg, hg, hg, hg, hg, hg, hg, e0, e 1 (by omega), e 2 (by omega), e 3 (by omega), e 4 (by omega), e 5 (by omega), e 6 (by omega), e 7 (by omega)]
theorem BelowX.extB {base mb : Nat} {W w : World} (h : BelowX base mb W w) (E : Array Obj) (d : Nat) : BelowX base mb W (extW w E d) :=
 have hb : Below w.heap.size w (extW w E d) := bExtW (Below.refl _ _) (Nat.le_refl _)
 ⟨hb.os.trans h.os, hb.tape.trans h.tape, hb.output.trans h.output, Nat.le_trans h.size hb.size, fun k hk hkm => (hb.block k (Nat.lt_of_lt_of_le hk h.size)).trans (h.block k hk hkm)⟩
def BytesPost (L : List Nat) (w : World) (r : Ending) (w' : World) : Prop := ∃ g, r = .returned (.slice (some ⟨g, 0, none⟩) L.length L.length) ∧ IsB8 w' (some ⟨g, 0, none⟩) L.length L ∧ Below w.heap.size w w' ∧ w.heap.size ≤ g
theorem okB8 : ElemOk 78 5 1 1 (.int .u8 0) := ⟨Tryd.underlying78, by kernel_rfl, rfl, by omega⟩
set_option maxRecDepth 100000 in
set_option maxHeartbeats 8000000 in
theorem punched_any (a : Option Addr) (n c : Nat) (r : List Bool) (w : World) (hi : IsBools w a n r) (hn : n ≤ 64) :
  Calls Tryd.prog 25 #[.slice a n c] w (BytesPost (punchL r) w) := by
 have hm : (n + 7) / 8 ≤ 8 := by omega
 have hmk := makeRow okB8 rfl ((n + 7) / 8) (by omega) (by omega)
 have HI := Lib.hid hi; have HL := Lib.hid hi.1
 have HM : Hid ((n + 7) / 8 * 8 ≤ n + 7 ∧ n + 7 < (n + 7) / 8 * 8 + 8) := Lib.hid (by omega)
 have v0 : IntKind.i64.wrap ((n : Int) + 7) = (n : Int) + 7 := IntWalk.i64_in _ (by omega)
 have v1 : IntKind.i64.wrap (((n : Int) + 7).tdiv 8) = (((n + 7) / 8 : Nat) : Int) := by rw [IntWalk.i64_quo _ _ (by omega)]; omega
 have v2 : ((n : Int) + 7).tdiv 8 = (((n + 7) / 8 : Nat) : Int) := by rw [Int.tdiv_eq_ediv_of_nonneg (by omega)]; omega
 have v3 : ((n : Int) + 7) / 8 = (((n + 7) / 8 : Nat) : Int) := by omega
 clear hi
 obtain ⟨m, hme⟩ : ∃ m, (n + 7) / 8 = m := ⟨_, rfl⟩
 rw [hme] at hm hmk HM v1 v2 v3
 have HME := Lib.hid hme
 clear hme
 go_enter Tryd.func25, Tryd.ntmps25
 go_wp2_with fail
 have hrow0 := World.rowIs_made w (.int .u8 0) m 5
 have hb1 : Below w.heap.size w (w.alloc (.cells (madeCells #[.int .u8 0] m) 5)) := blw
 have hs1 : (w.alloc (.cells (madeCells #[.int .u8 0] m) 5)).heap.size = w.heap.size + 1 := by simp
 generalize w.alloc (.cells (madeCells #[.int .u8 0] m) 5) = W1 at *
 generalize hgb : w.heap.size = gb at *
 have HGB := Lib.hid hgb
 clear hgb
 obtain ⟨base, hbase⟩ : ∃ b, b = W1.heap.size := ⟨_, rfl⟩
 have hord : gb < base := by omega
 have HBS := Lib.hid hbase; have HROW0 := Lib.hid hrow0
 have hB0 : Hid (∀ w', BelowX base gb W1 w' → Below w.heap.size w w') := Lib.hid fun w' h => by
  rw [HGB.out]
  exact hb1.trans ((h.below hbase.symm (Nat.le_refl _) hord).mono (by omega))
 clear hrow0 hb1 hs1 hbase
 go_loopw [13] (fun i wr => ∃ k : Nat, k ≤ n ∧ i = .int .i64 k ∧ wr.rowIs gb 5 m (fun j => .int .u8 ((byt (fun i => decide (i < k) && r.getD i false) j : Nat))) ∧ BelowX base gb W1 wr) (fun i _ => n - (intOf i).toNat)
 case atStart => exact ⟨0, Nat.zero_le _, rfl, HROW0.out.congr fun j hj => by simp [byt], BelowX.refl (by have := HBS.out; omega)⟩
 case round =>
  obtain ⟨k, hk, rfl, hrow, hbx⟩ := hrel
  have hbw := hB0.out _ hbx
  have HBW := Lib.hid hbw
  by_cases hkn : k < n
  ·obtain ⟨b, o, rfl, hbl, hc⟩ := (HI.out.below hbw).2 (by omega)
   have c0 := hc k hkn
   have lb : LtW b wr := hbl
   have hkm : k / 8 < m := by have := HM.out; omega
   have cg := hrow.cell hkm
   have fg := hrow.frozen (k / 8)
   have lg : LtW gb wr := hrow.lt
   obtain ⟨v, hv⟩ : ∃ v, byt (fun i => decide (i < k) && r.getD i false) (k / 8) = v := ⟨_, rfl⟩
   have hvl : v < 256 := by rw [← hv]; exact byt_lt _ _
   simp only [hv] at cg
   have HV := Lib.hid hv
   obtain ⟨bit, hbit⟩ : ∃ bit, r.getD k false = bit := ⟨_, rfl⟩
   rw [hbit] at c0
   have HBIT := Lib.hid hbit
   have HROW := Lib.hid hrow; have HBX := Lib.hid hbx
   clear hc hbl hrow hbx hbw hv hbit
   cases bit with
   | false =>
    go_wp2
    go_roundw
    case rel =>
     refine ⟨k + 1, by omega, by go_num, HROW.out.congr fun j hj => ?_, HBX.out⟩
     rw [byt_congr (f := fun i => decide (i < k) && r.getD i false) (g := fun i => decide (i < k + 1) && r.getD i false) fun i _ => ?_]
     show (decide (8 * j + i < k) && r.getD (8 * j + i) false) = (decide (8 * j + i < k + 1) && r.getD (8 * j + i) false)
     by_cases e : 8 * j + i = k
     ·rw [e, HBIT.out]; simp
     ·rw [show decide (8 * j + i < k) = decide (8 * j + i < k + 1) by congr 1; apply propext; omega]
    case measure => simp [intOf]; omega
   | true =>
    obtain ⟨qk, hqk⟩ : ∃ qk, k / 8 = qk := ⟨_, rfl⟩
    obtain ⟨rk, hrk⟩ : ∃ rk, k % 8 = rk := ⟨_, rfl⟩
    have hk8 : rk < 8 := by rw [← hrk]; exact Nat.mod_lt _ (by omega)
    have hdm : k = 8 * qk + rk := by omega
    have d1 : IntKind.i64.wrap ((k : Int).tdiv 8) = (qk : Int) := by rw [IntWalk.i64_quo _ _ (by omega)]; omega
    have d2 : (k : Int).tdiv 8 = (qk : Int) := by rw [Int.tdiv_eq_ediv_of_nonneg (by omega)]; omega
    have d3 : (k : Int) / 8 = (qk : Int) := by omega
    have d9 : IntKind.i64.wrap (qk : Int) = (qk : Int) := IntWalk.i64_in _ (by omega)
    have d10 : IntKind.i64.wrap (rk : Int) = (rk : Int) := IntWalk.i64_in _ (by omega)
    have d4 : (k : Int).tmod 8 = (rk : Int) := by rw [Int.tmod_eq_emod_of_nonneg (by omega)]; omega
    have d5 : (k : Int) % 8 = (rk : Int) := by omega
    obtain ⟨pw, hpw⟩ : ∃ pw, 128 / 2 ^ rk = pw := ⟨_, rfl⟩
    have hpl : pw < 256 := by rw [← hpw]; exact Nat.lt_of_le_of_lt (Nat.div_le_self _ _) (by omega)
    have d6 : (128 : Int) / 2 ^ min rk 8 = (pw : Int) := by
     rw [Nat.min_eq_left (by omega), ← hpw]
     simp
    have d8 : (128 : Int) / 2 ^ rk = (pw : Int) := by rw [← hpw]; simp
    obtain ⟨nv, hnv⟩ : ∃ nv, v ||| pw = nv := ⟨_, rfl⟩
    have d7 : bits .or .u8 (v : Int) (pw : Int) = (nv : Int) := by rw [← hnv]; exact (bits_nat .u8 8 (by decide) wraps_u8 v _ hvl hpl).2
    have HNV : Hid (nv = byt (fun i => decide (i < k + 1) && r.getD i false) qk) := Lib.hid (by
     rw [← hnv, ← hpw, ← HV.out, hqk]
     refine byt_or hk8 ?_ fun i => ?_
     ·rw [← hdm]; simp
     ·show (decide (i < k + 1) && r.getD i false) = ((decide (i < k) && r.getD i false) || (i == 8 * qk + rk))
      rw [← hdm]
      by_cases e : i = k
      ·subst e; rw [HBIT.out]; simp
      ·rw [beq_eq_false_iff_ne.2 e, Bool.or_false, show decide (i < k + 1) = decide (i < k) by congr 1; apply propext; omega])
    rw [hqk] at cg fg hkm
    have HQK := Lib.hid hqk
    clear hqk hrk hpw hnv hdm
    go_wp2_with fail
    (refine wp_region_ext_tail 10 (by kernel_rfl) (by kernel_rfl) ?_; simp only [List.take_succ_cons, List.take_zero, List.drop_succ_cons, List.drop_zero]; (repeat (first | ((with_reducible refine ext_step (fun K hK => ?_)); go_simp; first | (refine hK _ ?_; clear hK K) | (apply Exists.intro; refine ⟨fun _ _ => ?_, hK _ ?_⟩; fail; clear hK K)))); refine wpQuiet_nil ?_; intro E d)
    go_wp2
    go_roundw
    case rel =>
     refine ⟨k + 1, by omega, by go_num, (rowBelow (HROW.out.set qk (.int .u8 (nv : Nat))) (bExtW (Below.refl _ _) (Nat.le_refl _)) (by rw [World.size_setCell]; exact HROW.out.lt)).congr fun j hj => ?_, (HBX.out.set qk _).extB _ _⟩
     by_cases e : j = qk
     ·rw [if_pos e, e, HNV.out]
     ·rw [if_neg e]
      refine congrArg (fun x : Nat => Value.int .u8 (x : Int)) (byt_congr fun i hi => ?_)
      have h8 : 8 * j + i ≠ k := fun h => by have := HQK.out; omega
      show (decide (8 * j + i < k) && r.getD (8 * j + i) false) = (decide (8 * j + i < k + 1) && r.getD (8 * j + i) false)
      rw [show decide (8 * j + i < k) = decide (8 * j + i < k + 1) by congr 1; apply propext; omega]
    case measure => simp [intOf]; omega
  ·obtain rfl : n = k := by omega
   have hPL : (punchL r).length = m := by rw [punchL_len, HL.out, HME.out]
   have HP : Hid (IsB8 wr (some ⟨gb, 0, none⟩) m (punchL r)) := Lib.hid ⟨hPL, fun _ => ⟨gb, 0, rfl, hrow.lt, fun j hj => by
    rw [Nat.zero_add, hrow.cell hj]
    rw [punchL_get (by rw [HL.out, HME.out]; exact hj)]
    refine congrArg (fun x : Nat => some (Value.int .u8 (x : Int))) (byt_congr fun i hi => ?_)
    show (decide (8 * j + i < n) && r.getD (8 * j + i) false) = r.getD (8 * j + i) false
    by_cases e : 8 * j + i < n
    ·rw [decide_eq_true e, Bool.true_and]
    ·have : r.getD (8 * j + i) false = false := by
      rw [List.getD_eq_getElem?_getD, List.getElem?_eq_none (by rw [HL.out]; omega)]; rfl
     rw [this, Bool.and_false]⟩⟩
   have HPLL := Lib.hid hPL
   clear hrow hbx hPL hbw
   go_wp2
   go_ret
   unfold BytesPost
   rw [HPLL.out]
   exact ⟨gb, rfl, HP.out, HBW.out, by rw [HGB.out]; exact Nat.le_refl _⟩
end
section
open Go.RowKit
def u8v (n : Nat) : Value := .int .u8 (n : Int)
theorem IsB8.of_owns {w : World} {base : Nat} {v : Value} {L : List Nat} (h : w.ownsRow base 5 1 v L.length (L.map u8v)) : ∃ a c, v = .slice a L.length c ∧ IsB8 w a L.length L ∧ ∀ b o, a = some ⟨b, o, none⟩ → base ≤ b := by
 rcases h.2 with ⟨e, e0⟩ | ⟨g, cap, cur, e, hb, hg, h1, h2, h3, h4⟩
 ·exact ⟨none, 0, by rw [e, e0], ⟨rfl, fun hn => by omega⟩, fun b o e => by cases e⟩
 ·refine ⟨_, _, e, ⟨rfl, fun _ => ⟨g, 0, rfl, (Array.getElem?_eq_some_iff.1 hg).1, fun j hj => ?_⟩⟩, fun b o e => by cases e; exact hb⟩
  have h5 : cur[j]? = some (u8v (L.getD j 0)) := by
   rw [← Array.getElem?_toList, ← List.getElem?_take_of_lt (show j < L.length * 1 by omega), h4, List.getElem?_map, List.getElem?_eq_getElem hj]
   simp [List.getD, hj]
  simp [World.cell?, hg, h5, u8v]
theorem wpApp8 {W : World} {ops : Array Oper} {rest : List Oper} {o : Oper} {a : Act} {Q : Exit → Act → World → Prop}
  (hgd : o.guard = none) (s x : Operand) (ho : o.op = .call { callee := .builtin .append, args := #[s, x], argTypes := #[78, 78] })
  (base : Nat) (v : Value) (n : Nat) (xs L : List Nat) (b of c : Nat) (hs : a.eval s = v) (hown : W.ownsRow base 5 1 v n (xs.map u8v))
  (hx : a.eval x = .slice (some ⟨b, of, none⟩) L.length c) (hI : ∀ j, j < L.length → W.cell? ⟨b, of + j, none⟩ = some (.int .u8 (L.getD j 0 : Nat)))
  (hn : n + L.length ≤ 1000000000) (hbase : base ≤ W.heap.size)
  (h : ∀ v' w', w'.ownsRow base 5 1 v' (n + L.length) ((xs ++ L).map u8v) → Below base W w' → wpList Tryd.prog ops Q rest (a.put o.dst v') w') : wpList Tryd.prog ops Q (o :: rest) a W := by
 obtain ⟨h2, h3, h4, h5⟩ := okB8
 obtain ⟨i0, hi, hz0, hz1, hz2⟩ := info_parts h3
 refine wpList_append_own _ hgd s x 78 ho base 5 i0 _ 1 1 h2 hi hz0 hz1 hz2 h4 h5 v n (xs.map u8v) hs hown ⟨b, of, none⟩ L.length c (L.map u8v) hx (by simp) ?_ ?_ (by unfold maxLen; omega) (by omega) hbase ?_
 ·intro j u hj
  have hjl : j < L.length := by
   have := (List.getElem?_eq_some_iff.1 hj).1
   simpa using this
  rw [Addr.add_lit, hI j hjl]
  rw [List.getElem?_map, List.getElem?_eq_getElem hjl] at hj
  rw [show L.getD j 0 = L[j] by simp [List.getD, hjl]]
  exact hj
 ·intro u hu
  simp only [List.mem_map] at hu
  obtain ⟨y, _, rfl⟩ := hu
  rfl
 ·intro v' w' hown' hg _
  rw [← List.map_append] at hown'
  exact h v' w' hown' (belowGrown hg hbase fun k hk => (hown.lt k hk).1)
def strOf (L : List Nat) : ByteArray := ⟨(L.map UInt8.ofNat).toArray⟩
theorem conv_str {L : List Nat} (hL : ∀ x ∈ L, x < 256) {w : World} {b o c : Nat} (hI : ∀ j, j < L.length → w.cell? ⟨b, o + j, none⟩ = some (.int .u8 (L.getD j 0 : Nat))) :
  (convert 78 9 (.slice (some ⟨b, o, none⟩) L.length c)).run Tryd.prog w = .ok (.string (strOf L)) w := by
 have h := run_convert_bytes_back (P := Tryd.prog) w 78 9 5 ⟨b, o, none⟩ c (L.map UInt8.ofNat) Tryd.underlying78 Tryd.underlying5 Tryd.underlying9 (fun j hj => by
  have hj' : j < L.length := by simpa using hj
  rw [Addr.add_lit, hI j hj']
  have := hL _ (List.getElem_mem hj')
  simp [List.getD, hj', Nat.mod_eq_of_lt this])
 rw [List.length_map] at h
 exact h
theorem slice_rows {W n c k M : Nat} {a : Option Addr} (hc : n ≤ c) (hM : k * W = M) (hle : M + W ≤ n) : ∀ wx, (Instr.slice 31 (.slice a n c) (some (.int .i64 (M))) (some (.int .i64 ((M : Int) + (W : Int)))) none).run Tryd.prog wx = .ok (rowV a c W k) wx := by
 intro wx
 have h1 := run_slice_lh (P := Tryd.prog) wx 31 a n c (by kernel_rfl) .i64 .i64 (M : Int) ((M : Int) + (W : Int)) (by omega) (by omega) (by omega)
 rw [h1]
 have e1 : ((M : Int)).toNat = M := by omega
 have e2 : (((M : Int) + (W : Int))).toNat = M + W := by omega
 rw [e1, e2]
 have hsz : (sizeOf (Tryd.prog.elem 31)).run Tryd.prog wx = .ok 1 wx := by go_simp
 rw [hsz]
 simp only [Result.andThen, sliced, rowV, hM, Nat.mul_one, show M + W - M = W by omega]
theorem wpApp8G {W : World} {ops : Array Oper} {rest : List Oper} {o : Oper} {a : Act} {Q : Exit → Act → World → Prop}
  (hgd : o.guard = none) (s x : Operand) (ho : o.op = .call { callee := .builtin .append, args := #[s, x], argTypes := #[78, 78] })
  (xs L : List Nat) (b1 b of c : Nat) (hs : a.eval s = .slice (some ⟨b1, 0, none⟩) xs.length xs.length) (hold : ∀ j, j < xs.length → W.cell? ⟨b1, j, none⟩ = some (.int .u8 (xs.getD j 0 : Nat)))
  (hx : a.eval x = .slice (some ⟨b, of, none⟩) L.length c) (hI : ∀ j, j < L.length → W.cell? ⟨b, of + j, none⟩ = some (.int .u8 (L.getD j 0 : Nat))) (hp : 0 < L.length)
  (hn : xs.length + L.length ≤ 1000000000)
  (h : ∀ v' w', w'.ownsRow W.heap.size 5 1 v' (xs.length + L.length) ((xs ++ L).map u8v) → Below W.heap.size W w' → wpList Tryd.prog ops Q rest (a.put o.dst v') w') : wpList Tryd.prog ops Q (o :: rest) a W := by
 obtain ⟨h2, h3, h4, h5⟩ := okB8
 obtain ⟨i0, hi, hz0, hz1, hz2⟩ := info_parts h3
 have cells : ∀ (l : List Nat) (bb oo : Nat), (∀ j, j < l.length → W.cell? ⟨bb, oo + j, none⟩ = some (.int .u8 (l.getD j 0 : Nat))) → ∀ j u, (l.map u8v)[j]? = some u → W.cell? ((⟨bb, oo, none⟩ : Addr).add j) = some u := by
  intro l bb oo hc j u hj
  have hjl : j < l.length := by
   have := (List.getElem?_eq_some_iff.1 hj).1
   simpa using this
  rw [Addr.add_lit, hc j hjl]
  rw [List.getElem?_map, List.getElem?_eq_getElem hjl] at hj
  rw [show l.getD j 0 = l[j] by simp [List.getD, hjl]]
  exact hj
 have hr := run_append_grow (P := Tryd.prog) W 78 o.type 5 i0 _ h2 hi hz0 ⟨b1, 0, none⟩ xs.length xs.length (xs.map u8v) (by simp [hz1]) (cells xs b1 0 (by simpa using hold)) ⟨b, of, none⟩ L.length c (L.map u8v) (by simp [hz1]) (cells L b of hI) (by omega) (by omega) (growslice_fits (by omega) (by rw [hz2]; omega))
 refine wpList_plain hgd fun _ hK => ?_
 unfold Oper.wp execOp
 simp only [ho, resolve, invoke, builtin, Sem.run_bind, Sem.run_pure, Result.andThen_ok, List.map_toArray, List.map_cons, List.map_nil, hs, hx, hr]
 refine hK _ _ (h _ _ ?_ ?_)
 ·have hge := grownCap_ge W (xs.length + L.length) xs.length 5
  have hcm := grownCap_le_maxLen W (xs.length + L.length) xs.length 5 (by unfold maxLen; omega)
  refine ⟨by simp, .inr ⟨W.heap.size, _, _, rfl, Nat.le_refl _, heap_alloc_new W.drew _, hge, hcm, ?_, ?_⟩⟩
  ·simp only [Array.size_append, List.size_toArray, size_zeroCells, List.length_map]
   show xs.length + L.length + (grownCap W (xs.length + L.length) xs.length 5 - (xs.length + L.length)) * 1 = _
   omega
  ·simp only [Array.toList_append, List.append_assoc]
   rw [← List.append_assoc, ← List.map_append, show (xs.length + L.length) * 1 = ((xs ++ L).map u8v).length by simp]
   exact List.take_left
 ·exact (Below.refl _ _).drew.alloc (Nat.le_refl _) _
theorem cell_marked (w : World) (C : Array Value) (e : TypeId) (fz : Nat × Nat) (o : Obj) (j : Nat) : ((w.alloc (.cells C e fz)).alloc o).cell? ⟨w.heap.size, j, none⟩ = C[j]? := by
 have h : ((w.alloc (.cells C e fz)).alloc o).heap[w.heap.size]? = some (.cells C e fz) := by
  show ((w.heap.push _).push _)[w.heap.size]? = _
  simp [Array.getElem?_push]
 unfold World.cell?
 simp only [h]
 rfl
def StrPost (L : List Nat) (e : Int) (w : World) (r : Ending) (w' : World) : Prop := r = .returned (.tuple #[.string (strOf L), .int .i64 (e)]) ∧ Below w.heap.size w w'
set_option maxRecDepth 100000 in
theorem lfCd20 {P : Prop} (h : P := by
 go_wp2_with (at_builtin; refine wpApp8 rfl (.tmp 68) (.tmp 71) rfl base _ l.length l [NT] wx.heap.size 0 1 rfl (ownBelow hownx (Below.alloc (Below.refl _ _) (Nat.le_refl _) (.cells #[.int .u8 (NT : Int)] 5))) rfl (fun j hj => ?_) (by simp; omega) (by simp; omega) ?_)
 ·have hj2 : j = 0 := by simp at hj; exact hj
  subst hj2
  simp
 intro v' w3 hown3 hb3
 have hown3 : w3.ownsRow base 5 1 v' (l.length + 1) ((l ++ [NT]).map u8v) := by rw [List.map_append]; exact hown3
 have hb3 : Below base wx w3 := Below.trans (Below.alloc (Below.refl _ _) (by omega) _) hb3
 obtain ⟨A4, cp4, rfl⟩ := own_form hown3
 have HOW3 := Lib.hid hown3
 have HB3 := Lib.hid (HBX.out.trans hb3)
 have hs3 := HB3.out.size
 clear hown3 hb3 hownx HBX
 go_wp2_with fail
 refine (punched_any A2 W c2 (rowL bs W yy) w3 (HOK.out _ (HT.out.below (by rw [HQE.out]; exact HB2.out.trans (HB3.out.mono (by omega))))).bits hW).mono ?_
 rintro r w4 ⟨g, rfl, hB8, hb4, hg4⟩
 have hs4 := hb4.size
 have hpl : (punchL (rowL bs W yy)).length ≤ 8 := by rw [punchL_len, rowL_len']; omega
 have HOW4 := Lib.hid (ownBelow HOW3.out hb4)
 have HB4 := Lib.hid (HB3.out.trans (hb4.mono (by omega)))
 have HB8 := Lib.hid hB8
 clear hb4 hg4 hB8 HOW3 HB3
 obtain ⟨PL, hPL⟩ : ∃ PL, punchL (rowL bs W yy) = PL := ⟨_, rfl⟩
 rw [hPL] at HB8 hpl ⊢
 have HPL := Lib.hid hPL
 clear hPL
 go_wp2_with (at_builtin; refine wpApp8 rfl (.tmp 72) (.tmp 74) rfl base _ (l.length + 1) (l ++ [NT]) PL g 0 _ rfl HOW4.out rfl (fun j hj => ?_) (by omega) (by omega) ?_)
 ·obtain ⟨b', o', e, _, hc⟩ := HB8.out.2 (by omega)
  cases e
  exact hc j hj
 intro v' w5 hown5 hb5
 obtain ⟨A5, cp5, rfl⟩ := own_form hown5
 have HOW5 := Lib.hid hown5
 have HB5 := Lib.hid (HB4.out.trans hb5)
 clear hown5 hb5 HOW4 HB4
 go_wp2
 go_roundw
 case rel =>
  obtain ⟨f', rfl⟩ : ∃ f', f = f' + 1 := ⟨f - 1, by omega⟩
  refine ⟨yy + NT, f', .slice A5 (l.length + 1 + PL.length) cp5, l ++ [NT] ++ PL, by omega, by go_num, rfl, ?_, HB5.out, by omega, Lib.hid ?_, Lib.hid ?_, ?_⟩
  ·have e1 : (l ++ [NT] ++ PL).length = l.length + 1 + PL.length := by rw [List.length_append, List.length_append, List.length_singleton]
   have e2 : (l ++ [NT] ++ PL).map u8v = l.map u8v ++ u8v NT :: PL.map u8v := by simp
   rw [e1, e2]
   exact HOW5.out
  ·rw [← hdk.out]
   show _ = l ++ (if yy < H then runLen R H yy :: (punchL (R yy) ++ cardsL R H f' (yy + runLen R H yy)) else [])
   rw [if_pos hyn, HNT.out, ← HRE.out, HPL.out]; simp
  ·intro x hx
   rw [List.mem_append, List.mem_append, List.mem_singleton] at hx
   rcases hx with (hx | hx) | hx
   ·exact hlt0.out x hx
   ·omega
   ·rw [← HPL.out] at hx
    unfold punchL at hx
    obtain ⟨y, _, rfl⟩ := List.mem_map.1 hx
    exact byt_lt _ _
  ·rw [List.length_append, List.length_append, List.length_singleton]; omega
 case measure => simp [intOf]; omega) : P := h
set_option maxRecDepth 100000 in
set_option maxHeartbeats 8000000 in
theorem Pack_ok (W H n : Nat) (a : Option Addr) (c : Nat) (bs : List Bool) (w : World) (hT : OkT w a n c bs) (hW : W ≤ 64) (hH : H ≤ 64) (hn : n = W * H) :
  Calls Tryd.prog 56 #[.agg #[.int .i64 (W), .int .i64 (H), .slice a n c]] w (StrPost (deckL W H bs) 0 w) := by
 have hn4 : n ≤ 4096 := by rw [hn]; exact mul64n hW hH
 have hz : wrT W H n = 0 := by rw [hn]; exact wrT_ok hW hH
 have HWR := Lib.hid (fun w => tWrong_any W H a n c w (wfN W hW) (wfN H hH) (by omega))
 rw [hz] at HWR
 have HT := Lib.hid hT; have HN := Lib.hid hn
 have hcap := hT.cap
 have u1 : IntKind.u8.wrap (W : Int) = (W : Int) := IntWalk.u8_in _ (by omega)
 have u2 : IntKind.u8.wrap (H : Int) = (H : Int) := IntWalk.u8_in _ (by omega)
 clear hT hn hz
 go_enter Tryd.func56, Tryd.ntmps56
 go_wp2_with fail
 refine (HWR.out _).mono ?_
 rintro r w1 ⟨rfl, hb⟩
 have hq1 := rowBelow (tF_alloc w W H (.slice a n c) rfl) hb (by simp)
 have hb1 : Below w.heap.size w w1 := blw
 generalize hqe : w.heap.size = q at *
 have HQE := Lib.hid hqe
 clear hqe hb
 have q0 : w1.cell? ⟨q, 0, none⟩ = some (.int .i64 (W)) := hq1.cell (i := 0) (by omega)
 have q1 : w1.cell? ⟨q, 1, none⟩ = some (.int .i64 (H)) := hq1.cell (i := 1) (by omega)
 have q2 : w1.cell? ⟨q, 2, none⟩ = some (.slice a n c) := hq1.cell (i := 2) (by omega)
 have lq : LtW q w1 := hq1.lt
 have HQ1 := Lib.hid hq1; have HB1 := Lib.hid hb1
 clear hq1 hb1
 have hcv := Go.Lib.run_convert_bytes_const (P := Tryd.prog) w1 78 5 #[.int .u8 74, .int .u8 81, .int .u8 49] 3 3 Tryd.underlying78 Tryd.underlying5
 go_wp2_with (at_builtin; refine wpApp8G rfl (.tmp 15) (.tmp 22) rfl [74, 81, 49] [W, H] w1.heap.size (w1.heap.size + 1) 0 2 rfl (fun j hj => ?_) rfl (fun j hj => ?_) (by simp) (by simp) ?_)
 ·have hj2 : j = 0 ∨ j = 1 ∨ j = 2 := by simp at hj; omega
  rw [cell_marked]
  rcases hj2 with rfl | rfl | rfl <;> rfl
 ·have hj2 : j = 0 ∨ j = 1 := by simp at hj; omega
  rcases hj2 with rfl | rfl <;> simp
 intro v' w2 hown2 hb2
 have hb12 : Below w1.heap.size w1 w2 := Below.trans blw (hb2.mono bnd)
 have hs2 := hb2.size
 have hsw : w1.heap.size + 1 + 1 ≤ w2.heap.size := by simpa using hs2
 obtain ⟨base, hbase⟩ : ∃ base, w1.heap.size + 1 + 1 = base := ⟨_, rfl⟩
 have hown3 : w2.ownsRow base 5 1 v' 5 ([74, 81, 49, W, H].map u8v) := by rw [← hbase]; exact hown2
 have hqb : w1.heap.size ≤ base := by omega
 have hbs : base ≤ w2.heap.size := by omega
 have hq2 := rowBelow HQ1.out hb12 lq
 have HB2 : Hid (Below q w w2) := Lib.hid (HB1.out.trans (hb12.mono (Nat.le_of_lt lq)))
 have hql : q < base := Nat.lt_of_lt_of_le lq hqb
 have HQ2 := Lib.hid hq2
 have HOWN := Lib.hid hown3
 obtain ⟨A0, cp0, rfl⟩ := own_form hown3
 clear hown2 hb2 hb12 hs2 hsw hbase hown3 hq2 q0 q1 q2 lq HQ1 HB1 hcv hqb
 have HR : Hid (∀ y, (rowL bs W y).length = W) := Lib.hid (rowL_len' bs W)
 obtain ⟨R, hR⟩ : ∃ R, rowL bs W = R := ⟨_, rfl⟩
 have HDK : Hid ([74, 81, 49, W, H] ++ cardsL R H (H + 1) 0 = deckB W H bs) := Lib.hid (by rw [← hR]; rfl)
 have HRE := Lib.hid hR
 rw [hR] at HR
 clear hR
 go_wp2_with fail
 go_loopw [5, 6] (fun o y wr => ∃ (yy f : Nat) (v : Value) (l : List Nat), yy ≤ H ∧ y = .int .i64 yy ∧ o = v ∧ wr.ownsRow base 5 1 v l.length (l.map u8v) ∧ Below base w2 wr ∧ H < yy + f ∧ Hid (l ++ cardsL R H f yy = deckB W H bs) ∧ Hid (∀ x ∈ l, x < 256) ∧ l.length ≤ 5 + yy * 9) (fun _ y _ => H - (intOf y).toNat)
 case atStart => exact ⟨0, H + 1, _, [74, 81, 49, W, H], Nat.zero_le _, rfl, rfl, HOWN.out, Below.refl _ _, by omega, HDK, Lib.hid (by intro x hx; simp at hx; omega), by simp⟩
 case round =>
  obtain ⟨yy, f, v, l, hy, rfl, rfl, hown, hbel, hf, hdk, hlt0, hll⟩ := hrel
  obtain ⟨A1, cp1, rfl⟩ := own_form hown
  have hqr := rowBelow HQ2.out hbel hql
  have q0 : wr.cell? ⟨q, 0, none⟩ = some (.int .i64 (W)) := hqr.cell (i := 0) (by omega)
  have q1 : wr.cell? ⟨q, 1, none⟩ = some (.int .i64 (H)) := hqr.cell (i := 1) (by omega)
  have q2 : wr.cell? ⟨q, 2, none⟩ = some (.slice a n c) := hqr.cell (i := 2) (by omega)
  have lq : LtW q wr := hqr.lt
  have hsz := hbel.size
  have HO := Lib.hid hown; have HB := Lib.hid hbel
  clear hqr hown hbel
  by_cases hyn : yy < H
  ·obtain ⟨M, hM⟩ : ∃ M, yy * W = M := ⟨_, rfl⟩
   have hM2 : (yy + 1) * W = M + W := by rw [Nat.add_mul, Nat.one_mul, hM]
   have hle : M + W ≤ n := by rw [← hM2, HN.out, Nat.mul_comm]; exact Nat.mul_le_mul_left W (by omega)
   have hmul : (yy : Int) * (W : Int) = (M : Int) := by rw [← Int.natCast_mul, hM]
   have hmul2 : ((yy : Int) + 1) * (W : Int) = (M : Int) + (W : Int) := by rw [Int.add_mul, Int.one_mul, hmul]
   have w1' : IntKind.i64.wrap (M : Int) = (M : Int) := IntWalk.i64_in _ (by omega)
   have w2' : IntKind.i64.wrap ((M : Int) + (W : Int)) = (M : Int) + (W : Int) := IntWalk.i64_in _ (by omega)
   have hsl := slice_rows (a := a) hcap hM hle
   obtain ⟨A2, c2, hrv, hok⟩ := rowV_bools (a := a) (bs := bs) hcap HN.out hyn
   rw [hrv] at hsl
   have HOK := Lib.hid hok
   clear hM hM2 hrv hok
   go_wp2_with fail
   obtain ⟨wo, hwo⟩ : ∃ wo : World, wo = wr := ⟨_, rfl⟩
   subst hwo
   obtain ⟨NT, hNT⟩ : ∃ NT, runLen R H yy = NT := ⟨_, rfl⟩
   have HNT := Lib.hid hNT
   have HHB := Lib.hid hsl
   clear hNT hsl hle hmul hmul2 w1' w2'
   go_loopw [8] (fun i wr => ∃ (nn f2 : Nat) (E : Array Obj) (d : Nat), 1 ≤ nn ∧ yy + nn ≤ H ∧ i = .int .i64 nn ∧ Hid (rlF R H yy f2 nn = NT) ∧ H < yy + nn + f2 ∧ wr = extW wo E d) (fun i _ => H - (intOf i).toNat)
   case atStart => exact ⟨1, H + 1, #[], wo.drawn, by omega, by omega, rfl, HNT, by omega, extW_zero _⟩
   case round =>
    obtain ⟨nn, f2, E, d, g1, g2, rfl, hrl, hf2, rfl⟩ := hrel
    obtain ⟨f3, rfl⟩ : ∃ f3, f2 = f3 + 1 := ⟨f2 - 1, by omega⟩
    have u3 : IntKind.u8.wrap (nn : Int) = (nn : Int) := IntWalk.u8_in _ (by omega)
    have HRL : Hid ((if yy + nn < H ∧ R yy = R (yy + nn) then rlF R H yy f3 (nn + 1) else nn) = NT) := hrl
    by_cases hlt : yy + nn < H
    ·obtain ⟨M2, hM⟩ : ∃ M2, (yy + nn) * W = M2 := ⟨_, rfl⟩
     have hM2 : (yy + nn + 1) * W = M2 + W := by rw [Nat.add_mul, Nat.one_mul, hM]
     have hle : M2 + W ≤ n := by rw [← hM2, HN.out, Nat.mul_comm]; exact Nat.mul_le_mul_left W (by omega)
     have hmul : ((yy : Int) + (nn : Int)) * (W : Int) = (M2 : Int) := by rw [← Int.natCast_add, ← Int.natCast_mul, hM]
     have hmul2 : ((yy : Int) + (nn : Int) + 1) * (W : Int) = (M2 : Int) + (W : Int) := by rw [Int.add_mul, Int.one_mul, hmul]
     have w1' : IntKind.i64.wrap (M2 : Int) = (M2 : Int) := IntWalk.i64_in _ (by omega)
     have w2' : IntKind.i64.wrap ((M2 : Int) + (W : Int)) = (M2 : Int) + (W : Int) := IntWalk.i64_in _ (by omega)
     have hsl := slice_rows (a := a) hcap hM hle
     obtain ⟨A3, c3, hrv, hok3⟩ := rowV_bools (a := a) (bs := bs) hcap HN.out hlt
     rw [hrv] at hsl
     have HOK3 := Lib.hid hok3
     clear hM hM2 hrv hok3
     go_wp2_with fail
     have HEQ : Hid (∀ w, Below wo.heap.size wo w → Calls Tryd.prog 26 #[.slice A2 W c2, .slice A3 W c3] w fun e w' => e = .returned (.bool (decide (R yy = R (yy + nn)))) ∧ Below w.heap.size w w') := Lib.hid fun w hb => by
      rw [← HRE.out]
      have h0 := (HT.out.below (by rw [HQE.out]; exact HB2.out.trans ((HB.out.trans (hb.mono (Nat.le_trans hbs hsz))).mono (by omega))))
      exact Equal_any A2 W c2 (rowL bs W yy) A3 W c3 (rowL bs W (yy + nn)) w (HOK.out _ h0).bits (HOK3.out _ h0).bits (by omega) (by omega)
     refine (HEQ.out _ (bExtW (Below.refl _ _) (Nat.le_refl _))).mono ?_
     rintro r w3 ⟨rfl, hb3⟩
     obtain ⟨E3, d3, rfl⟩ := bExt hb3
     clear hb3
     rw [extW_extW]
     by_cases e : R yy = R (yy + nn)
     ·rw [decide_eq_true e]
      have HR2 := Lib.hid (HRL.out.symm.trans (if_pos ⟨hlt, e⟩))
      clear e
      go_wp2
      go_roundw
      case rel => exact ⟨nn + 1, f3, _, _, by omega, by omega, by go_num, Lib.hid HR2.out.symm, by omega, rfl⟩
      case measure => simp [intOf]; omega
     ·rw [decide_eq_false e]
      have hnt : NT = nn := (HRL.out.symm.trans (if_neg fun h => e h.2))
      subst hnt
      clear e HRL hrl
      go_upto_region 11 with fail
      have hbx : Below wo.heap.size wo (extW wo (E ++ E3) d3) := bExtW (Below.refl _ _) (Nat.le_refl _)
      have hsx := hbx.size
      have hownx := ownBelow HO.out hbx
      have HBX := Lib.hid (HB.out.trans (hbx.mono (Nat.le_trans hbs hsz)))
      clear hbx
      generalize extW wo (E ++ E3) d3 = wx at *
      exact lfCd20
    ·have hnt : NT = nn := (HRL.out.symm.trans (if_neg fun h => hlt h.1))
     subst hnt
     have hd1 : decide ((yy : Int) + (NT : Int) < (H : Int)) = false := by simp; omega
     have hd2 : decide (yy + NT < H) = false := by simp; omega
     clear HRL hrl
     go_upto_region 11 with fail
     have hbx : Below wo.heap.size wo (extW wo E d) := bExtW (Below.refl _ _) (Nat.le_refl _)
     have hsx := hbx.size
     have hownx := ownBelow HO.out hbx
     have HBX := Lib.hid (HB.out.trans (hbx.mono (Nat.le_trans hbs hsz)))
     clear hbx
     generalize extW wo E d = wx at *
     exact lfCd20
  ·obtain rfl : H = yy := by omega
   have hl : l = deckB W H bs := by
    have h1 := hdk.out
    rwa [cards_done (by omega), List.append_nil] at h1
   obtain ⟨a8, c8, e8, hB8, hg8⟩ := IsB8.of_owns HO.out
   injection e8 with e8 _ e9
   subst e8 e9
   have HB8 := Lib.hid hB8
   have hll2 : l.length ≤ 600 := by omega
   have HL := Lib.hid hl
   clear hB8 hg8 hl hdk hll
   go_wp2_with fail
   refine (sum_any A1 l.length cp1 l wr HB8.out (by omega) hlt0.out).mono ?_
   rintro r w6 ⟨rfl, hb6⟩
   have HO6 := Lib.hid (ownBelow HO.out hb6)
   have HB6 := Lib.hid (HB.out.trans (hb6.mono (by omega)))
   have hs6 := hb6.size
   clear hb6 HO HB HB8
   obtain ⟨sm, hsm⟩ : ∃ sm, l.sum % 256 = sm := ⟨_, rfl⟩
   have hsl : sm < 256 := by omega
   obtain ⟨ck, hck⟩ : ∃ ck, chk l = ck := ⟨_, rfl⟩
   have hcl : ck < 256 := by rw [← hck]; exact chk_lt l
   have v1 : IntKind.u8.wrap (-(sm : Int)) = (ck : Int) := by rw [IntKind.wrap_u8, ← hck]; unfold chk; rw [hsm]; omega
   have v2 : (-(sm : Int)) % 256 = (ck : Int) := by rw [← hck]; unfold chk; rw [hsm]; omega
   have HCK := Lib.hid hck
   rw [hsm]
   clear hsm hck
   go_wp2_with (at_builtin; refine wpApp8 rfl (.tmp 79) (.tmp 83) rfl base _ l.length l [ck] w6.heap.size 0 1 rfl (ownBelow HO6.out (Below.alloc (Below.refl _ _) (Nat.le_refl _) (.cells #[.int .u8 (ck : Int)] 5))) rfl (fun j hj => ?_) (by simp; omega) (by simp; omega) ?_)
   ·have hj2 : j = 0 := by simp at hj; exact hj
    subst hj2
    simp
   intro v' w7 hown7 hb7
   have hown7 : w7.ownsRow base 5 1 v' (l ++ [ck]).length ((l ++ [ck]).map u8v) := by rw [List.map_append, List.length_append]; exact hown7
   have hb7 : Below base w6 w7 := Below.trans (Below.alloc (Below.refl _ _) (by omega) _) hb7
   have HB7 := Lib.hid (HB6.out.trans hb7)
   obtain ⟨a9, c9, rfl, hB9, hg9⟩ := IsB8.of_owns hown7
   obtain ⟨b9, o9, rfl, _, hc9⟩ := hB9.2 (by simp)
   have hcv := conv_str (c := c9) (fun x hx => by
    rw [List.mem_append, List.mem_singleton] at hx
    rcases hx with hx | hx
    ·exact hlt0.out x hx
    ·omega) hc9
   have hlen : (l ++ [ck]).length = l.length + 1 := by simp
   rw [hlen] at hcv ⊢
   clear hown7 hb7 hB9 hg9 hc9 HO6 HB6 hlen
   go_wp2
   go_ret2
   refine ⟨?_, by
    have h1 := HB2.out.trans (HB7.out.mono (by omega))
    rw [← HQE.out] at h1
    exact h1⟩
   rw [← HCK.out, HL.out]
   rfl
end
end Go.Proofs.YtajdoobkfbdgoaaDoor
