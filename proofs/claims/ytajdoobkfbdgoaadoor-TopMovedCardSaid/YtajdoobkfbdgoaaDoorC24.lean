/- Lemmas on which the law of this seat rests; each states its own conditions. -/
import Derived.Test.YtajdoobkfbdgoaaDoorC23
import Derived.Test.YtajdoobkfbdgoaaDoorC05
import Derived.Laws.IdiomStrings
import Derived.Lib.SlBytesConst
import Derived.Deep.RegionWith
import Derived.Deep.DeepCutAuto
import Derived.Test.YtajdoobkfbdgoaaDoorC20
import Derived.Test.YtajdoobkfbdgoaaDoorC21
import Derived.Test.YtajdoobkfbdgoaaDoorC22
set_option linter.unusedVariables false
set_option linter.unusedSimpArgs false
namespace Go.Proofs.YtajdoobkfbdgoaaDoor
section
open Go.RowKit
def u8v (n : Nat) : Value := .int .u8 (n : Int)
theorem IsB8.of_owns {w : World} {base : Nat} {v : Value} {L : List Nat} (h : w.ownsRow base 5 1 v L.length (L.map u8v)) : ∃ a c, v = .slice a L.length c ∧ IsB8 w a L.length L ∧ ∀ b o, a = some ⟨b, o, none⟩ → base ≤ b := by
 rcases h.2 with ⟨e, e0⟩ | ⟨g, cap, cur, e, hb, hg, h1, h2, h3, h4⟩
 ·exact ⟨none, 0, by rw [e, e0], ⟨rfl, fun hn => by omega⟩, fun b o e => by cases e⟩
 ·refine ⟨_, _, e, ⟨rfl, fun _ => ⟨g, 0, rfl, (Array.getElem?_eq_some_iff.1 hg).1, fun j hj => ?_⟩⟩, fun b o e => by cases e; exact hb⟩
  have h5 : cur[j]? = some (u8v (L.getD j 0)) := by
   rw [← Array.getElem?_toList, ← List.getElem?_take_of_lt (show j < L.length * 1 by omega), h4, List.getElem?_map, List.getElem?_eq_getElem hj]
   simp [List.getD, hj]
  simp [World.cell?, hg, h5, u8v]
theorem wpApp8 {W : World} {ops : Array Oper} {rest : List Oper} {o : Oper} {a : Act} {Q : Exit → Act → World → Prop}
  (hgd : o.guard = none) (s x : Operand) (ho : o.op = .call { callee := .builtin .append, args := #[s, x], argTypes := #[78, 78] })
  (base : Nat) (v : Value) (n : Nat) (xs L : List Nat) (b of c : Nat) (hs : a.eval s = v) (hown : W.ownsRow base 5 1 v n (xs.map u8v))
  (hx : a.eval x = .slice (some ⟨b, of, none⟩) L.length c) (hI : ∀ j, j < L.length → W.cell? ⟨b, of + j, none⟩ = some (.int .u8 (L.getD j 0 : Nat)))
  (hn : n + L.length ≤ 1000000000) (hbase : base ≤ W.heap.size)
  (h : ∀ v' w', w'.ownsRow base 5 1 v' (n + L.length) ((xs ++ L).map u8v) → Below base W w' → wpList Tryd.prog ops Q rest (a.put o.dst v') w') : wpList Tryd.prog ops Q (o :: rest) a W := by
 obtain ⟨h2, h3, h4, h5⟩ := okB8
 obtain ⟨i0, hi, hz0, hz1, hz2⟩ := info_parts h3
 refine wpList_append_own _ hgd s x 78 ho base 5 i0 _ 1 1 h2 hi hz0 hz1 hz2 h4 h5 v n (xs.map u8v) hs hown ⟨b, of, none⟩ L.length c (L.map u8v) hx (by simp) ?_ ?_ (by unfold maxLen; omega) (by omega) hbase ?_
 ·intro j u hj
  have hjl : j < L.length := by
   have := (List.getElem?_eq_some_iff.1 hj).1
   simpa using this
  rw [Addr.add_lit, hI j hjl]
  rw [List.getElem?_map, List.getElem?_eq_getElem hjl] at hj
  rw [show L.getD j 0 = L[j] by simp [List.getD, hjl]]
  exact hj
 ·intro u hu
  simp only [List.mem_map] at hu
  obtain ⟨y, _, rfl⟩ := hu
  rfl
 ·intro v' w' hown' hg _
  rw [← List.map_append] at hown'
  exact h v' w' hown' (belowGrown hg hbase fun k hk => (hown.lt k hk).1)
def strOf (L : List Nat) : ByteArray := ⟨(L.map UInt8.ofNat).toArray⟩
theorem conv_str {L : List Nat} (hL : ∀ x ∈ L, x < 256) {w : World} {b o c : Nat} (hI : ∀ j, j < L.length → w.cell? ⟨b, o + j, none⟩ = some (.int .u8 (L.getD j 0 : Nat))) :
  (convert 78 9 (.slice (some ⟨b, o, none⟩) L.length c)).run Tryd.prog w = .ok (.string (strOf L)) w := by
 have h := run_convert_bytes_back (P := Tryd.prog) w 78 9 5 ⟨b, o, none⟩ c (L.map UInt8.ofNat) Tryd.underlying78 Tryd.underlying5 Tryd.underlying9 (fun j hj => by
  have hj' : j < L.length := by simpa using hj
  rw [Addr.add_lit, hI j hj']
  have := hL _ (List.getElem_mem hj')
  simp [List.getD, hj', Nat.mod_eq_of_lt this])
 rw [List.length_map] at h
 exact h
theorem slice_rows {W n c k M : Nat} {a : Option Addr} (hc : n ≤ c) (hM : k * W = M) (hle : M + W ≤ n) : ∀ wx, (Instr.slice 31 (.slice a n c) (some (.int .i64 (M))) (some (.int .i64 ((M : Int) + (W : Int)))) none).run Tryd.prog wx = .ok (rowV a c W k) wx := by
 intro wx
 have h1 := run_slice_lh (P := Tryd.prog) wx 31 a n c (by kernel_rfl) .i64 .i64 (M : Int) ((M : Int) + (W : Int)) (by omega) (by omega) (by omega)
 rw [h1]
 have e1 : ((M : Int)).toNat = M := by omega
 have e2 : (((M : Int) + (W : Int))).toNat = M + W := by omega
 rw [e1, e2]
 have hsz : (sizeOf (Tryd.prog.elem 31)).run Tryd.prog wx = .ok 1 wx := by go_simp
 rw [hsz]
 simp only [Result.andThen, sliced, rowV, hM, Nat.mul_one, show M + W - M = W by omega]
theorem wpApp8G {W : World} {ops : Array Oper} {rest : List Oper} {o : Oper} {a : Act} {Q : Exit → Act → World → Prop}
  (hgd : o.guard = none) (s x : Operand) (ho : o.op = .call { callee := .builtin .append, args := #[s, x], argTypes := #[78, 78] })
  (xs L : List Nat) (b1 b of c : Nat) (hs : a.eval s = .slice (some ⟨b1, 0, none⟩) xs.length xs.length) (hold : ∀ j, j < xs.length → W.cell? ⟨b1, j, none⟩ = some (.int .u8 (xs.getD j 0 : Nat)))
  (hx : a.eval x = .slice (some ⟨b, of, none⟩) L.length c) (hI : ∀ j, j < L.length → W.cell? ⟨b, of + j, none⟩ = some (.int .u8 (L.getD j 0 : Nat))) (hp : 0 < L.length)
  (hn : xs.length + L.length ≤ 1000000000)
  (h : ∀ v' w', w'.ownsRow W.heap.size 5 1 v' (xs.length + L.length) ((xs ++ L).map u8v) → Below W.heap.size W w' → wpList Tryd.prog ops Q rest (a.put o.dst v') w') : wpList Tryd.prog ops Q (o :: rest) a W := by
 obtain ⟨h2, h3, h4, h5⟩ := okB8
 obtain ⟨i0, hi, hz0, hz1, hz2⟩ := info_parts h3
 have cells : ∀ (l : List Nat) (bb oo : Nat), (∀ j, j < l.length → W.cell? ⟨bb, oo + j, none⟩ = some (.int .u8 (l.getD j 0 : Nat))) → ∀ j u, (l.map u8v)[j]? = some u → W.cell? ((⟨bb, oo, none⟩ : Addr).add j) = some u := by
  intro l bb oo hc j u hj
  have hjl : j < l.length := by
   have := (List.getElem?_eq_some_iff.1 hj).1
   simpa using this
  rw [Addr.add_lit, hc j hjl]
  rw [List.getElem?_map, List.getElem?_eq_getElem hjl] at hj
  rw [show l.getD j 0 = l[j] by simp [List.getD, hjl]]
  exact hj
 have hr := run_append_grow (P := Tryd.prog) W 78 o.type 5 i0 _ h2 hi hz0 ⟨b1, 0, none⟩ xs.length xs.length (xs.map u8v) (by simp [hz1]) (cells xs b1 0 (by simpa using hold)) ⟨b, of, none⟩ L.length c (L.map u8v) (by simp [hz1]) (cells L b of hI) (by omega) (by omega) (growslice_fits (by omega) (by rw [hz2]; omega))
 refine wpList_plain hgd fun _ hK => ?_
 unfold Oper.wp execOp
 simp only [ho, resolve, invoke, builtin, Sem.run_bind, Sem.run_pure, Result.andThen_ok, List.map_toArray, List.map_cons, List.map_nil, hs, hx, hr]
 refine hK _ _ (h _ _ ?_ ?_)
 ·have hge := grownCap_ge W (xs.length + L.length) xs.length 5
  have hcm := grownCap_le_maxLen W (xs.length + L.length) xs.length 5 (by unfold maxLen; omega)
  refine ⟨by simp, .inr ⟨W.heap.size, _, _, rfl, Nat.le_refl _, heap_alloc_new W.drew _, hge, hcm, ?_, ?_⟩⟩
  ·simp only [Array.size_append, List.size_toArray, size_zeroCells, List.length_map]
   show xs.length + L.length + (grownCap W (xs.length + L.length) xs.length 5 - (xs.length + L.length)) * 1 = _
   omega
  ·simp only [Array.toList_append, List.append_assoc]
   rw [← List.append_assoc, ← List.map_append, show (xs.length + L.length) * 1 = ((xs ++ L).map u8v).length by simp]
   exact List.take_left
 ·exact (Below.refl _ _).drew.alloc (Nat.le_refl _) _
theorem cell_marked (w : World) (C : Array Value) (e : TypeId) (fz : Nat × Nat) (o : Obj) (j : Nat) : ((w.alloc (.cells C e fz)).alloc o).cell? ⟨w.heap.size, j, none⟩ = C[j]? := by
 have h : ((w.alloc (.cells C e fz)).alloc o).heap[w.heap.size]? = some (.cells C e fz) := by
  show ((w.heap.push _).push _)[w.heap.size]? = _
  simp [Array.getElem?_push]
 unfold World.cell?
 simp only [h]
 rfl
def StrPost (L : List Nat) (e : Int) (w : World) (r : Ending) (w' : World) : Prop := r = .returned (.tuple #[.string (strOf L), .int .i64 (e)]) ∧ Below w.heap.size w w'
set_option maxRecDepth 100000 in
theorem lfCd20 {P : Prop} (h : P := by
 go_wp2_with (at_builtin; refine wpApp8 rfl (.tmp 68) (.tmp 71) rfl base _ l.length l [NT] wx.heap.size 0 1 rfl (ownBelow hownx (Below.alloc (Below.refl _ _) (Nat.le_refl _) (.cells #[.int .u8 (NT : Int)] 5))) rfl (fun j hj => ?_) (by simp; omega) (by simp; omega) ?_)
 ·have hj2 : j = 0 := by simp at hj; exact hj
  subst hj2
  simp
 intro v' w3 hown3 hb3
 have hown3 : w3.ownsRow base 5 1 v' (l.length + 1) ((l ++ [NT]).map u8v) := by rw [List.map_append]; exact hown3
 have hb3 : Below base wx w3 := Below.trans (Below.alloc (Below.refl _ _) (by omega) _) hb3
 obtain ⟨A4, cp4, rfl⟩ := own_form hown3
 have HOW3 := Lib.hid hown3
 have HB3 := Lib.hid (HBX.out.trans hb3)
 have hs3 := HB3.out.size
 clear hown3 hb3 hownx HBX
 go_wp2_with fail
 refine (punched_any A2 W c2 (rowL bs W yy) w3 (HOK.out _ (HT.out.below (by rw [HQE.out]; exact HB2.out.trans (HB3.out.mono (by omega))))).bits hW).mono ?_
 rintro r w4 ⟨g, rfl, hB8, hb4, hg4⟩
 have hs4 := hb4.size
 have hpl : (punchL (rowL bs W yy)).length ≤ 8 := by rw [punchL_len, rowL_len']; omega
 have HOW4 := Lib.hid (ownBelow HOW3.out hb4)
 have HB4 := Lib.hid (HB3.out.trans (hb4.mono (by omega)))
 have HB8 := Lib.hid hB8
 clear hb4 hg4 hB8 HOW3 HB3
 obtain ⟨PL, hPL⟩ : ∃ PL, punchL (rowL bs W yy) = PL := ⟨_, rfl⟩
 rw [hPL] at HB8 hpl ⊢
 have HPL := Lib.hid hPL
 clear hPL
 go_wp2_with (at_builtin; refine wpApp8 rfl (.tmp 72) (.tmp 74) rfl base _ (l.length + 1) (l ++ [NT]) PL g 0 _ rfl HOW4.out rfl (fun j hj => ?_) (by omega) (by omega) ?_)
 ·obtain ⟨b', o', e, _, hc⟩ := HB8.out.2 (by omega)
  cases e
  exact hc j hj
 intro v' w5 hown5 hb5
 obtain ⟨A5, cp5, rfl⟩ := own_form hown5
 have HOW5 := Lib.hid hown5
 have HB5 := Lib.hid (HB4.out.trans hb5)
 clear hown5 hb5 HOW4 HB4
 go_wp2
 go_roundw
 case rel =>
  obtain ⟨f', rfl⟩ : ∃ f', f = f' + 1 := ⟨f - 1, by omega⟩
  refine ⟨yy + NT, f', .slice A5 (l.length + 1 + PL.length) cp5, l ++ [NT] ++ PL, by omega, by go_num, rfl, ?_, HB5.out, by omega, Lib.hid ?_, Lib.hid ?_, ?_⟩
  ·have e1 : (l ++ [NT] ++ PL).length = l.length + 1 + PL.length := by rw [List.length_append, List.length_append, List.length_singleton]
   have e2 : (l ++ [NT] ++ PL).map u8v = l.map u8v ++ u8v NT :: PL.map u8v := by simp
   rw [e1, e2]
   exact HOW5.out
  ·rw [← hdk.out]
   show _ = l ++ (if yy < H then runLen R H yy :: (punchL (R yy) ++ cardsL R H f' (yy + runLen R H yy)) else [])
   rw [if_pos hyn, HNT.out, ← HRE.out, HPL.out]; simp
  ·intro x hx
   rw [List.mem_append, List.mem_append, List.mem_singleton] at hx
   rcases hx with (hx | hx) | hx
   ·exact hlt0.out x hx
   ·omega
   ·rw [← HPL.out] at hx
    unfold punchL at hx
    obtain ⟨y, _, rfl⟩ := List.mem_map.1 hx
    exact byt_lt _ _
  ·rw [List.length_append, List.length_append, List.length_singleton]; omega
 case measure => simp [intOf]; omega) : P := h
set_option maxRecDepth 100000 in
set_option maxHeartbeats 8000000 in
theorem Pack_ok (W H n : Nat) (a : Option Addr) (c : Nat) (bs : List Bool) (w : World) (hT : OkT w a n c bs) (hW : W ≤ 64) (hH : H ≤ 64) (hn : n = W * H) :
  Calls Tryd.prog 56 #[.agg #[.int .i64 (W), .int .i64 (H), .slice a n c]] w (StrPost (deckL W H bs) 0 w) := by
 have hn4 : n ≤ 4096 := by rw [hn]; exact mul64n hW hH
 have hz : wrT W H n = 0 := by rw [hn]; exact wrT_ok hW hH
 have HWR := Lib.hid (fun w => tWrong_any W H a n c w (wfN W hW) (wfN H hH) (by omega))
 rw [hz] at HWR
 have HT := Lib.hid hT; have HN := Lib.hid hn
 have hcap := hT.cap
 have u1 : IntKind.u8.wrap (W : Int) = (W : Int) := IntWalk.u8_in _ (by omega)
 have u2 : IntKind.u8.wrap (H : Int) = (H : Int) := IntWalk.u8_in _ (by omega)
 clear hT hn hz
 go_enter Tryd.func56, Tryd.ntmps56
 go_wp2_with fail
 refine (HWR.out _).mono ?_
 rintro r w1 ⟨rfl, hb⟩
 have hq1 := rowBelow (tF_alloc w W H (.slice a n c) rfl) hb (by simp)
 have hb1 : Below w.heap.size w w1 := blw
 generalize hqe : w.heap.size = q at *
 have HQE := Lib.hid hqe
 clear hqe hb
 have q0 : w1.cell? ⟨q, 0, none⟩ = some (.int .i64 (W)) := hq1.cell (i := 0) (by omega)
 have q1 : w1.cell? ⟨q, 1, none⟩ = some (.int .i64 (H)) := hq1.cell (i := 1) (by omega)
 have q2 : w1.cell? ⟨q, 2, none⟩ = some (.slice a n c) := hq1.cell (i := 2) (by omega)
 have lq : LtW q w1 := hq1.lt
 have HQ1 := Lib.hid hq1; have HB1 := Lib.hid hb1
 clear hq1 hb1
 have hcv := Go.Lib.run_convert_bytes_const (P := Tryd.prog) w1 78 5 #[.int .u8 74, .int .u8 81, .int .u8 49] 3 3 Tryd.underlying78 Tryd.underlying5
 go_wp2_with (at_builtin; refine wpApp8G rfl (.tmp 15) (.tmp 22) rfl [74, 81, 49] [W, H] w1.heap.size (w1.heap.size + 1) 0 2 rfl (fun j hj => ?_) rfl (fun j hj => ?_) (by simp) (by simp) ?_)
 ·have hj2 : j = 0 ∨ j = 1 ∨ j = 2 := by simp at hj; omega
  rw [cell_marked]
  rcases hj2 with rfl | rfl | rfl <;> rfl
 ·have hj2 : j = 0 ∨ j = 1 := by simp at hj; omega
  rcases hj2 with rfl | rfl <;> simp
 intro v' w2 hown2 hb2
 have hb12 : Below w1.heap.size w1 w2 := Below.trans blw (hb2.mono bnd)
 have hs2 := hb2.size
 have hsw : w1.heap.size + 1 + 1 ≤ w2.heap.size := by simpa using hs2
 obtain ⟨base, hbase⟩ : ∃ base, w1.heap.size + 1 + 1 = base := ⟨_, rfl⟩
 have hown3 : w2.ownsRow base 5 1 v' 5 ([74, 81, 49, W, H].map u8v) := by rw [← hbase]; exact hown2
 have hqb : w1.heap.size ≤ base := by omega
 have hbs : base ≤ w2.heap.size := by omega
 have hq2 := rowBelow HQ1.out hb12 lq
 have HB2 : Hid (Below q w w2) := Lib.hid (HB1.out.trans (hb12.mono (Nat.le_of_lt lq)))
 have hql : q < base := Nat.lt_of_lt_of_le lq hqb
 have HQ2 := Lib.hid hq2
 have HOWN := Lib.hid hown3
 obtain ⟨A0, cp0, rfl⟩ := own_form hown3
 clear hown2 hb2 hb12 hs2 hsw hbase hown3 hq2 q0 q1 q2 lq HQ1 HB1 hcv hqb
 have HR : Hid (∀ y, (rowL bs W y).length = W) := Lib.hid (rowL_len' bs W)
 obtain ⟨R, hR⟩ : ∃ R, rowL bs W = R := ⟨_, rfl⟩
 have HDK : Hid ([74, 81, 49, W, H] ++ cardsL R H (H + 1) 0 = deckB W H bs) := Lib.hid (by rw [← hR]; rfl)
 have HRE := Lib.hid hR
 rw [hR] at HR
 clear hR
 go_wp2_with fail
 go_loopw [5, 6] (fun o y wr => ∃ (yy f : Nat) (v : Value) (l : List Nat), yy ≤ H ∧ y = .int .i64 yy ∧ o = v ∧ wr.ownsRow base 5 1 v l.length (l.map u8v) ∧ Below base w2 wr ∧ H < yy + f ∧ Hid (l ++ cardsL R H f yy = deckB W H bs) ∧ Hid (∀ x ∈ l, x < 256) ∧ l.length ≤ 5 + yy * 9) (fun _ y _ => H - (intOf y).toNat)
 case atStart => exact ⟨0, H + 1, _, [74, 81, 49, W, H], Nat.zero_le _, rfl, rfl, HOWN.out, Below.refl _ _, by omega, HDK, Lib.hid (by intro x hx; simp at hx; omega), by simp⟩
 case round =>
  obtain ⟨yy, f, v, l, hy, rfl, rfl, hown, hbel, hf, hdk, hlt0, hll⟩ := hrel
  obtain ⟨A1, cp1, rfl⟩ := own_form hown
  have hqr := rowBelow HQ2.out hbel hql
  have q0 : wr.cell? ⟨q, 0, none⟩ = some (.int .i64 (W)) := hqr.cell (i := 0) (by omega)
  have q1 : wr.cell? ⟨q, 1, none⟩ = some (.int .i64 (H)) := hqr.cell (i := 1) (by omega)
  have q2 : wr.cell? ⟨q, 2, none⟩ = some (.slice a n c) := hqr.cell (i := 2) (by omega)
  have lq : LtW q wr := hqr.lt
  have hsz := hbel.size
  have HO := Lib.hid hown; have HB := Lib.hid hbel
  clear hqr hown hbel
  by_cases hyn : yy < H
  ·obtain ⟨M, hM⟩ : ∃ M, yy * W = M := ⟨_, rfl⟩
   have hM2 : (yy + 1) * W = M + W := by rw [Nat.add_mul, Nat.one_mul, hM]
   have hle : M + W ≤ n := by rw [← hM2, HN.out, Nat.mul_comm]; exact Nat.mul_le_mul_left W (by omega)
   have hmul : (yy : Int) * (W : Int) = (M : Int) := by rw [← Int.natCast_mul, hM]
   have hmul2 : ((yy : Int) + 1) * (W : Int) = (M : Int) + (W : Int) := by rw [Int.add_mul, Int.one_mul, hmul]
   have w1' : IntKind.i64.wrap (M : Int) = (M : Int) := IntWalk.i64_in _ (by omega)
   have w2' : IntKind.i64.wrap ((M : Int) + (W : Int)) = (M : Int) + (W : Int) := IntWalk.i64_in _ (by omega)
   have hsl := slice_rows (a := a) hcap hM hle
   obtain ⟨A2, c2, hrv, hok⟩ := rowV_bools (a := a) (bs := bs) hcap HN.out hyn
   rw [hrv] at hsl
   have HOK := Lib.hid hok
   clear hM hM2 hrv hok
   go_wp2_with fail
   obtain ⟨wo, hwo⟩ : ∃ wo : World, wo = wr := ⟨_, rfl⟩
   subst hwo
   obtain ⟨NT, hNT⟩ : ∃ NT, runLen R H yy = NT := ⟨_, rfl⟩
   have HNT := Lib.hid hNT
   have HHB := Lib.hid hsl
   clear hNT hsl hle hmul hmul2 w1' w2'
   go_loopw [8] (fun i wr => ∃ (nn f2 : Nat) (E : Array Obj) (d : Nat), 1 ≤ nn ∧ yy + nn ≤ H ∧ i = .int .i64 nn ∧ Hid (rlF R H yy f2 nn = NT) ∧ H < yy + nn + f2 ∧ wr = extW wo E d) (fun i _ => H - (intOf i).toNat)
   case atStart => exact ⟨1, H + 1, #[], wo.drawn, by omega, by omega, rfl, HNT, by omega, extW_zero _⟩
   case round =>
    obtain ⟨nn, f2, E, d, g1, g2, rfl, hrl, hf2, rfl⟩ := hrel
    obtain ⟨f3, rfl⟩ : ∃ f3, f2 = f3 + 1 := ⟨f2 - 1, by omega⟩
    have u3 : IntKind.u8.wrap (nn : Int) = (nn : Int) := IntWalk.u8_in _ (by omega)
    have HRL : Hid ((if yy + nn < H ∧ R yy = R (yy + nn) then rlF R H yy f3 (nn + 1) else nn) = NT) := hrl
    by_cases hlt : yy + nn < H
    ·obtain ⟨M2, hM⟩ : ∃ M2, (yy + nn) * W = M2 := ⟨_, rfl⟩
     have hM2 : (yy + nn + 1) * W = M2 + W := by rw [Nat.add_mul, Nat.one_mul, hM]
     have hle : M2 + W ≤ n := by rw [← hM2, HN.out, Nat.mul_comm]; exact Nat.mul_le_mul_left W (by omega)
     have hmul : ((yy : Int) + (nn : Int)) * (W : Int) = (M2 : Int) := by rw [← Int.natCast_add, ← Int.natCast_mul, hM]
     have hmul2 : ((yy : Int) + (nn : Int) + 1) * (W : Int) = (M2 : Int) + (W : Int) := by rw [Int.add_mul, Int.one_mul, hmul]
     have w1' : IntKind.i64.wrap (M2 : Int) = (M2 : Int) := IntWalk.i64_in _ (by omega)
     have w2' : IntKind.i64.wrap ((M2 : Int) + (W : Int)) = (M2 : Int) + (W : Int) := IntWalk.i64_in _ (by omega)
     have hsl := slice_rows (a := a) hcap hM hle
     obtain ⟨A3, c3, hrv, hok3⟩ := rowV_bools (a := a) (bs := bs) hcap HN.out hlt
     rw [hrv] at hsl
     have HOK3 := Lib.hid hok3
     clear hM hM2 hrv hok3
     go_wp2_with fail
     have HEQ : Hid (∀ w, Below wo.heap.size wo w → Calls Tryd.prog 26 #[.slice A2 W c2, .slice A3 W c3] w fun e w' => e = .returned (.bool (decide (R yy = R (yy + nn)))) ∧ Below w.heap.size w w') := Lib.hid fun w hb => by
      rw [← HRE.out]
      have h0 := (HT.out.below (by rw [HQE.out]; exact HB2.out.trans ((HB.out.trans (hb.mono (Nat.le_trans hbs hsz))).mono (by omega))))
      exact Equal_any A2 W c2 (rowL bs W yy) A3 W c3 (rowL bs W (yy + nn)) w (HOK.out _ h0).bits (HOK3.out _ h0).bits (by omega) (by omega)
     refine (HEQ.out _ (bExtW (Below.refl _ _) (Nat.le_refl _))).mono ?_
     rintro r w3 ⟨rfl, hb3⟩
     obtain ⟨E3, d3, rfl⟩ := bExt hb3
     clear hb3
     rw [extW_extW]
     by_cases e : R yy = R (yy + nn)
     ·rw [decide_eq_true e]
      have HR2 := Lib.hid (HRL.out.symm.trans (if_pos ⟨hlt, e⟩))
      clear e
      go_wp2
      go_roundw
      case rel => exact ⟨nn + 1, f3, _, _, by omega, by omega, by go_num, Lib.hid HR2.out.symm, by omega, rfl⟩
      case measure => simp [intOf]; omega
     ·rw [decide_eq_false e]
      have hnt : NT = nn := (HRL.out.symm.trans (if_neg fun h => e h.2))
      subst hnt
      clear e HRL hrl
      go_upto_region 11 with fail
      have hbx : Below wo.heap.size wo (extW wo (E ++ E3) d3) := bExtW (Below.refl _ _) (Nat.le_refl _)
      have hsx := hbx.size
      have hownx := ownBelow HO.out hbx
      have HBX := Lib.hid (HB.out.trans (hbx.mono (Nat.le_trans hbs hsz)))
      clear hbx
      generalize extW wo (E ++ E3) d3 = wx at *
      exact lfCd20
    ·have hnt : NT = nn := (HRL.out.symm.trans (if_neg fun h => hlt h.1))
     subst hnt
     have hd1 : decide ((yy : Int) + (NT : Int) < (H : Int)) = false := by simp; omega
     have hd2 : decide (yy + NT < H) = false := by simp; omega
     clear HRL hrl
     go_upto_region 11 with fail
     have hbx : Below wo.heap.size wo (extW wo E d) := bExtW (Below.refl _ _) (Nat.le_refl _)
     have hsx := hbx.size
     have hownx := ownBelow HO.out hbx
     have HBX := Lib.hid (HB.out.trans (hbx.mono (Nat.le_trans hbs hsz)))
     clear hbx
     generalize extW wo E d = wx at *
     exact lfCd20
  ·obtain rfl : H = yy := by omega
   have hl : l = deckB W H bs := by
    have h1 := hdk.out
    rwa [cards_done (by omega), List.append_nil] at h1
   obtain ⟨a8, c8, e8, hB8, hg8⟩ := IsB8.of_owns HO.out
   injection e8 with e8 _ e9
   subst e8 e9
   have HB8 := Lib.hid hB8
   have hll2 : l.length ≤ 600 := by omega
   have HL := Lib.hid hl
   clear hB8 hg8 hl hdk hll
   go_wp2_with fail
   refine (sum_any A1 l.length cp1 l wr HB8.out (by omega) hlt0.out).mono ?_
   rintro r w6 ⟨rfl, hb6⟩
   have HO6 := Lib.hid (ownBelow HO.out hb6)
   have HB6 := Lib.hid (HB.out.trans (hb6.mono (by omega)))
   have hs6 := hb6.size
   clear hb6 HO HB HB8
   obtain ⟨sm, hsm⟩ : ∃ sm, l.sum % 256 = sm := ⟨_, rfl⟩
   have hsl : sm < 256 := by omega
   obtain ⟨ck, hck⟩ : ∃ ck, chk l = ck := ⟨_, rfl⟩
   have hcl : ck < 256 := by rw [← hck]; exact chk_lt l
   have v1 : IntKind.u8.wrap (-(sm : Int)) = (ck : Int) := by rw [IntKind.wrap_u8, ← hck]; unfold chk; rw [hsm]; omega
   have v2 : (-(sm : Int)) % 256 = (ck : Int) := by rw [← hck]; unfold chk; rw [hsm]; omega
   have HCK := Lib.hid hck
   rw [hsm]
   clear hsm hck
   go_wp2_with (at_builtin; refine wpApp8 rfl (.tmp 79) (.tmp 83) rfl base _ l.length l [ck] w6.heap.size 0 1 rfl (ownBelow HO6.out (Below.alloc (Below.refl _ _) (Nat.le_refl _) (.cells #[.int .u8 (ck : Int)] 5))) rfl (fun j hj => ?_) (by simp; omega) (by simp; omega) ?_)
   ·have hj2 : j = 0 := by simp at hj; exact hj
    subst hj2
    simp
   intro v' w7 hown7 hb7
   have hown7 : w7.ownsRow base 5 1 v' (l ++ [ck]).length ((l ++ [ck]).map u8v) := by rw [List.map_append, List.length_append]; exact hown7
   have hb7 : Below base w6 w7 := Below.trans (Below.alloc (Below.refl _ _) (by omega) _) hb7
   have HB7 := Lib.hid (HB6.out.trans hb7)
   obtain ⟨a9, c9, rfl, hB9, hg9⟩ := IsB8.of_owns hown7
   obtain ⟨b9, o9, rfl, _, hc9⟩ := hB9.2 (by simp)
   have hcv := conv_str (c := c9) (fun x hx => by
    rw [List.mem_append, List.mem_singleton] at hx
    rcases hx with hx | hx
    ·exact hlt0.out x hx
    ·omega) hc9
   have hlen : (l ++ [ck]).length = l.length + 1 := by simp
   rw [hlen] at hcv ⊢
   clear hown7 hb7 hB9 hg9 hc9 HO6 HB6 hlen
   go_wp2
   go_ret2
   refine ⟨?_, by
    have h1 := HB2.out.trans (HB7.out.mono (by omega))
    rw [← HQE.out] at h1
    exact h1⟩
   rw [← HCK.out, HL.out]
   rfl
end
section
open Go.RowKit
open Cl Lo
def mF (k p t1 tw th tb t2 hg lf dn al cd : Value) : Nat → Value := fun i => ([k, p, t1, tw, th, tb, t2, hg, lf, dn, al, cd] : List Value).getD i (.int .i64 0)
structure MD (ob mb base : Nat) (f : Nat → Value) (W H : Int) (a : Option Addr) (n c : Nat) (bs : List Bool) (W0 w : World) : Prop where
 row : w.rowIs ob 37 12 f
 mrow : w.rowIs mb 33 3 (tF W H (.slice a n c))
 tr : OkT w a n c bs
 bel : BelowX base ob W0 w
 ne : mb ≠ ob
 off : ∀ b o, a = some ⟨b, o, none⟩ → b ≠ ob
section
variable {ob mb base : Nat} {f : Nat → Value} {W H : Int} {a : Option Addr} {n c : Nat} {bs : List Bool} {W0 w w' : World}
theorem MD.call (h : MD ob mb base f W H a n c bs W0 w) (hb : Below w.heap.size w w') : MD ob mb base f W H a n c bs W0 w' :=
 ⟨rowBelow h.row hb h.row.lt, rowBelow h.mrow hb h.mrow.lt, h.tr.below hb, ⟨hb.os.trans h.bel.os, hb.tape.trans h.bel.tape, hb.output.trans h.bel.output, Nat.le_trans h.bel.size hb.size, fun k hk hkm => (hb.block k (Nat.lt_of_lt_of_le hk h.bel.size)).trans (h.bel.block k hk hkm)⟩, h.ne, h.off⟩
theorem MD.set (h : MD ob mb base f W H a n c bs W0 w) (i : Nat) (v : Value) {f' : Nat → Value} (hf : ∀ j, j < 12 → (if j = i then v else f j) = f' j) : MD ob mb base f' W H a n c bs W0 (w.setCell ⟨ob, i, none⟩ v) := by
 refine ⟨(h.row.set i v).congr fun j hj => hf j hj, ?_, ?_, h.bel.set i v, h.ne, h.off⟩
 ·exact h.mrow.of_block (Below.heap_setCell _ _ _ mb (fun e => h.ne e))
 ·have BX := (BelowX.refl (base := w.heap.size) (mb := ob) (W := w) (Nat.le_refl _)).set i v
  exact BX.okT h.tr rfl h.off
end
structure LV (B : Nat) (w : World) (A : Option Addr) (n : Nat) (L : List Int) : Prop where
 ints : IsInts w A n L
 off : ∀ b o, A = some ⟨b, o, none⟩ → B ≤ b
theorem LV.call {B : Nat} {w w' : World} {A : Option Addr} {n : Nat} {L : List Int} (h : LV B w A n L) (hb : Below w.heap.size w w') : LV B w' A n L := ⟨h.ints.below hb, h.off⟩
theorem LV.set {B : Nat} {w : World} {A : Option Addr} {n : Nat} {L : List Int} (h : LV B w A n L) {ob : Nat} (hob : ob < B) (i : Nat) (v : Value) : LV B (w.setCell ⟨ob, i, none⟩ v) A n L :=
 ⟨h.ints.setOther (p := ⟨ob, i, none⟩) (fun b o e => by have := h.off b o e; show b ≠ ob; omega) v, h.off⟩
structure OV (B : Nat) (w : World) (A : Option Addr) (n c : Nat) (L : List Bool) : Prop where
 okt : OkT w A n c L
 off : ∀ b o, A = some ⟨b, o, none⟩ → B ≤ b
theorem OV.call {B : Nat} {w w' : World} {A : Option Addr} {n c : Nat} {L : List Bool} (h : OV B w A n c L) (hb : Below w.heap.size w w') : OV B w' A n c L := ⟨h.okt.below hb, h.off⟩
theorem OV.set {B : Nat} {w : World} {A : Option Addr} {n c : Nat} {L : List Bool} (h : OV B w A n c L) {ob : Nat} (hob : ob < B) (i : Nat) (v : Value) : OV B (w.setCell ⟨ob, i, none⟩ v) A n c L := by
 refine ⟨?_, h.off⟩
 have BX := (BelowX.refl (base := w.heap.size) (mb := ob) (W := w) (Nat.le_refl _)).set i v
 exact BX.okT h.okt rfl (fun b o e => by have := h.off b o e; omega)
theorem MD.set' {ob mb base : Nat} {f : Nat → Value} {W H : Int} {a : Option Addr} {n c : Nat} {bs : List Bool} {W0 w : World} (h : MD ob mb base f W H a n c bs W0 w) (i : Nat) (v : Value) : MD ob mb base (fun j => if j = i then v else f j) W H a n c bs W0 (w.setCell ⟨ob, i, none⟩ v) := h.set i v fun _ _ => rfl
theorem MD.congr {ob mb base : Nat} {f f' : Nat → Value} {W H : Int} {a : Option Addr} {n c : Nat} {bs : List Bool} {W0 w : World} (h : MD ob mb base f W H a n c bs W0 w) (hf : ∀ j, j < 12 → f j = f' j) : MD ob mb base f' W H a n c bs W0 w := ⟨h.row.congr hf, h.mrow, h.tr, h.bel, h.ne, h.off⟩
theorem belowXof {B ob : Nat} {w w' : World} (h : Below B w w') (hB : B ≤ w.heap.size := by omega) : BelowX B ob w w' := ⟨h.os, h.tape, h.output, Nat.le_trans hB h.size, fun j hj _ => h.block j hj⟩
def WvPost (ob : Nat) (k p : Value) (W H e q : Nat) (l1 l2 : List Int) (l5 : List Bool) (l6 : List Nat) (dn al : Int) (cd : ByteArray) (B : Nat) (w w' : World) : Prop :=
 ∃ A1 c1 A2 c2 A5 c5 A6 c6, w'.rowIs ob 37 12 (mF k p (.slice A1 W c1) (.int .i64 (e)) (.int .i64 (q)) (.slice A5 (e * q) c5) (.slice A2 H c2) (.bool (((l6.length : Nat) : Int) == 0)) (.slice A6 l6.length c6) (.int .i64 (dn)) (.int .i64 (al)) (.string cd)) ∧
  LV B w' A1 W l1 ∧ LV B w' A2 H l2 ∧ OV B w' A5 (e * q) c5 l5 ∧ LV B w' A6 l6.length (natI l6) ∧ BelowX w.heap.size ob w w'
set_option maxRecDepth 100000 in
set_option maxHeartbeats 8000000 in
theorem weave_ok (W H n : Nat) (a : Option Addr) (c : Nat) (bs : List Bool) (ob : Nat) (k p : Value) (w : World) (hT : OkT w a n c bs) (hW : W ≤ 64) (hH : H ≤ 64) (hW0 : 0 < W) (hH0 : 0 < H) (hn : n = W * H)
  (hR : w.rowIs ob 37 12 (mF k p (.slice none 0 0) (.int .i64 (0)) (.int .i64 (0)) (.slice none 0 0) (.slice none 0 0) (.bool false) (.slice none 0 0) (.int .i64 (0)) (.int .i64 (0)) (.string ⟨#[]⟩))) (hoff : ∀ b o, a = some ⟨b, o, none⟩ → b ≠ ob) :
  Calls Tryd.prog 22 #[.agg #[.int .i64 (W), .int .i64 (H), .slice a n c], .pointer (some ⟨ob, 0, none⟩)] w fun r w' => r = .returned (.int .i64 (0)) ∧ WvPost ob k p W H (ends W H bs).length (picks W H bs).length (natI (thL W H bs)) (natI (trL W H bs)) (tieL W H bs) (lift (W+H) (abM W H bs)) (longV true H W (turnL W H bs)) (longV false W H bs) (strOf (deckL W H bs)) w.heap.size w w' := by
 have hp : 0 < n := by rw [hn]; exact Nat.mul_pos hW0 hH0
 have hwc : wrC W H n = 0 := by unfold wrC; rw [hn, wrT_ok hW hH]; simp; omega
 have hlt := hR.lt
 have HF := Lib.hid (fun w h => dFew_ok W H n a c bs w h hW hH hn hp)
 have HL := Lib.hid (fun w (h : OkT w a n c bs) => Lift_ok W H a n c bs w h.bits hW hH hn hwc)
 have HO := Lib.hid (fun w h => Floats_ok W H n hn a c bs w h hW hH hW0 hH0)
 have HP := Lib.hid (fun w h => Pack_ok W H n a c bs w h hW hH hn)
 have HM0 : Hid (MD ob w.heap.size w.heap.size (mF k p (.slice none 0 0) (.int .i64 (0)) (.int .i64 (0)) (.slice none 0 0) (.slice none 0 0) (.bool false) (.slice none 0 0) (.int .i64 (0)) (.int .i64 (0)) (.string ⟨#[]⟩)) W H a n c bs w (w.alloc (.cells #[.int .i64 W, .int .i64 H, .slice a n c] 33))) := Lib.hid
  ⟨rowBelow hR ((Below.refl _ _).alloc (Nat.le_refl _) _) hlt, tF_alloc w W H (.slice a n c) rfl, hT.below ((Below.refl _ _).alloc (Nat.le_refl _) _), belowXof ((Below.refl _ _).alloc (Nat.le_refl _) _), Nat.ne_of_gt hlt, hoff⟩
 unfold FewPost LiftPost StrPost at *
 generalize (ends W H bs).length = e at *
 generalize (picks W H bs).length = q at *
 generalize natI (thL W H bs) = l1 at *
 generalize natI (trL W H bs) = l2 at *
 generalize tieL W H bs = l5 at *
 generalize lift (W+H) (abM W H bs) = l6 at *
 generalize longV true H W (turnL W H bs) = dn at *
 generalize longV false W H bs = al at *
 generalize strOf (deckL W H bs) = cd at *
 clear hT hR hn hp hwc hoff
 go_enter Tryd.func22, Tryd.ntmps22
 go_wp2_with fail
 refine (HF.out _ HM0.out.tr).mono ?_
 rintro r w1 ⟨A1, c1, A2, c2, A5, c5, rfl, i1, t5, i2, hb, f1, f2, f5⟩
 have HMX := Lib.hid (HM0.out.call hb)
 have V1 : Hid (LV w.heap.size w1 A1 W l1) := Lib.hid ⟨i1, fun b o h => by have := f1 b o h; simp at this; omega⟩
 have V2 : Hid (LV w.heap.size w1 A2 H l2) := Lib.hid ⟨i2, fun b o h => by have := f2 b o h; simp at this; omega⟩
 have V5 : Hid (OV w.heap.size w1 A5 (e * q) c5 l5) := Lib.hid ⟨t5, fun b o h => by have := f5 b o h; simp at this; omega⟩
 clear HF HM0 hb i1 i2 t5 f1 f2 f5
 obtain ⟨mb, hmb⟩ : ∃ mb, mb = w.heap.size := ⟨_, rfl⟩
 rw [← hmb] at HMX hlt ⊢
 have HMB := Lib.hid hmb
 have hlt' : ob < w.heap.size := by omega
 clear hmb
 have n1 : ¬ (ob = mb) := by omega
 have n2 : ¬ (mb = ob) := by omega
 have q0 : w1.cell? ⟨mb, 0, none⟩ = some (.int .i64 (W)) := HMX.out.mrow.cell (i := 0) (by omega)
 have q1 : w1.cell? ⟨mb, 1, none⟩ = some (.int .i64 (H)) := HMX.out.mrow.cell (i := 1) (by omega)
 have q2 : w1.cell? ⟨mb, 2, none⟩ = some (.slice a n c) := HMX.out.mrow.cell (i := 2) (by omega)
 have lq : LtW mb w1 := HMX.out.mrow.lt
 have lo : LtW ob w1 := HMX.out.row.lt
 have o2 : w1.cell? ⟨ob, 2, none⟩ = some (.slice none 0 0) := HMX.out.row.cell (i := 2) (by omega)
 have g2 := HMX.out.row.frozen 2
 have o3 : w1.cell? ⟨ob, 3, none⟩ = some (.int .i64 (0)) := HMX.out.row.cell (i := 3) (by omega)
 have g3 := HMX.out.row.frozen 3
 have o4 : w1.cell? ⟨ob, 4, none⟩ = some (.int .i64 (0)) := HMX.out.row.cell (i := 4) (by omega)
 have g4 := HMX.out.row.frozen 4
 have o5 : w1.cell? ⟨ob, 5, none⟩ = some (.slice none 0 0) := HMX.out.row.cell (i := 5) (by omega)
 have g5 := HMX.out.row.frozen 5
 have o6 : w1.cell? ⟨ob, 6, none⟩ = some (.slice none 0 0) := HMX.out.row.cell (i := 6) (by omega)
 have g6 := HMX.out.row.frozen 6
 go_wp2_with fail
 have HM2 : Hid (MD ob mb mb (mF k p (.slice A1 W c1) (.int .i64 (e)) (.int .i64 (q)) (.slice A5 (e * q) c5) (.slice A2 H c2) (.bool false) (.slice none 0 0) (.int .i64 (0)) (.int .i64 (0)) (.string ⟨#[]⟩)) W H a n c bs w (((((w1.setCell ⟨ob, 2, none⟩ (.slice A1 W c1)).setCell ⟨ob, 3, none⟩ (.int .i64 (e))).setCell ⟨ob, 4, none⟩ (.int .i64 (q))).setCell ⟨ob, 5, none⟩ (.slice A5 (e * q) c5)).setCell ⟨ob, 6, none⟩ (.slice A2 H c2))) := Lib.hid (by
  refine (((((HMX.out.set' 2 (.slice A1 W c1)).set' 3 (.int .i64 (e))).set' 4 (.int .i64 (q))).set' 5 (.slice A5 (e * q) c5)).set' 6 (.slice A2 H c2)).congr ?_
  exact (fun j hj => by
 have h12 : j = 0 ∨ j = 1 ∨ j = 2 ∨ j = 3 ∨ j = 4 ∨ j = 5 ∨ j = 6 ∨ j = 7 ∨ j = 8 ∨ j = 9 ∨ j = 10 ∨ j = 11 := by omega
 rcases h12 with rfl | rfl | rfl | rfl | rfl | rfl | rfl | rfl | rfl | rfl | rfl | rfl <;> rfl))
 refine (HL.out _ HM2.out.tr).mono ?_
 rintro r w2 ⟨A6, c6, rfl, i6, hb, f6⟩
 have U1 := Lib.hid ((((((V1.out.set hlt' 2 (.slice A1 W c1)).set hlt' 3 (.int .i64 (e))).set hlt' 4 (.int .i64 (q))).set hlt' 5 (.slice A5 (e * q) c5)).set hlt' 6 (.slice A2 H c2)).call hb)
 have U2 := Lib.hid ((((((V2.out.set hlt' 2 (.slice A1 W c1)).set hlt' 3 (.int .i64 (e))).set hlt' 4 (.int .i64 (q))).set hlt' 5 (.slice A5 (e * q) c5)).set hlt' 6 (.slice A2 H c2)).call hb)
 have U5 := Lib.hid ((((((V5.out.set hlt' 2 (.slice A1 W c1)).set hlt' 3 (.int .i64 (e))).set hlt' 4 (.int .i64 (q))).set hlt' 5 (.slice A5 (e * q) c5)).set hlt' 6 (.slice A2 H c2)).call hb)
 have U6 : Hid (LV w.heap.size w2 A6 l6.length (natI l6)) := Lib.hid ⟨i6, fun b o h => by have := HM2.out.bel.size; have := f6 b o h; have := HMB.out; omega⟩
 have HM3 := Lib.hid (HM2.out.call hb)
 clear q0 q1 q2 lq lo
 clear HL V1 V2 V5 hb i6 f6 HMX HM2 o2 o3 o4 o5 o6 g2 g3 g4 g5 g6
 have HMX := HM3
 clear HM3
 have q0 : w2.cell? ⟨mb, 0, none⟩ = some (.int .i64 (W)) := HMX.out.mrow.cell (i := 0) (by omega)
 have q1 : w2.cell? ⟨mb, 1, none⟩ = some (.int .i64 (H)) := HMX.out.mrow.cell (i := 1) (by omega)
 have q2 : w2.cell? ⟨mb, 2, none⟩ = some (.slice a n c) := HMX.out.mrow.cell (i := 2) (by omega)
 have lq : LtW mb w2 := HMX.out.mrow.lt
 have lo : LtW ob w2 := HMX.out.row.lt
 have o7 : w2.cell? ⟨ob, 7, none⟩ = some (.bool false) := HMX.out.row.cell (i := 7) (by omega)
 have g7 := HMX.out.row.frozen 7
 have o8 : w2.cell? ⟨ob, 8, none⟩ = some (.slice none 0 0) := HMX.out.row.cell (i := 8) (by omega)
 have g8 := HMX.out.row.frozen 8
 go_wp2_with fail
 have HM4 : Hid (MD ob mb mb (mF k p (.slice A1 W c1) (.int .i64 (e)) (.int .i64 (q)) (.slice A5 (e * q) c5) (.slice A2 H c2) (.bool (((l6.length : Nat) : Int) == 0)) (.slice A6 l6.length c6) (.int .i64 (0)) (.int .i64 (0)) (.string ⟨#[]⟩)) W H a n c bs w ((w2.setCell ⟨ob, 8, none⟩ (.slice A6 l6.length c6)).setCell ⟨ob, 7, none⟩ (.bool (((l6.length : Nat) : Int) == 0)))) := Lib.hid (by
  refine ((HMX.out.set' 8 (.slice A6 l6.length c6)).set' 7 (.bool (((l6.length : Nat) : Int) == 0))).congr ?_
  exact (fun j hj => by
 have h12 : j = 0 ∨ j = 1 ∨ j = 2 ∨ j = 3 ∨ j = 4 ∨ j = 5 ∨ j = 6 ∨ j = 7 ∨ j = 8 ∨ j = 9 ∨ j = 10 ∨ j = 11 := by omega
 rcases h12 with rfl | rfl | rfl | rfl | rfl | rfl | rfl | rfl | rfl | rfl | rfl | rfl <;> rfl))
 refine (HO.out _ HM4.out.tr).mono ?_
 rintro r w3 ⟨rfl, hb⟩
 have V1 := Lib.hid (((U1.out.set hlt' 8 (.slice A6 l6.length c6)).set hlt' 7 (.bool (((l6.length : Nat) : Int) == 0))).call hb)
 have V2 := Lib.hid (((U2.out.set hlt' 8 (.slice A6 l6.length c6)).set hlt' 7 (.bool (((l6.length : Nat) : Int) == 0))).call hb)
 have V5 := Lib.hid (((U5.out.set hlt' 8 (.slice A6 l6.length c6)).set hlt' 7 (.bool (((l6.length : Nat) : Int) == 0))).call hb)
 have V6 := Lib.hid (((U6.out.set hlt' 8 (.slice A6 l6.length c6)).set hlt' 7 (.bool (((l6.length : Nat) : Int) == 0))).call hb)
 have HM5 := Lib.hid (HM4.out.call hb)
 clear q0 q1 q2 lq lo
 clear HO U1 U2 U5 U6 hb HMX HM4 o7 o8 g7 g8
 have HMX := HM5
 clear HM5
 have q0 : w3.cell? ⟨mb, 0, none⟩ = some (.int .i64 (W)) := HMX.out.mrow.cell (i := 0) (by omega)
 have q1 : w3.cell? ⟨mb, 1, none⟩ = some (.int .i64 (H)) := HMX.out.mrow.cell (i := 1) (by omega)
 have q2 : w3.cell? ⟨mb, 2, none⟩ = some (.slice a n c) := HMX.out.mrow.cell (i := 2) (by omega)
 have lq : LtW mb w3 := HMX.out.mrow.lt
 have lo : LtW ob w3 := HMX.out.row.lt
 have o9 : w3.cell? ⟨ob, 9, none⟩ = some (.int .i64 (0)) := HMX.out.row.cell (i := 9) (by omega)
 have g9 := HMX.out.row.frozen 9
 have o10 : w3.cell? ⟨ob, 10, none⟩ = some (.int .i64 (0)) := HMX.out.row.cell (i := 10) (by omega)
 have g10 := HMX.out.row.frozen 10
 go_wp2_with fail
 have HM6 : Hid (MD ob mb mb (mF k p (.slice A1 W c1) (.int .i64 (e)) (.int .i64 (q)) (.slice A5 (e * q) c5) (.slice A2 H c2) (.bool (((l6.length : Nat) : Int) == 0)) (.slice A6 l6.length c6) (.int .i64 (dn)) (.int .i64 (al)) (.string ⟨#[]⟩)) W H a n c bs w ((w3.setCell ⟨ob, 9, none⟩ (.int .i64 (dn))).setCell ⟨ob, 10, none⟩ (.int .i64 (al)))) := Lib.hid (by
  refine ((HMX.out.set' 9 (.int .i64 (dn))).set' 10 (.int .i64 (al))).congr ?_
  exact (fun j hj => by
 have h12 : j = 0 ∨ j = 1 ∨ j = 2 ∨ j = 3 ∨ j = 4 ∨ j = 5 ∨ j = 6 ∨ j = 7 ∨ j = 8 ∨ j = 9 ∨ j = 10 ∨ j = 11 := by omega
 rcases h12 with rfl | rfl | rfl | rfl | rfl | rfl | rfl | rfl | rfl | rfl | rfl | rfl <;> rfl))
 refine (HP.out _ HM6.out.tr).mono ?_
 rintro r w4 ⟨rfl, hb⟩
 have U1 := Lib.hid (((V1.out.set hlt' 9 (.int .i64 (dn))).set hlt' 10 (.int .i64 (al))).call hb)
 have U2 := Lib.hid (((V2.out.set hlt' 9 (.int .i64 (dn))).set hlt' 10 (.int .i64 (al))).call hb)
 have U5 := Lib.hid (((V5.out.set hlt' 9 (.int .i64 (dn))).set hlt' 10 (.int .i64 (al))).call hb)
 have U6 := Lib.hid (((V6.out.set hlt' 9 (.int .i64 (dn))).set hlt' 10 (.int .i64 (al))).call hb)
 have HM7 := Lib.hid (HM6.out.call hb)
 clear q0 q1 q2 lq lo
 clear HP V1 V2 V5 V6 hb HMX HM6 o9 o10 g9 g10
 have HMX := HM7
 clear HM7
 have q0 : w4.cell? ⟨mb, 0, none⟩ = some (.int .i64 (W)) := HMX.out.mrow.cell (i := 0) (by omega)
 have q1 : w4.cell? ⟨mb, 1, none⟩ = some (.int .i64 (H)) := HMX.out.mrow.cell (i := 1) (by omega)
 have q2 : w4.cell? ⟨mb, 2, none⟩ = some (.slice a n c) := HMX.out.mrow.cell (i := 2) (by omega)
 have lq : LtW mb w4 := HMX.out.mrow.lt
 have lo : LtW ob w4 := HMX.out.row.lt
 have o11 : w4.cell? ⟨ob, 11, none⟩ = some (.string ⟨#[]⟩) := HMX.out.row.cell (i := 11) (by omega)
 have g11 := HMX.out.row.frozen 11
 go_wp2
 go_ret
 refine ⟨rfl, A1, c1, A2, c2, A5, c5, A6, c6, ?_, U1.out.set hlt' 11 _, U2.out.set hlt' 11 _, U5.out.set hlt' 11 _, U6.out.set hlt' 11 _, by rw [← HMB.out]; exact (HMX.out.set' 11 (.string cd)).bel⟩
 exact ((HMX.out.set' 11 (.string cd)).congr (f' := mF k p (.slice A1 W c1) (.int .i64 (e)) (.int .i64 (q)) (.slice A5 (e * q) c5) (.slice A2 H c2) (.bool (((l6.length : Nat) : Int) == 0)) (.slice A6 l6.length c6) (.int .i64 (dn)) (.int .i64 (al)) (.string cd)) (fun j hj => by
 have h12 : j = 0 ∨ j = 1 ∨ j = 2 ∨ j = 3 ∨ j = 4 ∨ j = 5 ∨ j = 6 ∨ j = 7 ∨ j = 8 ∨ j = 9 ∨ j = 10 ∨ j = 11 := by omega
 rcases h12 with rfl | rfl | rfl | rfl | rfl | rfl | rfl | rfl | rfl | rfl | rfl | rfl <;> rfl)).row
end
end Go.Proofs.YtajdoobkfbdgoaaDoor
