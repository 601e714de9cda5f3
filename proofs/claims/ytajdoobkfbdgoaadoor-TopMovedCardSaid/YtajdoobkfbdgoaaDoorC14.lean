/- Lemmas on which the law of this seat rests; each states its own conditions. -/
import Derived.Test.YtajdoobkfbdgoaaDoorC13
set_option linter.unusedVariables false
set_option linter.unusedSimpArgs false
namespace Go.Proofs.YtajdoobkfbdgoaaDoor
section
open Go.RowKit
open Go.Proofs.YtajdoobkfbdgoaaDoor.Z Go.Maps
theorem FT.mono {mb n n' : Nat} {T : List Nat} {w : World} (h : FT mb n T w) (hn : n ≤ n') : FT mb n' T w := by
 obtain ⟨D, h1, h2⟩ := h
 exact ⟨D, h1.mono hn, h2⟩
theorem LK.monoT {q sb mb tb : Nat} {G W H : Int} {A0 : Option Addr} {n0 c0 : Nat} {sa uc ub : Nat} {B : Option Addr} {D : Nat} {L : List Mv} {k k' : Nat} {T : List Nat} {E : List (Nat × Bool × Bool)} {w0 w : World} (h : LK q sb mb tb G W H A0 n0 c0 sa uc ub B D L k T E w0 w) (hk : k ≤ k') : LK q sb mb tb G W H A0 n0 c0 sa uc ub B D L k' T E w0 w :=
 ⟨h.ch, h.re, h.st, h.fw, h.ft.mono hk, h.mt, h.mv, h.bel, h.om, h.ot⟩
theorem take_mv {L : List Mv} {k : Nat} (hk : k < L.length) : L.take (k + 1) = L.take k ++ [L.getD k idm] := by
 rw [List.take_succ_eq_append_getElem hk, List.getD_eq_getElem?_getD, List.getElem?_eq_getElem hk]
 rfl
theorem waysF_len (g a b c : Int) : ∀ (L : List Mv) (E : List (Nat × Bool × Bool)), (L.foldl (wayS g a b c) E).length ≤ E.length + L.length
 | [], E => by simp
 | f :: L, E => by
  have h1 := waysF_len g a b c L (wayS g a b c E f)
  have h2 : (wayS g a b c E f).length ≤ E.length + 1 := by
   unfold wayS
   split <;> simp
  simp only [List.foldl_cons, List.length_cons]
  omega
theorem fw_ne {mb b t n : Nat} {E : List (Nat × Bool × Bool)} {f : Nat → Value} {w : World} (h : FW mb E w) (hr : w.rowIs b t n f) : mb ≠ b := by
 obtain ⟨cs9, h9, _⟩ := hr
 obtain ⟨D9, ⟨es9, c9, h10, _⟩, _⟩ := h
 intro e
 rw [e, h9] at h10
 cases h10
theorem set6_other (w : World) (b k : Nat) (hk : k ≠ b) (u0 u1 u2 u3 u4 u5 : Value) : ((((((((w).setCell ⟨b, 0, none⟩ (u0)).setCell ⟨b, 1, none⟩ (u1)).setCell ⟨b, 2, none⟩ (u2)).setCell ⟨b, 3, none⟩ (u3)).setCell ⟨b, 4, none⟩ (u4)).setCell ⟨b, 5, none⟩ (u5))).heap[k]? = w.heap[k]? := by
 rw [Below.heap_setCell _ _ _ k hk, Below.heap_setCell _ _ _ k hk, Below.heap_setCell _ _ _ k hk, Below.heap_setCell _ _ _ k hk, Below.heap_setCell _ _ _ k hk, Below.heap_setCell _ _ _ k hk]
theorem lk_start {q sb mb : Nat} {G W H : Int} {A0 : Option Addr} {n0 c0 : Nat} {sa uc ub : Nat} {B : Option Addr} {D : Nat} {L : List Mv} {w0 w3 : World} (hch : w3.rowIs q 25 4 (chR G W H (.slice A0 n0 c0))) (hre : w3.rowIs (q + 1) 119 6 (sgF 0 (.map none) 0 0 0)) (hst : w3.rowIs sb 119 6 (sgF 0 (.map (some mb)) 0 0 0))
  (hfw : FW mb [] w3) (hmv : OwnM w3 w0.heap.size B L.length D L) (hb : Below w0.heap.size w0 w3) (h1 : q + 1 < sb) (h2 : mb ≠ sb) (h3 : w0.heap.size ≤ mb) (h4 : w0.heap.size ≤ sb) : LK q sb mb w3.heap.size G W H A0 n0 c0 sa uc ub B D L 0 [] [] w0 ((((((w3.setCell ⟨sb, 2, none⟩ (.int .i64 (sa : Nat))).setCell ⟨sb, 3, none⟩ (.int .i64 0)).setCell ⟨sb, 4, none⟩ (.int .i64 (uc : Nat))).setCell ⟨sb, 5, none⟩ (.int .i64 (ub : Nat))).alloc (.map #[] 0))) := by
 have k1 := hst.set 2 (.int .i64 (sa : Nat))
 have k2 := k1.set 3 (.int .i64 0)
 have k3 := k2.set 4 (.int .i64 (uc : Nat))
 have k4 := k3.set 5 (.int .i64 (ub : Nat))
 have m1 := hmv.setRow (i := 2) (u := .int .i64 (sa : Nat)) hst (by decide)
 have m2 := m1.setRow (i := 3) (u := .int .i64 0) k1 (by decide)
 have m3 := m2.setRow (i := 4) (u := .int .i64 (uc : Nat)) k2 (by decide)
 have m4 := m3.setRow (i := 5) (u := .int .i64 (ub : Nat)) k3 (by decide)
 have hb4 := (((hb.setCell (show w0.heap.size ≤ (⟨sb, 2, none⟩ : Addr).block from h4) (.int .i64 (sa : Nat))).setCell (show w0.heap.size ≤ (⟨sb, 3, none⟩ : Addr).block from h4) (.int .i64 0)).setCell (show w0.heap.size ≤ (⟨sb, 4, none⟩ : Addr).block from h4) (.int .i64 (uc : Nat))).setCell (show w0.heap.size ≤ (⟨sb, 5, none⟩ : Addr).block from h4) (.int .i64 (ub : Nat))
 have hhp : ∀ k, k ≠ sb → ((((w3.setCell ⟨sb, 2, none⟩ (.int .i64 (sa : Nat))).setCell ⟨sb, 3, none⟩ (.int .i64 0)).setCell ⟨sb, 4, none⟩ (.int .i64 (uc : Nat))).setCell ⟨sb, 5, none⟩ (.int .i64 (ub : Nat))).heap[k]? = w3.heap[k]? := fun k hk => by
  rw [Below.heap_setCell _ _ _ k hk, Below.heap_setCell _ _ _ k hk, Below.heap_setCell _ _ _ k hk, Below.heap_setCell _ _ _ k hk]
 have hsz : ((((w3.setCell ⟨sb, 2, none⟩ (.int .i64 (sa : Nat))).setCell ⟨sb, 3, none⟩ (.int .i64 0)).setCell ⟨sb, 4, none⟩ (.int .i64 (uc : Nat))).setCell ⟨sb, 5, none⟩ (.int .i64 (ub : Nat))).heap.size = w3.heap.size := by simp
 have hft := FT.made ((((w3.setCell ⟨sb, 2, none⟩ (.int .i64 (sa : Nat))).setCell ⟨sb, 3, none⟩ (.int .i64 0)).setCell ⟨sb, 4, none⟩ (.int .i64 (uc : Nat))).setCell ⟨sb, 5, none⟩ (.int .i64 (ub : Nat)))
 rw [hsz] at hft
 have hlt := hfw.lt
 generalize (((w3.setCell ⟨sb, 2, none⟩ (.int .i64 (sa : Nat))).setCell ⟨sb, 3, none⟩ (.int .i64 0)).setCell ⟨sb, 4, none⟩ (.int .i64 (uc : Nat))).setCell ⟨sb, 5, none⟩ (.int .i64 (ub : Nat)) = w4 at *
 refine ⟨(hch.of_block (hhp q (by omega))).alloc _, (hre.of_block (hhp (q + 1) (by omega))).alloc _, (k4.congr fun i hi => ?_).alloc _, (hfw.kept (hhp mb h2)).kept (Below.heap_alloc _ _ _ (by omega)), hft, by omega, ⟨m4.1, m4.2.alloc _⟩, hb4.alloc (by have := hb.size; omega) _, h3, hb.size⟩
 have hi2 : i = 0 ∨ i = 1 ∨ i = 2 ∨ i = 3 ∨ i = 4 ∨ i = 5 := by omega
 rcases hi2 with rfl | rfl | rfl | rfl | rfl | rfl <;> simp [sgF]
set_option maxRecDepth 100000 in
set_option maxHeartbeats 8000000 in
theorem look_ok (G W H n N sa uc ub : Nat) (a : Option Addr) (c : Nat) (cs : List Int) (w : World) (hI : IsInts w a n cs) (h : ChOk G W H n cs) (hN : torN W H = N) (h24 : N ≤ 24) (h0 : 0 < N) (hS : Sid (stK W H cs G N) N sa) (hU : Upw (stK W H cs G N) N sa uc ub) :
    Calls Tryd.prog 48 #[.agg #[.int .i64 (G), .int .i64 (W), .int .i64 (H), .slice a n c]] w fun r w' => Below w.heap.size w w' ∧ ∃ mb, r = .returned (.tuple #[sightV ((turnsF (movesL W H cs G N)).length : Nat) mb sa uc ub, .int .i64 (0)]) ∧ FW mb (waysF G sa ub uc (movesL W H cs G N)) w' ∧ w.heap.size ≤ mb := by
  have hd := Z.torN_dvd W H
  rw [hN] at hd
  have HM := Lib.hid (fun w hI => Moves_ok G W H n N a c cs w hI h hN h24 h0)
  have HF := Lib.hid (fun w hI => Finest_ok G W H n N sa uc ub a c cs w hI h hN h24 h0 hS hU)
  have HI := Lib.hid hI
  have hg := h.g
  have hgG : Z.G (G : Int) := by
    show (G : Int) = 4 ∨ (G : Int) = 6
    omega
  have hfine := fine_of (g := (G : Int)) (cs := cs) h0 hd.1 hd.2 hS hU
  have hgrp := movesL_grp (cs := cs) (g := (G : Int)) h0 hd.1 hd.2
  have hsa1 := hS.a1; have hsaN := hS.an; have hub1 := hU.b1; have hubN := hU.bn; have hucs := hU.ca
  have HWAY : Hid (∀ m ∈ movesL W H cs G N, m.f = true → ∀ w9, Calls Tryd.prog 69 #[.agg #[.int .i64 (sa), .int .i64 0, .int .i64 (uc), .int .i64 (ub)], .int .i64 (G), .agg #[.int .i64 (m.t), .bool (true), .int .i64 (m.o.1), .int .i64 (m.o.2)]] w9 fun e w' => e = .returned (.agg #[.bool (wayP G sa ub uc m).1, .bool (wayP G sa ub uc m).2]) ∧ Below w9.heap.size w9 w') := Lib.hid (fun m hm hf w9 => by
    have hok := hgrp.ok hm
    have hkp := hgrp.keep hm
    have hbd := hgrp.bd hm
    obtain ⟨t, f, ox, oy⟩ := m
    simp only at hf
    subst hf
    exact way_any G sa uc ub t ox oy N w9 (by rcases hg with h | h <;> omega) (by omega) (by omega) (by omega) hok h24 ⟨hbd.1, hbd.2.1⟩ ⟨hbd.2.2.1, hbd.2.2.2⟩
      ((latB_stp hfine _).2 (stp_al hgG hok hkp rfl hfine.sa)) ((latB_stp hfine _).2 (stp_al hgG hok hkp rfl hfine.sb)))
  have HTL : Hid (∀ m ∈ movesL W H cs G N, m.t ≤ 100) := Lib.hid (fun m hm => by
    have := hgrp.ok hm
    unfold okT at this
    rcases hg with h | h <;> omega)
  have HLEN : Hid ((movesL W H cs G N).length ≤ 100000) := Lib.hid (by
    have := (moves_facts h hN h24 h0).2.2.2
    omega)
  clear hI h hN hd hfine hgrp hgG hS hU
  generalize movesL W H cs G N = L at *
  go_enter Tryd.func48, Tryd.ntmps48
  go_wp2_with fail
  refine (HM.out _ (HI.out.below blw)).mono ?_
  rintro r w2 ⟨⟨B, D, rfl, hmv⟩, hb2⟩
  have hc0 := (row4 w (.int .i64 (G : Nat)) (.int .i64 (W : Nat)) (.int .i64 (H : Nat)) (.slice a n c) 25).alloc (.cells #[.int .i64 0, .map none, .int .i64 0, .int .i64 0, .int .i64 0, .int .i64 0] 119)
  have hr0 := row6 (w.alloc (.cells #[.int .i64 (G : Nat), .int .i64 (W : Nat), .int .i64 (H : Nat), .slice a n c] 25)) (.int .i64 0) (.map none) (.int .i64 0) (.int .i64 0) (.int .i64 0) (.int .i64 0) 119
  have hc2 := rowBelow hc0 hb2 hc0.lt
  have hr2 := rowBelow hr0 hb2 hr0.lt
  rw [World.size_alloc] at hr2
  have hB2 : Below w.heap.size w w2 := Below.trans blw (hb2.mono (by simp; omega))
  have p0 : w2.cell? ⟨w.heap.size, 0, none⟩ = some (.int .i64 (G : Nat)) := hc2.cell (i := 0) (by omega)
  have p1 : w2.cell? ⟨w.heap.size, 1, none⟩ = some (.int .i64 (W : Nat)) := hc2.cell (i := 1) (by omega)
  have p2 : w2.cell? ⟨w.heap.size, 2, none⟩ = some (.int .i64 (H : Nat)) := hc2.cell (i := 2) (by omega)
  have p3 : w2.cell? ⟨w.heap.size, 3, none⟩ = some (.slice a n c) := hc2.cell (i := 3) (by omega)
  have lp : LtW w.heap.size w2 := hc2.lt
  have hmm := @run_makeMap Tryd.prog
  have HMV := Lib.hid hmv; have HC2 := Lib.hid hc2; have HR2 := Lib.hid hr2; have HB2 := Lib.hid hB2
  have HR2L := Lib.hid hr2.lt
  clear hmv hc0 hr0 hc2 hr2 hB2 hb2 HM
  go_wp2_with fail
  have hbz : Below w2.heap.size w2 ((w2.alloc (.map #[] 0)).alloc (.cells #[.int .i64 0, .map (some w2.heap.size), .int .i64 0, .int .i64 0, .int .i64 0, .int .i64 0] 119)) := blw
  refine (HF.out _ (HI.out.below (HB2.out.trans (hbz.mono HB2.out.size)))).mono ?_
  rintro r w3 ⟨rfl, hb3⟩
  have hfw := ((FW.made w2).kept (w' := (w2.alloc (.map #[] 0)).alloc (.cells #[.int .i64 0, .map (some w2.heap.size), .int .i64 0, .int .i64 0, .int .i64 0, .int .i64 0] 119)) (Below.heap_alloc _ _ _ (by simp)))
  have hfw3 := hfw.kept (hb3.block _ hfw.lt)
  have hst := row6 (w2.alloc (.map #[] 0)) (.int .i64 0) (.map (some w2.heap.size)) (.int .i64 0) (.int .i64 0) (.int .i64 0) (.int .i64 0) 119
  have hst3 := rowBelow hst hb3 hst.lt
  rw [World.size_alloc] at hst3
  have hbb3 := hbz.trans (hb3.mono hbz.size)
  have hch3 := rowBelow HC2.out hbb3 HC2.out.lt
  have hre3 := rowBelow HR2.out hbb3 HR2.out.lt
  have hmv3 := (HMV.out.base (base' := w.heap.size) (by simp; omega)).below hbb3
  have hB3 := HB2.out.trans (hbb3.mono HB2.out.size)
  have k0 : w3.cell? ⟨w2.heap.size + 1, 0, none⟩ = some (.int .i64 0) := hst3.cell (i := 0) (by omega)
  have k1 : w3.cell? ⟨w2.heap.size + 1, 1, none⟩ = some (.map (some w2.heap.size)) := hst3.cell (i := 1) (by omega)
  have k2 : w3.cell? ⟨w2.heap.size + 1, 2, none⟩ = some (.int .i64 0) := hst3.cell (i := 2) (by omega)
  have k3 : w3.cell? ⟨w2.heap.size + 1, 3, none⟩ = some (.int .i64 0) := hst3.cell (i := 3) (by omega)
  have k4 : w3.cell? ⟨w2.heap.size + 1, 4, none⟩ = some (.int .i64 0) := hst3.cell (i := 4) (by omega)
  have k5 : w3.cell? ⟨w2.heap.size + 1, 5, none⟩ = some (.int .i64 0) := hst3.cell (i := 5) (by omega)
  have g2 := hst3.frozen 2
  have g3 := hst3.frozen 3
  have g4 := hst3.frozen 4
  have g5 := hst3.frozen 5
  have lk : LtW (w2.heap.size + 1) w3 := hst3.lt
  have HFW3 := Lib.hid hfw3; have HST3 := Lib.hid hst3; have HCH3 := Lib.hid hch3; have HRE3 := Lib.hid hre3; have HMV3 := Lib.hid hmv3; have HB3 := Lib.hid hB3
  clear hbz hb3 hfw hfw3 hst hst3 hbb3 hch3 hre3 hmv3 hB3 HMV HC2 HR2 HF p0 p1 p2 p3 lp
  go_wp2_with fail
  clear k0 k1 k2 k3 k4 k5 g2 g3 g4 g5 lk hmm
  have hlt2 : w.heap.size + 1 < w2.heap.size := HR2L.out
  have HLK := Lib.hid (lk_start (sa := sa) (uc := uc) (ub := ub) (sb := w2.heap.size + 1) (q := w.heap.size) (HCH3.out.congr fun i hi => by unfold chR; rfl) (HRE3.out.congr fun i hi => by unfold sgF; rfl) (HST3.out.congr fun i hi => by unfold sgF; rfl) HFW3.out HMV3.out HB3.out (by omega) (by omega) (by omega) (by omega))
  obtain ⟨sb, hsb⟩ : ∃ sb, w2.heap.size + 1 = sb := ⟨_, rfl⟩
  obtain ⟨mb, hmb⟩ : ∃ mb, w2.heap.size = mb := ⟨_, rfl⟩
  rw [hsb, hmb] at HLK ⊢
  obtain ⟨tb, htb⟩ : ∃ tb, w3.heap.size = tb := ⟨_, rfl⟩
  rw [htb] at HLK ⊢
  have HSQ : Hid (w.heap.size + 1 < sb) := Lib.hid (by omega)
  clear hsb hmb htb HFW3 HST3 HCH3 HRE3 HMV3 HB3 hlt2
  generalize (((((w3.setCell ⟨sb, 2, none⟩ (.int .i64 (sa : Nat))).setCell ⟨sb, 3, none⟩ (.int .i64 0)).setCell ⟨sb, 4, none⟩ (.int .i64 (uc : Nat))).setCell ⟨sb, 5, none⟩ (.int .i64 (ub : Nat))).alloc (.map #[] 0)) = w4 at *
  go_loopw [36] (fun iv wr => ∃ k : Nat, k ≤ L.length ∧ iv = .int .i64 (k) ∧ Hid (LK w.heap.size sb mb tb G W H a n c sa uc ub B D L k (turnsF (L.take k)) (waysF G sa ub uc (L.take k)) w wr)) (fun iv _ => L.length - (intOf iv).toNat)
  case atStart => exact ⟨0, by omega, rfl, HLK⟩
  case round =>
    obtain ⟨k, hk, rfl, HK⟩ := hrel
    by_cases hkl : k < L.length
    · obtain ⟨bm, om, hB, hbl, hcs⟩ := HK.out.mv.moves.2 (by omega)
      subst hB
      obtain ⟨c0, c1, c2, c3⟩ := hcs k hkl
      have hmem : L.getD k idm ∈ L := by
        rw [List.getD_eq_getElem?_getD, List.getElem?_eq_getElem hkl]
        exact List.getElem_mem hkl
      have HTK := Lib.hid (take_mv hkl)
      have HWY := Lib.hid (HWAY.out _ hmem)
      have ht100 := HTL.out _ hmem
      have hLl := HLEN.out
      have hEl : (waysF G sa ub uc (L.take k)).length ≤ 100000 := by
        have := waysF_len (G : Int) sa ub uc (L.take k) []
        unfold waysF
        simp only [List.length_nil, List.length_take] at this
        omega
      have lb : LtW bm wr := hbl
      have dk : decide ((k : Int) < (L.length : Int)) = true := by simp; omega
      have dk' : decide (k < L.length) = true := by simpa using hkl
      clear hcs hmem hbl
      generalize L.getD k idm = f at *
      obtain ⟨t, fl, ox, oy⟩ := f
      simp only at c0 c1 c2 c3 ht100 HWY
      have hb1 : Below wr.heap.size wr (wr.alloc (.cells #[.int .i64 (t : Nat), .bool fl, .int .i64 ox, .int .i64 oy] 56)) := blw
      have HK1 := Lib.hid (HK.out.grow hb1)
      have hmr := row4 wr (.int .i64 (t : Nat)) (.bool fl) (.int .i64 ox) (.int .i64 oy) 56
      clear hb1 HK
      cases fl with
      | false =>
        obtain ⟨w9, hrun, hft, hg9⟩ := HK1.out.ft.store ⟨t, false, (ox, oy)⟩ rfl ht100 (by omega)
        have hrun : (Instr.mapUpdate 155 (.map (some tb)) (.int .i64 (t : Nat)) (.bool true)).run Tryd.prog (wr.alloc (.cells #[.int .i64 (t : Nat), .bool false, .int .i64 ox, .int .i64 oy] 56)) = .ok () w9 := hrun
        have HK2 : Hid (LK w.heap.size sb mb tb G W H a n c sa uc ub (some ⟨bm, om, none⟩) D L (k + 1) (turnsF (L.take (k + 1))) (waysF G sa ub uc (L.take (k + 1))) w w9) := Lib.hid (by
          rw [HTK.out, turnsF_snoc, waysF_snoc]
          have := HK1.out.putT hg9 hft
          unfold wayS
          rw [if_pos (.inl rfl)]
          exact this)
        clear hft hg9 HK1 hmr HWY
        go_wp2
        go_roundw
        case rel => exact ⟨k + 1, by omega, by go_num, HK2⟩
        case measure => simp [intOf]; omega
      | true =>
        have HTS : Hid (turnsF (L.take (k + 1)) = turnsF (L.take k)) := Lib.hid (by
          rw [HTK.out, turnsF_snoc]
          unfold turnS
          rw [if_pos (.inl rfl)])
        obtain ⟨u, v, hlk⟩ := HK1.out.fw.look (k := t) ht100
        have s1 : (wr.alloc (.cells #[.int .i64 (t : Nat), .bool true, .int .i64 ox, .int .i64 oy] 56)).cell? ⟨sb, 1, none⟩ = some (.map (some mb)) := HK1.out.st.cell (i := 1) (by omega)
        have ls : LtW sb (wr.alloc (.cells #[.int .i64 (t : Nat), .bool true, .int .i64 ox, .int .i64 oy] 56)) := HK1.out.st.lt
        cases hsn : (waysF G sa ub uc (L.take k)).any fun e => e.1 == t with
        | true =>
          rw [hsn] at hlk
          have HWS : Hid (waysF G sa ub uc (L.take (k + 1)) = waysF G sa ub uc (L.take k)) := Lib.hid (by
            rw [HTK.out, waysF_snoc]
            unfold wayS
            rw [if_pos (.inr hsn)])
          have hb2 : Below (wr.alloc (.cells #[.int .i64 (t : Nat), .bool true, .int .i64 ox, .int .i64 oy] 56)).heap.size (wr.alloc (.cells #[.int .i64 (t : Nat), .bool true, .int .i64 ox, .int .i64 oy] 56)) ((wr.alloc (.cells #[.int .i64 (t : Nat), .bool true, .int .i64 ox, .int .i64 oy] 56)).alloc (.cells #[.bool u, .bool v] 124)) := blw
          have HK2 : Hid (LK w.heap.size sb mb tb G W H a n c sa uc ub (some ⟨bm, om, none⟩) D L (k + 1) (turnsF (L.take (k + 1))) (waysF G sa ub uc (L.take (k + 1))) w ((wr.alloc (.cells #[.int .i64 (t : Nat), .bool true, .int .i64 ox, .int .i64 oy] 56)).alloc (.cells #[.bool u, .bool v] 124))) := Lib.hid (by
            rw [HTS.out, HWS.out]
            exact (HK1.out.grow hb2).monoT (by omega))
          clear hb2 HK1 hmr HWY hsn
          go_wp2
          go_roundw
          case rel => exact ⟨k + 1, by omega, by go_num, HK2⟩
          case measure => simp [intOf]; omega
        | false =>
          rw [hsn] at hlk
          have HNS := Lib.hid hsn
          have hb2 : Below (wr.alloc (.cells #[.int .i64 (t : Nat), .bool true, .int .i64 ox, .int .i64 oy] 56)).heap.size (wr.alloc (.cells #[.int .i64 (t : Nat), .bool true, .int .i64 ox, .int .i64 oy] 56)) ((wr.alloc (.cells #[.int .i64 (t : Nat), .bool true, .int .i64 ox, .int .i64 oy] 56)).alloc (.cells #[.bool u, .bool v] 124)) := blw
          have hK2 := HK1.out.grow hb2
          have hm2 := hmr.alloc (.cells #[.bool u, .bool v] 124)
          have HK2 := Lib.hid hK2; have HM2 := Lib.hid hm2
          clear hb2 hK2 hm2 hmr hsn
          go_wp2_with fail
          generalize (wr.alloc (.cells #[.int .i64 (t : Nat), .bool true, .int .i64 ox, .int .i64 oy] 56)).alloc (.cells #[.bool u, .bool v] 124) = w5 at *
          clear hlk s1 ls HK1
          obtain ⟨xb, hxb⟩ : ∃ xb, wr.heap.size = xb := ⟨_, rfl⟩
          rw [hxb] at HM2 ⊢
          clear hxb
          have m0 : w5.cell? ⟨xb, 0, none⟩ = some (.int .i64 (t : Nat)) := HM2.out.cell (i := 0) (by omega)
          have m1 : w5.cell? ⟨xb, 1, none⟩ = some (.bool true) := HM2.out.cell (i := 1) (by omega)
          have m2 : w5.cell? ⟨xb, 2, none⟩ = some (.int .i64 ox) := HM2.out.cell (i := 2) (by omega)
          have m3 : w5.cell? ⟨xb, 3, none⟩ = some (.int .i64 oy) := HM2.out.cell (i := 3) (by omega)
          have lm : LtW xb w5 := HM2.out.lt
          have s1 : w5.cell? ⟨sb, 1, none⟩ = some (.map (some mb)) := HK2.out.st.cell (i := 1) (by omega)
          have s2 : w5.cell? ⟨sb, 2, none⟩ = some (.int .i64 (sa : Nat)) := HK2.out.st.cell (i := 2) (by omega)
          have s3 : w5.cell? ⟨sb, 3, none⟩ = some (.int .i64 0) := HK2.out.st.cell (i := 3) (by omega)
          have s4 : w5.cell? ⟨sb, 4, none⟩ = some (.int .i64 (uc : Nat)) := HK2.out.st.cell (i := 4) (by omega)
          have s5 : w5.cell? ⟨sb, 5, none⟩ = some (.int .i64 (ub : Nat)) := HK2.out.st.cell (i := 5) (by omega)
          have ls : LtW sb w5 := HK2.out.st.lt
          have g0 : w5.cell? ⟨w.heap.size, 0, none⟩ = some (.int .i64 (G : Nat)) := HK2.out.ch.cell (i := 0) (by omega)
          have lg : LtW w.heap.size w5 := HK2.out.ch.lt
          have HWYC := Lib.hid (HWY.out (by first | rfl | trivial))
          obtain ⟨P, hP⟩ : ∃ P, wayP G sa ub uc ⟨t, true, (ox, oy)⟩ = P := ⟨_, rfl⟩
          rw [hP] at HWYC
          have HPP := Lib.hid hP
          clear hP HWY
          (refine wp_region_ext_tail 10 (by kernel_rfl) (by kernel_rfl) ?_; simp only [List.take_succ_cons, List.take_zero, List.drop_succ_cons, List.drop_zero]; (repeat (first | ((with_reducible refine ext_step (fun K hK => ?_)); go_simp; first | (refine hK _ ?_; clear hK K) | (apply Exists.intro; refine ⟨fun _ _ => ?_, hK _ ?_⟩; (go_at_call 69; exact extOf (HWYC.out _)); clear hK K)))); refine wpQuiet_nil ?_; intro E d)
          have HK6 := Lib.hid (HK2.out.grow (bExtW (Below.refl _ _) (Nat.le_refl _) : Below w5.heap.size w5 (extW w5 E d)))
          clear m0 m1 m2 m3 lm s1 s2 s3 s4 s5 ls g0 lg HWYC HK2 HM2
          generalize extW w5 E d = w6 at *
          obtain ⟨w7, hrun, hfw, hg7⟩ := HK6.out.fw.store t P ht100 (by omega) HNS.out
          have HK7 : Hid (LK w.heap.size sb mb tb G W H a n c sa uc ub (some ⟨bm, om, none⟩) D L (k + 1) (turnsF (L.take (k + 1))) (waysF G sa ub uc (L.take (k + 1))) w w7) := Lib.hid (by
            rw [HTS.out, HTK.out, waysF_snoc]
            unfold wayS
            rw [if_neg (by rintro (h | h); · cases h
                           · rw [HNS.out] at h; cases h), HPP.out]
            exact (HK6.out.putW hg7 hfw).monoT (by omega))
          clear hfw hg7 HK6
          go_wp2
          go_roundw
          case rel => exact ⟨k + 1, by omega, by go_num, HK7⟩
          case measure => simp [intOf]; omega
    · obtain rfl : k = L.length := by omega
      have dk : decide ((L.length : Int) < (L.length : Int)) = false := by simp
      rw [List.take_length] at HK
      obtain ⟨Dm, hown, hT, hsz, _⟩ := HK.out.ft
      have hlen := hown.len Tryd.underlying155
      rw [hsz] at hlen
      have s0 : wr.cell? ⟨sb, 0, none⟩ = some (.int .i64 0) := HK.out.st.cell (i := 0) (by omega)
      have s1 : wr.cell? ⟨sb, 1, none⟩ = some (.map (some mb)) := HK.out.st.cell (i := 1) (by omega)
      have s2 : wr.cell? ⟨sb, 2, none⟩ = some (.int .i64 (sa : Nat)) := HK.out.st.cell (i := 2) (by omega)
      have s3 : wr.cell? ⟨sb, 3, none⟩ = some (.int .i64 0) := HK.out.st.cell (i := 3) (by omega)
      have s4 : wr.cell? ⟨sb, 4, none⟩ = some (.int .i64 (uc : Nat)) := HK.out.st.cell (i := 4) (by omega)
      have s5 : wr.cell? ⟨sb, 5, none⟩ = some (.int .i64 (ub : Nat)) := HK.out.st.cell (i := 5) (by omega)
      have ls : LtW sb wr := HK.out.st.lt
      have fs := HK.out.st.frozen 0
      have r0 : wr.cell? ⟨w.heap.size + 1, 0, none⟩ = some (.int .i64 0) := HK.out.re.cell (i := 0) (by omega)
      have r1 : wr.cell? ⟨w.heap.size + 1, 1, none⟩ = some (.map none) := HK.out.re.cell (i := 1) (by omega)
      have r2 : wr.cell? ⟨w.heap.size + 1, 2, none⟩ = some (.int .i64 0) := HK.out.re.cell (i := 2) (by omega)
      have r3 : wr.cell? ⟨w.heap.size + 1, 3, none⟩ = some (.int .i64 0) := HK.out.re.cell (i := 3) (by omega)
      have r4 : wr.cell? ⟨w.heap.size + 1, 4, none⟩ = some (.int .i64 0) := HK.out.re.cell (i := 4) (by omega)
      have r5 : wr.cell? ⟨w.heap.size + 1, 5, none⟩ = some (.int .i64 0) := HK.out.re.cell (i := 5) (by omega)
      have f0 := HK.out.re.frozen 0
      have f1 := HK.out.re.frozen 1
      have f2 := HK.out.re.frozen 2
      have f3 := HK.out.re.frozen 3
      have f4 := HK.out.re.frozen 4
      have f5 := HK.out.re.frozen 5
      have lr : LtW (w.heap.size + 1) wr := HK.out.re.lt
      have hne1 : ¬ (w.heap.size + 1 = sb) := by have := HSQ.out; omega
      have hne2 : ¬ (sb = w.heap.size + 1) := by have := HSQ.out; omega
      have HRE := Lib.hid (HK.out.re.setOther (a := ⟨sb, 0, none⟩) hne1 (.int .i64 (((turnsF L).length : Nat))))
      have HBL := Lib.hid (HK.out.bel.setCell (show w.heap.size ≤ (⟨sb, 0, none⟩ : Addr).block by have := HSQ.out; simp only; omega) (.int .i64 (((turnsF L).length : Nat))))
      have HFW : Hid (FW mb (waysF G sa ub uc L) (wr.setCell ⟨sb, 0, none⟩ (.int .i64 (((turnsF L).length : Nat))))) := Lib.hid (HK.out.fw.kept (Below.heap_setCell _ _ _ mb (fw_ne HK.out.fw HK.out.st)))
      clear hown hT hsz
      go_wp2
      generalize wr.setCell ⟨sb, 0, none⟩ (.int .i64 (((turnsF L).length : Nat))) = w8 at *
      have hne := fw_ne HFW.out HRE.out
      have hrs := set6 HRE.out (.int .i64 ((turnsF L).length : Nat)) (.map (some mb)) (.int .i64 (sa : Nat)) (.int .i64 0) (.int .i64 (uc : Nat)) (.int .i64 (ub : Nat))
      have hbs := set6_bel HBL.out (show w.heap.size ≤ w.heap.size + 1 by omega) (.int .i64 ((turnsF L).length : Nat)) (.map (some mb)) (.int .i64 (sa : Nat)) (.int .i64 0) (.int .i64 (uc : Nat)) (.int .i64 (ub : Nat))
      have hfs := HFW.out.kept (set6_other w8 (w.heap.size + 1) mb hne (.int .i64 ((turnsF L).length : Nat)) (.map (some mb)) (.int .i64 (sa : Nat)) (.int .i64 0) (.int .i64 (uc : Nat)) (.int .i64 (ub : Nat)))
      have hom := HK.out.om
      clear s0 s1 s2 s3 s4 s5 ls fs r0 r1 r2 r3 r4 r5 f0 f1 f2 f3 f4 f5 lr hlen HRE HBL HFW HK
      generalize (((((((w8).setCell ⟨w.heap.size + 1, 0, none⟩ (.int .i64 ((turnsF L).length : Nat))).setCell ⟨w.heap.size + 1, 1, none⟩ (.map (some mb))).setCell ⟨w.heap.size + 1, 2, none⟩ (.int .i64 (sa : Nat))).setCell ⟨w.heap.size + 1, 3, none⟩ (.int .i64 0)).setCell ⟨w.heap.size + 1, 4, none⟩ (.int .i64 (uc : Nat))).setCell ⟨w.heap.size + 1, 5, none⟩ (.int .i64 (ub : Nat))) = w3 at *
      have q0 : w3.cell? ⟨w.heap.size + 1, 0, none⟩ = some (.int .i64 ((turnsF L).length : Nat)) := hrs.cell (i := 0) (by omega)
      have q1 : w3.cell? ⟨w.heap.size + 1, 1, none⟩ = some (.map (some mb)) := hrs.cell (i := 1) (by omega)
      have q2 : w3.cell? ⟨w.heap.size + 1, 2, none⟩ = some (.int .i64 (sa : Nat)) := hrs.cell (i := 2) (by omega)
      have q3 : w3.cell? ⟨w.heap.size + 1, 3, none⟩ = some (.int .i64 0) := hrs.cell (i := 3) (by omega)
      have q4 : w3.cell? ⟨w.heap.size + 1, 4, none⟩ = some (.int .i64 (uc : Nat)) := hrs.cell (i := 4) (by omega)
      have q5 : w3.cell? ⟨w.heap.size + 1, 5, none⟩ = some (.int .i64 (ub : Nat)) := hrs.cell (i := 5) (by omega)
      have lq : LtW (w.heap.size + 1) w3 := hrs.lt
      refine bodyPost_ret (v := .tuple #[.agg #[.int .i64 ((turnsF L).length : Nat), .map (some mb), .int .i64 (sa : Nat), .int .i64 0, .int .i64 (uc : Nat), .int .i64 (ub : Nat)], .int .i64 (0)]) (by simp [results, Tryd.results48, go_sem, q0, q1, q2, q3, q4, q5]) rfl ⟨hbs, mb, rfl, hfs, hom⟩
end
section
open Go.RowKit
open Go.Proofs.YtajdoobkfbdgoaaDoor.Z Go.Maps
def mkW (p : Bool × Bool) : Value := .agg #[.bool p.1, .bool p.2]
theorem invKI (key : Value) (kl : Lit) (h : keyOf Tryd.prog 3 key = some kl) : ∃ x : Int, key = Value.int .i64 x := by
 obtain ⟨x, rfl, _⟩ := Maps.keyOf_int_inv Tryd.underlying3 h
 exact ⟨x, rfl⟩
structure WV where
 p : Bool × Bool
def mkV (v : WV) : Value := mkW v.p
theorem invVW (v : Value) (y : DataW Unit × List MemPlace) (h : wayR v = some y) : ∃ p : WV, v = mkV p := by
 obtain ⟨p, rfl, _⟩ := wayR_inv h
 exact ⟨⟨p⟩, rfl⟩
structure RW (mb r n : Nat) (D : DataW Unit) (E : List (Nat × Bool × Bool)) (left : Lit → Bool) (cnt : Nat) (w : World) : Prop where
 rg : w.ranges Tryd.prog 3 wayR mb r n D left cnt
 at_ : ∀ e ∈ E, ∀ z, D.atKey (.int .i64 ((e.1 : Nat) : Int)) z = .lit (.int .i64 (codeW e.2))
 lf : ∀ k : Int, left (.int .i64 k) = true → ∃ e ∈ E, ((e.1 : Nat) : Int) = k
set_option maxRecDepth 100000 in
set_option maxHeartbeats 8000000 in
theorem RW.next {mb r n : Nat} {D : DataW Unit} {E : List (Nat × Bool × Bool)} {left : Lit → Bool} {cnt cnt' : Nat} {w w' : World} (h : RW mb r n D E left cnt w) {x : Int} {c : Bool × Bool} {kl : Lit} {y : DataW Unit × List MemPlace}
  (hk : keyOf Tryd.prog 3 (.int .i64 x) = some kl) (hl : left kl = true) (hy : wayR (mkW c) = some y) (hat : ∀ zd, D.atKey kl zd = y.1) (hr : w'.ranges Tryd.prog 3 wayR mb r n D (fun z => left z && !z.sameKey kl) cnt') :
  kl = .int .i64 x ∧ (∃ t : Nat, x = (t : Int) ∧ (t, c) ∈ E) ∧ RW mb r n D E (fun z => left z && !z.sameKey kl) cnt' w' := by
 obtain ⟨x', e1, rfl, _⟩ := Maps.keyOf_int_inv Tryd.underlying3 hk
 cases e1
 obtain ⟨e, he, hx⟩ := h.lf x hl
 have h1 := h.at_ e he (.lit (.int .i64 0))
 rw [hx, hat] at h1
 obtain ⟨p, e2, rfl⟩ := wayR_inv hy
 have h2 : codeW p = codeW e.2 := by
  injection h1 with h1
  injection h1
 have h3 := codeW_inj h2
 have h4 : c = p := by
  unfold mkW at e2
  injection e2 with e2
  simp at e2
  exact Prod.ext e2.1 e2.2
 refine ⟨rfl, ⟨e.1, hx.symm, ?_⟩, hr, h.at_, fun k hk => ?_⟩
 ·rw [h4, h3]
  exact he
 ·rw [Bool.and_eq_true] at hk
  exact h.lf k hk.1
theorem FW.rounds {mb : Nat} {E : List (Nat × Bool × Bool)} {w : World} (h : FW mb E w) : ∃ D : DataW Unit, w.ownsMap Tryd.prog 3 wayR mb E.length D ∧ ∀ w' r, w'.ranges Tryd.prog 3 wayR mb r E.length D (Maps.has D) (Maps.size D) → RW mb r E.length D E (Maps.has D) (Maps.size D) w' ∧ (∀ e ∈ E, Maps.has D (.int .i64 ((e.1 : Nat) : Int)) = true) := by
 obtain ⟨D, hown, hT, hh, ha⟩ := h
 refine ⟨D, hown, fun w' r hr => ⟨⟨hr, ha, fun k hk => ?_⟩, fun e he => ?_⟩⟩
 ·rw [hh] at hk
  obtain ⟨e, he, h2⟩ := List.any_eq_true.1 hk
  exact ⟨e, he, by simpa using h2⟩
 ·rw [hh]
  exact List.any_eq_true.2 ⟨e, he, by simp⟩
set_option maxRecDepth 100000 in
set_option maxHeartbeats 8000000 in
theorem all_any (t : Int) (mb sa uc ub : Nat) (p : Bool × Bool) (E : List (Nat × Bool × Bool)) (w : World) (hf : FW mb E w) :
  Calls Tryd.prog 49 #[sightV t mb sa uc ub, mkW p] w fun e w' => e = .returned (.bool (decide (∀ e ∈ E, e.2 = p))) ∧ Below w.heap.size w w' := by
 obtain ⟨p1, p2⟩ := p
 have HF := Lib.hid hf
 clear hf
 unfold sightV mkW
 simp only
 go_enter Tryd.func49, Tryd.ntmps49
 obtain ⟨D, hown, hrw⟩ := HF.out.rounds
 have hown2 := (hown.alloc (.cells #[.int .i64 t, .map (some mb), .int .i64 (sa : Nat), .int .i64 0, .int .i64 (uc : Nat), .int .i64 (ub : Nat)] 119)).alloc (.cells #[.bool p1, .bool p2] 124)
 have HRW := Lib.hid hrw
 have hb0 : Below w.heap.size w ((w.alloc (.cells #[.int .i64 t, .map (some mb), .int .i64 (sa : Nat), .int .i64 0, .int .i64 (uc : Nat), .int .i64 (ub : Nat)] 119)).alloc (.cells #[.bool p1, .bool p2] 124)) := blw
 have hw0 := row2 (w.alloc (.cells #[.int .i64 t, .map (some mb), .int .i64 (sa : Nat), .int .i64 0, .int .i64 (uc : Nat), .int .i64 (ub : Nat)] 119)) (.bool p1) (.bool p2) 124
 rw [World.size_alloc] at hw0
 have HW0 := Lib.hid hw0; have HB0 := Lib.hid hb0
 clear hrw hw0 hb0
 go_wp2_with (at_range; go_loud (refine wpList_range_own _ rfl _ 115 rfl 3 124 lawKI Tryd.underlying115 wayR mb E.length D rfl hown2 ?_))
 intro w1 hrg1 hg1 hs1
 have hw1 := (HW0.out.of_block (hg1.block _ (HW0.out.lt) (by simp)))
 have hb1 : Below w.heap.size w w1 := HB0.out.grown hg1 HB0.out.size (fun k e => by cases e)
 try simp only [World.size_alloc] at hrg1
 obtain ⟨hR1, hE1⟩ := HRW.out w1 _ hrg1
 have HR1 := Lib.hid hR1; have HE1 := Lib.hid hE1; have HW1 := Lib.hid hw1; have HB1 := Lib.hid hb1
 clear hw1 hb1 hrg1 hR1 hE1 hg1 hs1 HRW HW0 HB0 hown hown2 HF
 obtain ⟨q, hq⟩ : ∃ q, w.heap.size + 1 = q := ⟨_, rfl⟩
 have HQ : Hid (w.heap.size ≤ q) := Lib.hid (by omega)
 rw [hq] at HR1 HW1 ⊢
 clear hq
 go_wp2_with fail
 go_loopw [] (fun wr => ∃ (left : Lit → Bool) (cnt : Nat), Hid (RW mb (q + 1) E.length D E left cnt wr) ∧ Hid (∀ e ∈ E, left (.int .i64 ((e.1 : Nat) : Int)) = true ∨ e.2 = (p1, p2)) ∧ Hid (wr.rowIs q 124 2 (fun j => if j = 0 then .bool p1 else .bool p2)) ∧ Hid (Below w.heap.size w wr)) (fun wr => wr.rangeLeft mb (q + 1))
 case atStart => exact ⟨_, _, HR1, Lib.hid (fun e he => .inl (HE1.out e he)), HW1, HB1⟩
 case round =>
  clear HR1 HE1 HW1 HB1
  obtain ⟨left, cnt, HR, HL, HW, HB⟩ := hrel
  have hrg := HR.out.rg
  go_wp2_with (at_next; go_loud (refine wpList_next_ranges _ rfl _ rfl 3 lawKI wayR (Value.int .i64) mkV invKI invVW mb (q + 1) E.length D left cnt rfl hrg ?_ ?_))
  ·intro hc0 hl0
   have HV : Hid ((decide (∀ e ∈ E, e.2 = (p1, p2))) = true) := Lib.hid (decide_eq_true fun e he => (HL.out e he).resolve_left (by rw [hl0]; simp))
   clear hrg hc0 hl0
   go_wp2
   go_ret
   exact ⟨by rw [HV.out]; rfl, HB.out⟩
  ·intro x c kl ya yb w2 cnt2 hkey hlk hv hat hrg2 hlt hg2 hs2 hen
   obtain ⟨⟨c1, c2⟩⟩ := c
   obtain ⟨rfl, ⟨t9, hx, hmem⟩, hR2⟩ := HR.out.next hkey hlk hv hat hrg2
   unfold mkV mkW at hen ⊢
   simp only at hen ⊢
   have hw2 := HW.out.of_block (hg2.block q HW.out.lt (by intro e; injection e; omega))
   have hB2 := HB.out.grown hg2 HB.out.size (fun k e => by injection e with e; have := HQ.out; omega)
   have hR3 : RW mb (q + 1) E.length D E (fun z => left z && !z.sameKey (.int .i64 x)) cnt2 (w2.alloc (.cells #[.bool c1, .bool c2] 124)) := ⟨hR2.rg.alloc _, hR2.at_, hR2.lf⟩
   have hb3 : Below w2.heap.size w2 (w2.alloc (.cells #[.bool c1, .bool c2] 124)) := blw
   have hw3 := rowBelow hw2 hb3 hw2.lt
   have hB3 := hB2.trans (hb3.mono hB2.size)
   have q0 : w2.cell? ⟨q, 0, none⟩ = some (.bool p1) := hw2.cell (i := 0) (by omega)
   have q1 : w2.cell? ⟨q, 1, none⟩ = some (.bool p2) := hw2.cell (i := 1) (by omega)
   have lq : LtW q w2 := hw2.lt
   have HMEM := Lib.hid hmem
   have HME : Hid (wr.rangeLeft mb (q + 1) = cnt ∧ cnt2 < cnt ∧ (w2.alloc (.cells #[.bool c1, .bool c2] 124)).rangeLeft mb (q + 1) = cnt2) := Lib.hid ⟨hrg.left_eq, hlt, hR3.rg.left_eq⟩
   have HL3 : Hid ((c1, c2) = (p1, p2) → ∀ e ∈ E, (left (.int .i64 ((e.1 : Nat) : Int)) && !(Lit.int .i64 ((e.1 : Nat) : Int)).sameKey (.int .i64 x)) = true ∨ e.2 = (p1, p2)) := Lib.hid (fun hcp e he => by
    rcases HL.out e he with h | h
    ·by_cases hk : ((e.1 : Nat) : Int) = x
     ·right
      have h1 := HR.out.at_ e he (.lit (.int .i64 0))
      have h2 := HR.out.at_ _ hmem (.lit (.int .i64 0))
      simp only at h2
      rw [hk, hx, h2] at h1
      injection h1 with h1
      injection h1 with _ h1
      rw [← hcp]
      exact (codeW_inj h1).symm
     ·left
      rw [h, Bool.true_and, sameKey_ne (by intro e2; injection e2 with _ e2; exact hk e2)]
      rfl
    ·exact .inr h)
   have HR3 := Lib.hid hR3; have HW3 := Lib.hid hw3; have HB3 := Lib.hid hB3
   clear hR2 hR3 hw2 hw3 hB2 hB3 hb3 hmem hrg hkey hlk hv hat hrg2 hlt hg2 hs2 HR HW HB HL
   by_cases h1 : c1 = p1
   ·by_cases h2 : c2 = p2
    ·subst h1 h2
     have e1 : (c1 == c1) = true := by simp
     have e2 : (c2 == c2) = true := by simp
     have HL4 := Lib.hid (HL3.out rfl)
     go_wp2
     go_roundw
     case rel => exact ⟨_, cnt2, HR3, HL4, HW3, HB3⟩
     case measure =>
      have := HME.out
      omega
    ·subst h1
     have e1 : (c1 == c1) = true := by simp
     have e2 : (c2 == p2) = false := by simpa using h2
     have HV : Hid ((decide (∀ e ∈ E, e.2 = (c1, p2))) = false) := Lib.hid (decide_eq_false fun hall => h2 (congrArg (fun z : Bool × Bool => z.2) (hall _ HMEM.out)))
     go_wp2
     go_ret
     exact ⟨by rw [HV.out]; rfl, HB3.out⟩
   ·have e1 : (c1 == p1) = false := by simpa using h1
    have HV : Hid ((decide (∀ e ∈ E, e.2 = (p1, p2))) = false) := Lib.hid (decide_eq_false fun hall => h1 (congrArg Prod.fst (hall _ HMEM.out)))
    go_wp2
    go_ret
    exact ⟨by rw [HV.out]; rfl, HB3.out⟩
end
section
open Go.RowKit
open Go.Proofs.YtajdoobkfbdgoaaDoor.Z Go.Maps
namespace Z
def kbst (g a b c : Int) (st : Int × List Pt) (z : Pt) : Int × List Pt :=
 if z = (0, 0) ∨ latB a b c z = false then st else if st.1 = 0 ∨ nrm g z < st.1 then (nrm g z, [z]) else if nrm g z = st.1 then (st.1, st.2 ++ [z]) else st
def kwpt (k : Nat) : Pt := (((k % 145 : Nat) : Int) - 72, ((k / 145 : Nat) : Int) - 72)
def kshL (g a b c : Int) (k : Nat) : Int × List Pt := ((List.range k).map kwpt).foldl (kbst g a b c) (0, [])
theorem kshL_succ (g a b c : Int) (k : Nat) : kshL g a b c (k + 1) = kbst g a b c (kshL g a b c k) (kwpt k) := by
 unfold kshL
 rw [List.range_succ, List.map_append, List.foldl_append]
 rfl
theorem kwpt_at {i j : Nat} (hi : i < 145) : kwpt (j * 145 + i) = ((i : Int) - 72, (j : Int) - 72) := by
 unfold kwpt
 rw [show (j * 145 + i) % 145 = i by omega, show (j * 145 + i) / 145 = j by omega]
theorem kshL_bd {g : Int} (hg : G g) (a b c : Int) : ∀ k, k ≤ 21025 → 0 ≤ (kshL g a b c k).1 ∧ (kshL g a b c k).1 ≤ 20000 ∧ (kshL g a b c k).2.length ≤ k ∧ ∀ z ∈ (kshL g a b c k).2, (-72 ≤ z.1 ∧ z.1 ≤ 72) ∧ (-72 ≤ z.2 ∧ z.2 ≤ 72)
 | 0, _ => by simp [kshL]
 | k + 1, hk => by
  obtain ⟨h1, h2, h3, h4⟩ := kshL_bd hg a b c k (by omega)
  have hw : (-72 ≤ (kwpt k).1 ∧ (kwpt k).1 ≤ 72) ∧ (-72 ≤ (kwpt k).2 ∧ (kwpt k).2 ≤ 72) := by
   unfold kwpt
   simp only
   omega
  have hn := nrm_bd hg (a := kwpt k) (B := 72) hw.1 hw.2
  have hn0 := nrm_nonneg hg (kwpt k)
  rw [kshL_succ]
  unfold kbst
  split
  ·exact ⟨h1, h2, by omega, h4⟩
  ·split
   ·refine ⟨hn0, by omega, by simp, fun z hz => ?_⟩
    simp at hz
    subst hz
    exact hw
   ·split
    ·refine ⟨h1, h2, by rw [List.length_append, List.length_singleton]; omega, fun z hz => ?_⟩
     rcases List.mem_append.1 hz with h | h
     ·exact h4 z h
     ·simp at h
      subst h
      exact hw
    ·exact ⟨h1, h2, by omega, h4⟩
def alongB (g a b c : Int) (E : List (Nat × Bool × Bool)) : Bool := E.any fun e => (kshL g a b c 21025).2.any fun z => decide (rf g e.1 z = z)
end Z
theorem knorm (g x y : Int) (w : World) (hg : g = 4 ∨ g = 6) (hx : -100 ≤ x ∧ x ≤ 100) (hy : -100 ≤ y ∧ y ≤ 100) : ∃ q, Calls Tryd.prog 71 #[.int .i64 (g), .agg #[.int .i64 (x), .int .i64 (y)]] w fun r w' => r = .returned (.tuple #[.int .i64 (Z.nrm g (x, y)), .int .i64 (q)]) ∧ Below w.heap.size w w' := by
 have h := Norm_any g x y w (by omega) (by omega)
 have e : NV g x y = Z.nrm g (x, y) := by
  unfold NV Z.nrm
  rw [if_pos]
  simp [fltE, knB, smL, smB]
  omega
 rw [e] at h
 exact ⟨_, h⟩
theorem kapply2 (g : Int) (t : Nat) (x y : Int) (w : World) (hg : g = 4 ∨ g = 6) (ht : t < g.toNat) (hx : -100 ≤ x ∧ x ≤ 100) (hy : -100 ≤ y ∧ y ≤ 100) : ∃ q,
  Calls Tryd.prog 53 #[.int .i64 (g), .agg #[.int .i64 (t), .bool (true), .int .i64 (0), .int .i64 (0)], .agg #[.int .i64 (x), .int .i64 (y)]] w fun e w' => e = .returned (.tuple #[.agg #[.int .i64 ((rf g t (x, y)).1), .int .i64 ((rf g t (x, y)).2)], .int .i64 (q)]) ∧ Below w.heap.size w w' := by
 have hb := Z.rf_bd hg ht (x := x) (y := y) (B := 100) (by omega)
 have o1 : OkM g ⟨t, true, (0, 0)⟩ := ⟨hg, ht, by simp [smB]⟩
 have h3 : smB (To g ⟨t, true, (0,0)⟩ (x,y)).1 (To g ⟨t, true, (0,0)⟩ (x,y)).2 = true := by rw [rf_To]; simp [smB]; omega
 have h4 := apV_ok o1 (z := (x, y)) (by simp [smB]; omega)
 have h5 := Apply_any g t 0 0 x y true w (by omega) (by omega) (by omega) (by omega) (by omega) (by omega)
 simp only [tdX, tdY, tdE, h3, if_true] at h4
 rw [h4, rf_To] at h5
 exact ⟨0, h5⟩
end
end Go.Proofs.YtajdoobkfbdgoaaDoor
