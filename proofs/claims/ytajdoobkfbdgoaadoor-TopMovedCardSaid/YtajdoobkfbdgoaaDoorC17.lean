/- Lemmas on which the law of this seat rests; each states its own conditions. -/
import Derived.Test.YtajdoobkfbdgoaaDoorC16
import Derived.Test.YtajdoobkfbdgoaaDoorC07
import Derived.Lib.OthersKept
import Derived.Test.YtajdoobkfbdgoaaDoorC06
import Derived.Lib.DecodeN
set_option linter.unusedVariables false
set_option linter.unusedSimpArgs false
namespace Go.Proofs.YtajdoobkfbdgoaaDoor
section
open Go.RowKit
open Go.Proofs.YtajdoobkfbdgoaaDoor.Z Go.Maps
theorem waysF_keys {g : Int} {sa ub uc : Int} {gn : Nat} : ∀ {L : List Mv}, (∀ m ∈ L, m.t < gn) → ∀ E : List (Nat × Bool × Bool), (∀ e ∈ E, e.1 < gn) → ∀ e ∈ L.foldl (wayS g sa ub uc) E, e.1 < gn
 | [], _, E, h => h
 | f :: L, hL, E, h => by
  refine waysF_keys (fun m hm => hL m (by simp [hm])) (wayS g sa ub uc E f) ?_
  unfold wayS
  split
  ·exact h
  ·intro e he
   rcases List.mem_append.1 he with he | he
   ·exact h e he
   ·simp at he
    subst he
    exact hL f (by simp)
set_option maxRecDepth 100000 in
set_option maxHeartbeats 8000000 in
theorem FW.lenE {mb : Nat} {E : List (Nat × Bool × Bool)} {w : World} (h : FW mb E w) : ∃ n : Nat, (n = 0 ↔ E = []) ∧ ∀ w', Below w.heap.size w w' → ∀ ty, (Builtin.len_ #[115] ty #[.map (some mb)]).run Tryd.prog w' = .ok (.int .i64 (n)) w' := by
 obtain ⟨n, h1, h2⟩ := h.len 0
 obtain ⟨D, hown, hT, hh, ha⟩ := h
 have hn : ∀ w' ty, w'.heap[mb]? = w.heap[mb]? → (Builtin.len_ #[115] ty #[.map (some mb)]).run Tryd.prog w' = .ok (.int .i64 ((Maps.size D : Nat))) w' := fun w' ty hb => by
  obtain ⟨es, c, k1, k2⟩ := hown
  exact World.ownsMap.len (R := wayR) ⟨es, c, hb.trans k1, k2⟩ Tryd.underlying115 ty
 have e : Maps.size D = n := by
  have := (hn w 0 rfl).symm.trans h1
  injection this with this
  injection this with _ this
  omega
 refine ⟨n, h2, fun w' hb ty => ?_⟩
 rw [← e]
 exact hn w' ty (hb.block mb hown.lt)
set_option maxRecDepth 100000 in
set_option maxHeartbeats 8000000 in
theorem pick_any (ok : Bool) (x y : Int) (w : World) : Calls Tryd.prog 50 #[.bool ok, .int .i64 (x), .int .i64 (y)] w fun e w' => e = .returned (.int .i64 (if ok then x else y)) ∧ w' = w := by
 cases ok
 ·go_enter Tryd.func50, Tryd.ntmps50
  go_wp2
  go_ret
  exact ⟨rfl, rfl⟩
 ·go_enter Tryd.func50, Tryd.ntmps50
  go_wp2
  go_ret
  exact ⟨rfl, rfl⟩
theorem pick_K {ok : Bool} {x y : Int} {w : World} {Q : Ending → World → Prop} (h : ∀ k : Int, Hid (k = if ok = true then x else y) → Q (.returned (.int .i64 (k))) w) : Calls Tryd.prog 50 #[.bool ok, .int .i64 (x), .int .i64 (y)] w Q :=
 (pick_any ok x y w).mono (by rintro e w' ⟨rfl, rfl⟩; exact h _ (Lib.hid rfl))
theorem ite_dec {P : Prop} [Decidable P] {B : Bool} (h : decide P = B) (a b : Int) : (if P then a else b) = if B = true then a else b := by
 subst h
 by_cases hp : P <;> simp [hp]
set_option maxRecDepth 100000 in
set_option maxHeartbeats 8000000 in
theorem Kind_ok (G W H n N sa uc ub : Nat) (a : Option Addr) (c : Nat) (cs : List Int) (w : World) (hI : IsInts w a n cs) (h : ChOk G W H n cs) (hN : torN W H = N) (h24 : N ≤ 24) (h0 : 0 < N) (hS : Sid (stK W H cs G N) N sa) (hU : Upw (stK W H cs G N) N sa uc ub) :
  Calls Tryd.prog 19 #[.agg #[.int .i64 (G), .int .i64 (W), .int .i64 (H), .slice a n c]] w fun r w' => r = .returned (.tuple #[.int .i64 (kindP (turnsF (movesL W H cs G N)).length (alongB G sa ub uc (waysF G sa ub uc (movesL W H cs G N))) (waysF G sa ub uc (movesL W H cs G N))), .int .i64 (0)]) ∧ Below w.heap.size w w' := by
 have HL := Lib.hid (fun w hI => look_ok G W H n N sa uc ub a c cs w hI h hN h24 h0 hS hU)
 have HI := Lib.hid hI
 have hg := h.g
 have hd := Z.torN_dvd W H
 rw [hN] at hd
 have hgrp := movesL_grp (cs := cs) (g := (G : Int)) h0 hd.1 hd.2
 have HT : Hid (∀ e ∈ waysF G sa ub uc (movesL W H cs G N), e.1 < (G : Int).toNat) := Lib.hid (waysF_keys (fun m hm => hgrp.ok hm) _ (fun e he => by simp at he))
 have hsa1 := hS.a1; have hsaN := hS.an; have hub1 := hU.b1; have hubN := hU.bn; have hucs := hU.ca
 clear hI h hN hd hgrp hS hU
 obtain ⟨tn, htn⟩ : ∃ tn, (turnsF (movesL W H cs G N)).length = tn := ⟨_, rfl⟩
 obtain ⟨EW, hE⟩ : ∃ EW, waysF G sa ub uc (movesL W H cs G N) = EW := ⟨_, rfl⟩
 rw [htn, hE] at HL ⊢
 rw [hE] at HT
 clear htn hE
 obtain ⟨K, hK⟩ : ∃ K, kindP tn (alongB G sa ub uc EW) EW = K := ⟨_, rfl⟩
 rw [hK]
 have HK := Lib.hid hK
 clear hK
 go_enter Tryd.func19, Tryd.ntmps19
 go_wp2_with fail
 refine (HL.out _ (HI.out.below blw)).mono ?_
 rintro r w2 ⟨hb2, mb, rfl, hfw, hmb⟩
 have hr2 := rowBelow (row4 w (.int .i64 (G : Nat)) (.int .i64 (W : Nat)) (.int .i64 (H : Nat)) (.slice a n c) 25) hb2 (by simp)
 have HB2 : Hid (Below w.heap.size w w2) := Lib.hid (Below.trans blw (hb2.mono (by simp)))
 have HR2 := Lib.hid hr2; have HF2 := Lib.hid hfw
 clear hb2 hr2 hfw hmb HL
 unfold sightV
 go_wp2_with fail
 have hb3 : Below w2.heap.size w2 (w2.alloc (.cells #[.int .i64 (tn : Nat), .map (some mb), .int .i64 (sa : Nat), .int .i64 0, .int .i64 (uc : Nat), .int .i64 (ub : Nat)] 119)) := blw
 have hs3 := row6 w2 (.int .i64 (tn : Nat)) (.map (some mb)) (.int .i64 (sa : Nat)) (.int .i64 0) (.int .i64 (uc : Nat)) (.int .i64 (ub : Nat)) 119
 have hf3 := HF2.out.kept (hb3.block mb HF2.out.lt)
 have hr3 := rowBelow HR2.out hb3 HR2.out.lt
 have hB3 := HB2.out.trans (hb3.mono HB2.out.size)
 have HS3 := Lib.hid hs3; have HF3 := Lib.hid hf3; have HR3 := Lib.hid hr3; have HB3 := Lib.hid hB3
 clear hb3 hs3 hf3 hr3 hB3 HB2 HR2 HF2
 generalize w2.alloc (.cells #[.int .i64 (tn : Nat), .map (some mb), .int .i64 (sa : Nat), .int .i64 0, .int .i64 (uc : Nat), .int .i64 (ub : Nat)] 119) = w3 at *
 obtain ⟨sb, hsb⟩ : ∃ sb, w2.heap.size = sb := ⟨_, rfl⟩
 rw [hsb] at HS3 ⊢
 clear hsb
 obtain ⟨nE, hnE, hlenB⟩ := HF3.out.lenE
 have HNE := Lib.hid hnE
 have hlen : ∀ E' d' ty, (Builtin.len_ #[115] ty #[.map (some mb)]).run Tryd.prog (extW w3 E' d') = .ok (.int .i64 (nE)) (extW w3 E' d') := fun E' d' ty => hlenB _ (bExtW (Below.refl _ _) (Nat.le_refl _)) ty
 have HAL := Lib.hid (fun (w' : World) (hb : Below w3.heap.size w3 w') (u v : Bool) => by
  have := all_any (tn : Int) mb sa uc ub (u, v) EW w' (HF3.out.kept (hb.block mb HF3.out.lt))
  unfold sightV mkW at this
  exact this)
 have HA1 := Lib.hid (fun E' d' => HAL.out (extW w3 E' d') (bExtW (Below.refl _ _) (Nat.le_refl _)) true false)
 have HA2 := Lib.hid (fun E' d' => HAL.out (extW w3 E' d') (bExtW (Below.refl _ _) (Nat.le_refl _)) false true)
 have s0 : w3.cell? ⟨sb, 0, none⟩ = some (.int .i64 (tn : Nat)) := HS3.out.cell (i := 0) (by omega)
 have s1 : w3.cell? ⟨sb, 1, none⟩ = some (.map (some mb)) := HS3.out.cell (i := 1) (by omega)
 have s2 : w3.cell? ⟨sb, 2, none⟩ = some (.int .i64 (sa : Nat)) := HS3.out.cell (i := 2) (by omega)
 have s3 : w3.cell? ⟨sb, 3, none⟩ = some (.int .i64 0) := HS3.out.cell (i := 3) (by omega)
 have s4 : w3.cell? ⟨sb, 4, none⟩ = some (.int .i64 (uc : Nat)) := HS3.out.cell (i := 4) (by omega)
 have s5 : w3.cell? ⟨sb, 5, none⟩ = some (.int .i64 (ub : Nat)) := HS3.out.cell (i := 5) (by omega)
 have ls : LtW sb w3 := HS3.out.lt
 clear hlenB hnE
 obtain ⟨B1, hB1⟩ : ∃ B1, decide (∀ e ∈ EW, e.2 = (true, false)) = B1 := ⟨_, rfl⟩
 obtain ⟨B2, hB2⟩ : ∃ B2, decide (∀ e ∈ EW, e.2 = (false, true)) = B2 := ⟨_, rfl⟩
 rw [hB1] at HA1
 rw [hB2] at HA2
 have HD1 := Lib.hid hB1; have HD2 := Lib.hid hB2
 clear hB1 hB2
 (refine wp_region_ext (by kernel_rfl) (by kernel_rfl) ?_; (repeat (first | ((with_reducible refine ext_step (fun K hK => ?_)); go_simp; first | (refine hK _ ?_; clear hK K) | (apply Exists.intro; refine ⟨fun _ _ => ?_, hK _ ?_⟩; (go_at_call 49; first | with_reducible exact extOf (HA1.out _ _) | with_reducible exact extOf (HA2.out _ _)); clear hK K)))); refine wpQuiet_nil ?_; intro E d)
 obtain ⟨NB, hNB⟩ : ∃ NB, ((nE : Int) == 0) = NB := ⟨_, rfl⟩
 have HNB : Hid (decide (EW = []) = NB) := Lib.hid (by
  rw [← hNB]
  by_cases h : EW = []
  ·rw [decide_eq_true h, HNE.out.2 h]; rfl
  ·rw [decide_eq_false h]
   have : ¬ nE = 0 := fun h2 => h (HNE.out.1 h2)
   symm
   simp; omega)
 rw [hNB]
 have hb4 : Below w3.heap.size w3 (extW w3 E d) := bExtW (Below.refl _ _) (Nat.le_refl _)
 have HS4 := Lib.hid (rowBelow HS3.out hb4 HS3.out.lt)
 have HR4 := Lib.hid (rowBelow HR3.out hb4 HR3.out.lt)
 have HF4 := Lib.hid (HF3.out.kept (hb4.block mb HF3.out.lt))
 have HB4 := Lib.hid (HB3.out.trans (hb4.mono HB3.out.size))
 have HAL4 := Lib.hid (fun (w' : World) (hb : Below (extW w3 E d).heap.size (extW w3 E d) w') (u v : Bool) => HAL.out w' (hb4.trans (hb.mono hb4.size)) u v)
 clear hb4 s0 s1 s2 s3 s4 s5 ls hlen HA1 HA2 HAL hNB HS3 HR3 HF3 HB3 HNE
 generalize extW w3 E d = w4 at *
 have s0 : w4.cell? ⟨sb, 0, none⟩ = some (.int .i64 (tn : Nat)) := HS4.out.cell (i := 0) (by omega)
 have ls : LtW sb w4 := HS4.out.lt
 by_cases h1 : tn = 1
 ·subst h1
  have HKK : Hid (K = if NB = true then 1 else if B1 = true then 3 else if B2 = true then 4 else 5) := Lib.hid (by
   rw [← HK.out]
   unfold kindP
   rw [if_pos rfl, ite_dec HNB.out, ite_dec HD1.out, ite_dec HD2.out])
  go_wp2_with fail
  refine pick_K fun k1 H1 => ?_
  go_wp2_with fail
  refine pick_K fun k2 H2 => ?_
  go_wp2_with fail
  refine pick_K fun k3 H3 => ?_
  go_wp2
  refine bodyPost_ret (v := .tuple #[.int .i64 (k3), .int .i64 (0)]) (by simp [results, Tryd.results19, go_sem]) rfl ?_
  exact ⟨by rw [HKK.out, H3.out, H2.out, H1.out], HB4.out⟩
 ·have n1 : ((tn : Int) == 1) = false := by simp; omega
  have n1' : ¬ tn = 1 := h1
  have s1 : w4.cell? ⟨sb, 1, none⟩ = some (.map (some mb)) := HS4.out.cell (i := 1) (by omega)
  have s2 : w4.cell? ⟨sb, 2, none⟩ = some (.int .i64 (sa : Nat)) := HS4.out.cell (i := 2) (by omega)
  have s3 : w4.cell? ⟨sb, 3, none⟩ = some (.int .i64 0) := HS4.out.cell (i := 3) (by omega)
  have s4 : w4.cell? ⟨sb, 4, none⟩ = some (.int .i64 (uc : Nat)) := HS4.out.cell (i := 4) (by omega)
  have s5 : w4.cell? ⟨sb, 5, none⟩ = some (.int .i64 (ub : Nat)) := HS4.out.cell (i := 5) (by omega)
  by_cases h2 : tn = 2
  ·subst h2
   obtain ⟨B3, hB3⟩ : ∃ B3, decide (∀ e ∈ EW, e.2 = (true, true)) = B3 := ⟨_, rfl⟩
   have HA3 := Lib.hid (HAL4.out w4 (Below.refl _ _) true true)
   rw [hB3] at HA3
   have HKK : Hid (K = if NB = true then 2 else if B1 = true then 6 else if B2 = true then 8 else if B3 = true then 9 else 7) := Lib.hid (by
    rw [← HK.out]
    unfold kindP
    rw [if_neg (by omega), if_pos rfl, ite_dec HNB.out, ite_dec HD1.out, ite_dec HD2.out, ite_dec hB3])
   clear hB3 h1 n1 n1'
   go_wp2_with fail
   refine HA3.out.mono ?_
   rintro r w5 ⟨rfl, hb5⟩
   have HB5 := Lib.hid (HB4.out.trans (hb5.mono HB4.out.size))
   clear hb5 s0 s1 s2 s3 s4 s5 ls
   go_wp2_with fail
   refine pick_K fun k1 H1 => ?_
   go_wp2_with fail
   refine pick_K fun k2 H2 => ?_
   go_wp2_with fail
   refine pick_K fun k3 H3 => ?_
   go_wp2_with fail
   refine pick_K fun k4 H4 => ?_
   go_wp2
   refine bodyPost_ret (v := .tuple #[.int .i64 (k4), .int .i64 (0)]) (by simp [results, Tryd.results19, go_sem]) rfl ?_
   exact ⟨by rw [HKK.out, H4.out, H3.out, H2.out, H1.out], HB5.out⟩
  ·have n2 : ((tn : Int) == 2) = false := by simp; omega
   have n2' : ¬ tn = 2 := h2
   by_cases h3 : tn = 3
   ·subst h3
    obtain ⟨B3, hB3⟩ : ∃ B3, alongB G sa ub uc EW = B3 := ⟨_, rfl⟩
    have hal := along_any ((3 : Nat) : Int) G mb sa uc ub EW w4 (by omega) HF4.out HT.out (by omega) (by omega) (by omega)
    rw [hB3] at hal
    unfold sightV at hal
    have HA3 := Lib.hid hal
    have HKK : Hid (K = if NB = true then 13 else if B3 = true then 15 else 14) := Lib.hid (by
     rw [← HK.out, hB3]
     unfold kindP
     rw [if_neg (by omega), if_neg (by omega), if_pos rfl, ite_dec HNB.out])
    have c0 : w4.cell? ⟨w.heap.size, 0, none⟩ = some (.int .i64 (G : Nat)) := HR4.out.cell (i := 0) (by omega)
    have lc : LtW w.heap.size w4 := HR4.out.lt
    clear hB3 hal h1 h2 n1 n1' n2 n2'
    go_wp2_with fail
    refine HA3.out.mono ?_
    rintro r w5 ⟨rfl, hb5⟩
    have HB5 := Lib.hid (HB4.out.trans (hb5.mono HB4.out.size))
    clear hb5 s0 s1 s2 s3 s4 s5 ls c0 lc
    go_wp2_with fail
    refine pick_K fun k1 H1 => ?_
    go_wp2_with fail
    refine pick_K fun k2 H2 => ?_
    go_wp2
    refine bodyPost_ret (v := .tuple #[.int .i64 (k2), .int .i64 (0)]) (by simp [results, Tryd.results19, go_sem]) rfl ?_
    exact ⟨by rw [HKK.out, H2.out, H1.out], HB5.out⟩
   ·have n3 : ((tn : Int) == 3) = false := by simp; omega
    have n3' : ¬ tn = 3 := h3
    by_cases h4 : tn = 4
    ·subst h4
     have HKK : Hid (∀ sm : Bool, (sm = true → ∀ e ∈ EW, e.2.1 = true) → (sm = false → ∃ e ∈ EW, e.2.1 = false) → K = if NB = true then 10 else if sm = true then 11 else 12) := Lib.hid (fun sm hs1 hs2 => by
      rw [← HK.out]
      unfold kindP
      rw [if_neg (by omega), if_neg (by omega), if_neg (by omega), if_pos rfl, ite_dec HNB.out]
      have : decide (∀ e ∈ EW, e.2.1 = true) = sm := by
       cases sm
       ·refine decide_eq_false fun h => ?_
        obtain ⟨e, he, h9⟩ := hs2 rfl
        rw [h e he] at h9
        cases h9
       ·exact decide_eq_true (hs1 rfl)
      rw [ite_dec this])
     obtain ⟨D, hown, hrw⟩ := HF4.out.rounds
     have HRW := Lib.hid hrw
     obtain ⟨rb, hrb⟩ : ∃ rb, w4.heap.size = rb := ⟨_, rfl⟩
     have HRB : Hid (w.heap.size ≤ rb) := Lib.hid (by rw [← hrb]; exact HB4.out.size)
     clear hrw h1 h2 h3 n1 n1' n2 n2' n3 n3'
     go_wp2_with (at_range; go_loud (refine wpList_range_own _ rfl _ 115 rfl 3 124 lawKI Tryd.underlying115 wayR mb EW.length D rfl hown ?_))
     intro w5 hrg5 hg5 hs5
     obtain ⟨hR5, hE5⟩ := HRW.out w5 _ hrg5
     have hB5 := HB4.out.grown hg5 HB4.out.size (fun k e => by cases e)
     try rw [hrb] at hR5
     try rw [hrb]
     have HR5 := Lib.hid hR5; have HE5 := Lib.hid hE5; have HB5 := Lib.hid hB5
     clear hR5 hE5 hB5 hrb hrg5 hg5 hs5 HRW hown s0 s1 s2 s3 s4 s5 ls HS4 HR4 HF4 HB4 HAL4
     go_wp2_with fail
     go_loopw [10] (fun bv wr => ∃ (left : Lit → Bool) (cnt : Nat) (sm : Bool), bv = .bool sm ∧ Hid (RW mb rb EW.length D EW left cnt wr) ∧ Hid (sm = true → ∀ e ∈ EW, left (.int .i64 ((e.1 : Nat) : Int)) = true ∨ e.2.1 = true) ∧ Hid (sm = false → ∃ e ∈ EW, e.2.1 = false) ∧ Hid (Below w.heap.size w wr)) (fun _ wr => wr.rangeLeft mb rb)
     case atStart => exact ⟨_, _, true, rfl, HR5, Lib.hid (fun _ e he => .inl (HE5.out e he)), Lib.hid (fun h => by cases h), HB5⟩
     case round =>
      clear HR5 HE5 HB5
      obtain ⟨left, cnt, sm, rfl, HR, HL, HN, HB⟩ := hrel
      have hrg := HR.out.rg
      go_wp2_with (at_next; go_loud (refine wpList_next_ranges _ rfl _ rfl 3 lawKI wayR (Value.int .i64) mkV invKI invVW mb rb EW.length D left cnt rfl hrg ?_ ?_))
      ·intro hc0 hl0
       have HV := Lib.hid (HKK.out sm (fun h e he => (HL.out h e he).resolve_left (by rw [hl0]; simp)) HN.out)
       clear hrg hc0 hl0
       go_wp2_with fail
       refine pick_K fun k1 H1 => ?_
       go_wp2_with fail
       refine pick_K fun k2 H2 => ?_
       go_wp2
       refine bodyPost_ret (v := .tuple #[.int .i64 (k2), .int .i64 (0)]) (by simp [results, Tryd.results19, go_sem]) rfl ?_
       exact ⟨by rw [HV.out, H2.out, H1.out], HB.out⟩
      ·intro x c kl ya yb w3 cnt2 hkey hlk hv hat hrg2 hlt hg2 hs2 hen
       obtain ⟨⟨c1, c2⟩⟩ := c
       obtain ⟨rfl, ⟨t9, rfl, hmem⟩, hR2⟩ := HR.out.next hkey hlk hv hat hrg2
       unfold mkV mkW at hen ⊢
       simp only at hen ⊢
       have hB2 := HB.out.grown hg2 HB.out.size (fun k e => by injection e with e; have := HRB.out; omega)
       have hb3 : Below w3.heap.size w3 (w3.alloc (.cells #[.bool c1, .bool c2] 124)) := blw
       have HR3 := Lib.hid (hR2.below hb3)
       have HB3 := Lib.hid (hB2.trans (hb3.mono hB2.size))
       have HME : Hid (wr.rangeLeft mb rb = cnt ∧ cnt2 < cnt ∧ (w3.alloc (.cells #[.bool c1, .bool c2] 124)).rangeLeft mb rb = cnt2) := Lib.hid ⟨hrg.left_eq, hlt, HR3.out.rg.left_eq⟩
       have HL3 : Hid ((sm && c1) = true → ∀ e ∈ EW, (left (.int .i64 ((e.1 : Nat) : Int)) && !(Lit.int .i64 ((e.1 : Nat) : Int)).sameKey (.int .i64 (t9 : Int))) = true ∨ e.2.1 = true) := Lib.hid (fun hcp e he => by
        rw [Bool.and_eq_true] at hcp
        rcases HL.out hcp.1 e he with h | h
        ·by_cases hk : e.1 = t9
         ·right
          have h1 := HR.out.at_ e he (.lit (.int .i64 0))
          have h2 := HR.out.at_ _ hmem (.lit (.int .i64 0))
          simp only at h2
          rw [hk, h2] at h1
          injection h1 with h1
          injection h1 with _ h1
          rw [← codeW_inj h1]
          exact hcp.2
         ·left
          rw [h, Bool.true_and, sameKey_ne (by intro e2; injection e2 with _ e2; exact hk (by omega))]
          rfl
        ·exact .inr h)
       have HN3 : Hid ((sm && c1) = false → ∃ e ∈ EW, e.2.1 = false) := Lib.hid (fun h => by
        cases hsm : sm
        ·exact HN.out hsm
        ·rw [hsm, Bool.true_and] at h
         exact ⟨_, hmem, h⟩)
       clear hR2 hB2 hb3 hmem hrg hkey hlk hv hat hrg2 hlt hg2 hs2 HR HB HL HN
       cases sm
       ·go_wp2
        go_roundw
        case rel => exact ⟨_, cnt2, false, rfl, HR3, HL3, HN3, HB3⟩
        case measure =>
         have := HME.out
         omega
       ·go_wp2
        go_roundw
        case rel => exact ⟨_, cnt2, c1, rfl, HR3, by simpa using HL3, by simpa using HN3, HB3⟩
        case measure =>
         have := HME.out
         omega
    ·have n4 : ((tn : Int) == 4) = false := by simp; omega
     have n4' : ¬ tn = 4 := h4
     have HKK : Hid (K = if NB = true then 16 else 17) := Lib.hid (by
      rw [← HK.out]
      unfold kindP
      rw [if_neg h1, if_neg h2, if_neg h3, if_neg h4, ite_dec HNB.out])
     clear h1 h2 h3 h4
     go_wp2_with fail
     refine pick_K fun k1 H1 => ?_
     go_wp2
     refine bodyPost_ret (v := .tuple #[.int .i64 (k1), .int .i64 (0)]) (by simp [results, Tryd.results19, go_sem]) rfl ?_
     exact ⟨by rw [HKK.out, H1.out], HB4.out⟩
end
section
open Go.RowKit
def skipK (n : Nat) : Nat := if 17 ≤ n then n + 1 else n
def signK (c : Nat) : Nat := if c = 0 then 183 else if c = 1 then 9608 else if c < 12 then 46 + c else if c < 36 then 945 + skipK (c - 12) else 61 + c
set_option maxRecDepth 100000 in
set_option maxHeartbeats 8000000 in
theorem skipped_ok (n : Nat) (w : World) (hn : n < 62) :
  Calls Tryd.prog 65 #[.int .i64 (n)] w fun e w' => e = .returned (.int .i64 (skipK n)) ∧ Below w.heap.size w w' := by
 have v1 : IntKind.i64.wrap ((n : Int) + 1) = (n : Int) + 1 := IntWalk.i64_in _ (by omega)
 by_cases h : 17 ≤ n
 ·have hd : decide ((n : Int) ≥ 17) = true := by simp; omega
  have hk : (skipK n : Int) = n + 1 := by unfold skipK; rw [if_pos h]; rfl
  rw [hk]
  clear hk
  go_enter Tryd.func65, Tryd.ntmps65
  go_wp2
  go_ret
  exact ⟨rfl, blw⟩
 ·have hd : decide ((n : Int) ≥ 17) = false := by simp; omega
  have hk : (skipK n : Int) = n := by unfold skipK; rw [if_neg h]
  rw [hk]
  clear hk
  go_enter Tryd.func65, Tryd.ntmps65
  go_wp2
  go_ret
  exact ⟨rfl, blw⟩
set_option maxRecDepth 100000 in
set_option maxHeartbeats 8000000 in
theorem sign_ok (c : Nat) (w : World) (hn : c < 62) :
  Calls Tryd.prog 43 #[.int .i64 (c)] w fun e w' => e = .returned (.int .i32 (signK c)) ∧ Below w.heap.size w w' := by
 by_cases h0 : c = 0
 ·subst h0
  go_enter Tryd.func43, Tryd.ntmps43
  go_wp2
  go_ret
  exact ⟨rfl, blw⟩
 have d0 : ((c : Int) == 0) = false := by simp; omega
 by_cases h1 : c = 1
 ·subst h1
  go_enter Tryd.func43, Tryd.ntmps43
  go_wp2
  go_ret
  exact ⟨rfl, blw⟩
 have d1 : ((c : Int) == 1) = false := by simp; omega
 by_cases h2 : c < 12
 ·have d2 : decide ((c : Int) < 12) = true := by simp; omega
  have e : (signK c : Int) = 48 + c - 2 := by unfold signK; rw [if_neg h0, if_neg h1, if_pos h2]; omega
  have v1 : IntKind.i64.wrap (48 + (c : Int)) = 48 + c := IntWalk.i64_in _ (by omega)
  have v2 : IntKind.i64.wrap (48 + (c : Int) - 2) = 48 + c - 2 := IntWalk.i64_in _ (by omega)
  have v3 : IntKind.i32.wrap (48 + (c : Int) - 2) = 48 + c - 2 := IntWalk.i32_in _ (by omega)
  rw [e]
  clear e h0 h1 h2
  go_enter Tryd.func43, Tryd.ntmps43
  go_wp2
  go_ret
  exact ⟨rfl, blw⟩
 have d2 : decide ((c : Int) < 12) = false := by simp; omega
 by_cases h3 : c < 36
 ·have d3 : decide ((c : Int) < 36) = true := by simp; omega
  obtain ⟨k, rfl⟩ : ∃ k, c = k + 12 := ⟨c - 12, by omega⟩
  have hk : skipK k ≤ 24 := by unfold skipK; split <;> omega
  have HS := Lib.hid (fun w => skipped_ok k w (by omega))
  have e : (signK (k + 12) : Int) = 945 + skipK k := by unfold signK; rw [if_neg h0, if_neg h1, if_neg h2, if_pos h3, Nat.add_sub_cancel]; push_cast; rfl
  obtain ⟨s, hs⟩ : ∃ s, skipK k = s := ⟨_, rfl⟩
  rw [hs] at e hk HS
  have v0 : IntKind.i64.wrap (((k + 12 : Nat) : Int) - 12) = (k : Int) := by rw [IntWalk.i64_in _ (by omega)]; omega
  have v1 : IntKind.i64.wrap (945 + (s : Int)) = 945 + s := IntWalk.i64_in _ (by omega)
  have v3 : IntKind.i32.wrap (945 + (s : Int)) = 945 + s := IntWalk.i32_in _ (by omega)
  rw [e]
  clear e h0 h1 h2 hs
  generalize ((k + 12 : Nat) : Int) = C at *
  go_enter Tryd.func43, Tryd.ntmps43
  (go_wp2_with fail; refine (HS.out _).mono ?_; rintro r w1 ⟨rfl, hb⟩; obtain ⟨E, d, rfl⟩ := bExt hb; clear hb)
  go_wp2
  go_ret
  exact ⟨rfl, blw⟩
 ·have d3 : decide ((c : Int) < 36) = false := by simp; omega
  have e : (signK c : Int) = 97 + c - 36 := by unfold signK; rw [if_neg h0, if_neg h1, if_neg h2, if_neg h3]; omega
  have v1 : IntKind.i64.wrap (97 + (c : Int)) = 97 + c := IntWalk.i64_in _ (by omega)
  have v2 : IntKind.i64.wrap (97 + (c : Int) - 36) = 97 + c - 36 := IntWalk.i64_in _ (by omega)
  have v3 : IntKind.i32.wrap (97 + (c : Int) - 36) = 97 + c - 36 := IntWalk.i32_in _ (by omega)
  rw [e]
  clear e h0 h1 h2 h3
  go_enter Tryd.func43, Tryd.ntmps43
  go_wp2
  go_ret
  exact ⟨rfl, blw⟩
end
section
open Go.RowKit
def sigS (c : Nat) : ByteArray := Utf8.encode (signK c)
end
section
open Go.RowKit
namespace By
def bytesOf (s : ByteArray) : List Nat := s.data.toList.map UInt8.toNat
theorem bytesOf_len (s : ByteArray) : (bytesOf s).length = s.size := by
 unfold bytesOf ByteArray.size
 rw [List.length_map, Array.length_toList]
theorem bytesOf_lt (s : ByteArray) : ∀ x ∈ bytesOf s, x < 256 := by
 intro x hx
 simp only [bytesOf, List.mem_map] at hx
 obtain ⟨y, _, rfl⟩ := hx
 exact y.toNat_lt
theorem bytesOf_extract (s : ByteArray) (a n : Nat) (h : a + n ≤ s.size) : bytesOf (s.extract a (a + n)) = ((bytesOf s).drop a).take n := by
 unfold bytesOf
 rw [ByteArray.data_extract, Array.toList_extract, ← List.map_drop, ← List.map_take]
 congr 1
 simp [List.extract, Nat.add_sub_cancel_left]
theorem bytesOf_get! (s : ByteArray) (k : Nat) : (s.get! k).toNat = (bytesOf s).getD k 0 := by
 by_cases h : k < s.size
 ·have hk : k < s.data.toList.length := by rw [Array.length_toList]; exact h
  have hk2 : k < s.data.size := h
  unfold bytesOf
  rw [List.getD_eq_getElem?_getD, List.getElem?_map, List.getElem?_eq_getElem hk]
  show (s.data[k]!).toNat = _
  rw [getElem!_pos s.data k hk2]
  rfl
 ·have hk : ¬ k < s.data.toList.length := by rw [Array.length_toList]; exact h
  have hk2 : ¬ k < s.data.size := h
  unfold bytesOf
  rw [List.getD_eq_getElem?_getD, List.getElem?_map, List.getElem?_eq_none (by omega)]
  show (s.data[k]!).toNat = _
  rw [getElem!_neg s.data k hk2]
  rfl
def encN (r : Nat) : List Nat := if r < 128 then [r] else if r < 2048 then [192 + r / 64, 128 + r % 64] else [224 + r / 4096, 128 + r / 64 % 64, 128 + r % 64]
def sgL (k : Nat) : List Nat := encN (signK k)
theorem sigS_L : ∀ k : Fin 62, bytesOf (sigS k) = sgL k := by decide +kernel
theorem encN_len (r : Nat) : 1 ≤ (encN r).length ∧ (encN r).length ≤ 3 := by unfold encN; split <;> (try split) <;> simp
def decL (B : List Nat) (i : Nat) : Nat × Nat := Go.Lib.decodeN (B.length - i) (B.getD i 0) (B.getD (i + 1) 0) (B.getD (i + 2) 0) (B.getD (i + 3) 0)
theorem dec_L (s : ByteArray) (i : Nat) : Utf8.decode s i = decL (bytesOf s) i := by
 rw [Go.Lib.decode_at]
 unfold decL
 rw [bytesOf_len, bytesOf_get!, bytesOf_get!, bytesOf_get!, bytesOf_get!]
def hasAt (B : List Nat) (i : Nat) (l : List Nat) : Prop := (B.drop i).take l.length = l
instance (B : List Nat) (i : Nat) (l : List Nat) : Decidable (hasAt B i l) := by unfold hasAt; infer_instance
theorem hasAt_iff {B : List Nat} {i : Nat} {l : List Nat} : hasAt B i l ↔ (l = [] ∨ i + l.length ≤ B.length) ∧ ∀ j, j < l.length → B.getD (i + j) 0 = l.getD j 0 := by
 unfold hasAt
 constructor
 ·intro h
  have hl := congrArg List.length h
  rw [List.length_take, List.length_drop] at hl
  refine ⟨?_, fun j hj => ?_⟩
  ·cases l with
   | nil => exact .inl rfl
   | cons x l => right; have h4 : 0 < (x :: l).length := Nat.succ_pos _; omega
  ·have h2 : ((B.drop i).take l.length).getD j 0 = l.getD j 0 := by rw [h]
   rw [← h2, List.getD_eq_getElem?_getD, List.getD_eq_getElem?_getD, List.getElem?_take, if_pos hj, List.getElem?_drop]
 ·rintro ⟨h1, h2⟩
  rcases h1 with rfl | h1
  ·simp
  ·apply List.ext_getElem?
   intro j
   rw [List.getElem?_take]
   by_cases hj : j < l.length
   ·rw [if_pos hj, List.getElem?_drop]
    have h3 := h2 j hj
    rw [List.getD_eq_getElem?_getD, List.getD_eq_getElem?_getD, List.getElem?_eq_getElem (by omega), List.getElem?_eq_getElem hj] at h3
    rw [List.getElem?_eq_getElem (by omega), List.getElem?_eq_getElem hj]
    exact congrArg some h3
   ·rw [if_neg hj, List.getElem?_eq_none (by omega)]
theorem getD_lt {B : List Nat} (hB : ∀ x ∈ B, x < 256) (i : Nat) : B.getD i 0 < 256 := by
 rw [List.getD_eq_getElem?_getD]
 cases h : B[i]? with
 | none => simp
 | some x => exact hB x (List.mem_of_getElem? h)
set_option maxHeartbeats 4000000 in
theorem decN_iff {n b0 b1 b2 b3 r : Nat} (h0 : b0 < 256) (h1 : b1 < 256) (h2 : b2 < 256) (h3 : b3 < 256) (hr : r < 55296) :
  ((Go.Lib.decodeN n b0 b1 b2 b3).1 = r ↔ if r < 128 then b0 = r else if r < 2048 then 1 < n ∧ b0 = 192 + r / 64 ∧ b1 = 128 + r % 64 else 2 < n ∧ b0 = 224 + r / 4096 ∧ b1 = 128 + r / 64 % 64 ∧ b2 = 128 + r % 64) := by
 unfold Go.Lib.decodeN
 repeat' split
 all_goals first | omega | (simp only; omega) | (simp only; done)
set_option maxHeartbeats 4000000 in
theorem decN_len {n b0 b1 b2 b3 r : Nat} (h0 : b0 < 256) (h1 : b1 < 256) (h2 : b2 < 256) (h3 : b3 < 256) (hr : r < 55296) (h : (Go.Lib.decodeN n b0 b1 b2 b3).1 = r) :
  (Go.Lib.decodeN n b0 b1 b2 b3).2 = if r < 128 then 1 else if r < 2048 then 2 else 3 := by
 have m1 := Nat.mod_lt b0 (show 0 < 32 by omega)
 have m2 := Nat.mod_lt b0 (show 0 < 16 by omega)
 have m4 := Nat.mod_lt b1 (show 0 < 64 by omega)
 have m5 := Nat.mod_lt b2 (show 0 < 64 by omega)
 revert h
 unfold Go.Lib.decodeN
 generalize b0 % 32 = x1 at *
 generalize b0 % 16 = x2 at *
 generalize b1 % 64 = x4 at *
 generalize b2 % 64 = x5 at *
 repeat' split
 all_goals first | omega | (simp only; omega) | (simp only; done)
theorem enc_iff {B : List Nat} {i r : Nat} : hasAt B i (encN r) ↔ i < B.length ∧ (if r < 128 then B.getD i 0 = r else if r < 2048 then 1 < B.length - i ∧ B.getD i 0 = 192 + r / 64 ∧ B.getD (i + 1) 0 = 128 + r % 64 else 2 < B.length - i ∧ B.getD i 0 = 224 + r / 4096 ∧ B.getD (i + 1) 0 = 128 + r / 64 % 64 ∧ B.getD (i + 2) 0 = 128 + r % 64) := by
 rw [hasAt_iff]
 unfold encN
 split
 ·constructor
  ·rintro ⟨h1, h2⟩
   have := h2 0 (by simp)
   simp at h1 this
   exact ⟨by omega, this⟩
  ·rintro ⟨h1, h2⟩
   refine ⟨.inr (by simp; omega), fun j hj => ?_⟩
   simp at hj
   subst hj
   exact h2
 ·split
  ·constructor
   ·rintro ⟨h1, h2⟩
    have a0 := h2 0 (by simp)
    have a1 := h2 1 (by simp)
    simp at h1 a0 a1
    exact ⟨by omega, by omega, a0, a1⟩
   ·rintro ⟨h1, h2, h3, h4⟩
    refine ⟨.inr (by simp; omega), fun j hj => ?_⟩
    simp at hj
    have : j = 0 ∨ j = 1 := by omega
    rcases this with rfl | rfl
    ·exact h3
    ·exact h4
  ·constructor
   ·rintro ⟨h1, h2⟩
    have a0 := h2 0 (by simp)
    have a1 := h2 1 (by simp)
    have a2 := h2 2 (by simp)
    simp at h1 a0 a1 a2
    exact ⟨by omega, by omega, a0, a1, a2⟩
   ·rintro ⟨h1, h2, h3, h4, h5⟩
    refine ⟨.inr (by simp; omega), fun j hj => ?_⟩
    simp at hj
    have : j = 0 ∨ j = 1 ∨ j = 2 := by omega
    rcases this with rfl | rfl | rfl
    ·exact h3
    ·exact h4
    ·exact h5
theorem has_dec {B : List Nat} (hB : ∀ x ∈ B, x < 256) {i r : Nat} (hr : r < 55296) : hasAt B i (encN r) ↔ i < B.length ∧ (decL B i).1 = r := by
 rw [enc_iff]
 unfold decL
 rw [decN_iff (getD_lt hB _) (getD_lt hB _) (getD_lt hB _) (getD_lt hB _) hr]
theorem dec_len {B : List Nat} (hB : ∀ x ∈ B, x < 256) {i r : Nat} (hr : r < 55296) (h : (decL B i).1 = r) : (decL B i).2 = (encN r).length := by
 unfold decL at h ⊢
 rw [decN_len (getD_lt hB _) (getD_lt hB _) (getD_lt hB _) (getD_lt hB _) hr h]
 unfold encN
 split <;> (try split) <;> rfl
theorem sign_lt' : ∀ c : Fin 62, signK c < 55296 ∧ signK c ≠ 10 := by decide +kernel
theorem sign_inj : ∀ a b : Fin 62, signK a = signK b → a = b := by decide +kernel
def colAt (B : List Nat) (i : Nat) : Option Nat := (List.range 62).find? fun k => decide (hasAt B i (sgL k))
theorem colAt_some {B : List Nat} (hB : ∀ x ∈ B, x < 256) {i k : Nat} : colAt B i = some k ↔ k < 62 ∧ hasAt B i (sgL k) := by
 unfold colAt
 constructor
 ·intro h
  have h1 := List.find?_some h
  have h2 := List.mem_of_find?_eq_some h
  exact ⟨List.mem_range.1 h2, of_decide_eq_true h1⟩
 ·rintro ⟨hk, h⟩
  cases hc : (List.range 62).find? fun k => decide (hasAt B i (sgL k)) with
  | none =>
   have := List.find?_eq_none.1 hc k (List.mem_range.2 hk)
   simp [h] at this
  | some j =>
   have h1' := List.find?_some hc
   have h1 := of_decide_eq_true h1'
   have h2 := List.mem_range.1 (List.mem_of_find?_eq_some hc)
   have e1 := ((has_dec hB (sign_lt' ⟨j, h2⟩).1).1 h1).2
   have e2 := ((has_dec hB (sign_lt' ⟨k, hk⟩).1).1 h).2
   have := sign_inj ⟨j, h2⟩ ⟨k, hk⟩ (e1.symm.trans e2)
   simp only [Fin.mk.injEq] at this
   rw [this]
theorem colAt_none {B : List Nat} {i : Nat} : colAt B i = none ↔ ∀ k, k < 62 → ¬ hasAt B i (sgL k) := by
 unfold colAt
 rw [List.find?_eq_none]
 exact ⟨fun h k hk => by simpa using h k (List.mem_range.2 hk), fun h k hk => by simpa using h k (List.mem_range.1 hk)⟩
end By
end
section
open Go.RowKit
namespace By
theorem hasAt_app {B l l' : List Nat} {i : Nat} (h : hasAt B i l) (h' : hasAt B (i + l.length) l') : hasAt B i (l ++ l') := by
 unfold hasAt at *
 have e : B.drop (i + l.length) = (B.drop i).drop l.length := by rw [List.drop_drop]
 rw [e] at h'
 rw [List.length_append, List.take_add, h, h']
theorem hasAt_left {B l l' : List Nat} {i : Nat} (h : hasAt B i (l ++ l')) : hasAt B i l := by
 unfold hasAt at *
 have h2 := congrArg (List.take l.length) h
 rw [List.take_take, Nat.min_eq_left (by rw [List.length_append]; omega), List.take_left'] at h2
 ·exact h2
 ·rfl
theorem hasAt_right {B l l' : List Nat} {i : Nat} (h : hasAt B i (l ++ l')) : hasAt B (i + l.length) l' := by
 unfold hasAt at *
 have h2 := congrArg (List.drop l.length) h
 rw [List.drop_take, List.drop_drop, List.length_append, Nat.add_sub_cancel_left, List.drop_left'] at h2
 ·exact h2
 ·rfl
theorem hasAt_nil (B : List Nat) (i : Nat) : hasAt B i [] := by unfold hasAt; simp
theorem hasAt_bd {B l : List Nat} {i : Nat} (h : hasAt B i l) (hl : l ≠ []) : i + l.length ≤ B.length := by
 rcases (hasAt_iff.1 h).1 with h1 | h1
 ·exact absurd h1 hl
 ·exact h1
theorem sgL_len (k : Nat) : 1 ≤ (sgL k).length ∧ (sgL k).length ≤ 3 := encN_len _
theorem sgL_ne (k : Nat) : sgL k ≠ [] := fun e => by have := (sgL_len k).1; rw [e] at this; simp at this
theorem col_nl {B : List Nat} (hB : ∀ x ∈ B, x < 256) {i : Nat} (h : hasAt B i [10]) : colAt B i = none := by
 rw [colAt_none]
 intro k hk h2
 have e1 : encN 10 = [10] := rfl
 rw [← e1] at h
 have a := ((has_dec hB (by omega)).1 h).2
 have b := ((has_dec hB (sign_lt' ⟨k, hk⟩).1).1 h2).2
 exact (sign_lt' ⟨k, hk⟩).2 (b.symm.trans a)
inductive RowR where
 | bad (at_ : Nat)
 | ok (row : List Nat) (at_ : Nat)
def rowF (B : List Nat) : Nat → Nat → List Nat → RowR
 | 0, i, _ => .bad i
 | f + 1, i, row => if row ≠ [] ∧ hasAt B i [10] then .ok row (i + 1) else
   match colAt B i with
   | none => .bad i
   | some k => rowF B f (i + (sgL k).length) (row ++ [k])
def rowL (row : List Nat) : List Nat := (row.map sgL).flatten
theorem rowL_snoc (row : List Nat) (k : Nat) : rowL (row ++ [k]) = rowL row ++ sgL k := by unfold rowL; simp
theorem rowL_cons (k : Nat) (row : List Nat) : rowL (k :: row) = sgL k ++ rowL row := by unfold rowL; simp
theorem rowF_ok {B : List Nat} (hB : ∀ x ∈ B, x < 256) : ∀ (f i : Nat) (row r : List Nat) (p : Nat), rowF B f i row = .ok r p → (∀ k ∈ row, k < 62) → ∃ t, r = row ++ t ∧ r ≠ [] ∧ (∀ k ∈ r, k < 62) ∧ hasAt B i (rowL t ++ [10]) ∧ p = i + (rowL t).length + 1
 | 0, i, row, r, p, h, _ => by simp [rowF] at h
 | f + 1, i, row, r, p, h, hr => by
  unfold rowF at h
  split at h
  ·rename_i h1
   injection h with e1 e2
   subst e1 e2
   exact ⟨[], by simp, h1.1, hr, by simpa [rowL] using h1.2, by simp [rowL]⟩
  ·split at h
   ·cases h
   ·rename_i k hk
    have hk2 := (colAt_some hB).1 hk
    obtain ⟨t, e1, e2, e3, e4, e5⟩ := rowF_ok hB f _ _ r p h (fun x hx => by
     rcases List.mem_append.1 hx with hx | hx
     ·exact hr x hx
     ·rw [List.mem_singleton.1 hx]; exact hk2.1)
    refine ⟨k :: t, by rw [e1]; simp, e2, e3, ?_, ?_⟩
    ·rw [rowL_cons, List.append_assoc]; exact hasAt_app hk2.2 e4
    ·rw [rowL_cons, List.length_append, e5]; omega
theorem rowF_read {B : List Nat} (hB : ∀ x ∈ B, x < 256) : ∀ (f i : Nat) (row t : List Nat), (row ++ t) ≠ [] → (∀ k ∈ t, k < 62) → hasAt B i (rowL t ++ [10]) → t.length < f → rowF B f i row = .ok (row ++ t) (i + (rowL t).length + 1)
 | 0, i, row, t, _, _, _, h => absurd h (by omega)
 | f + 1, i, row, [], hne, _, h, _ => by
  have h1 : hasAt B i [10] := by simpa [rowL] using h
  unfold rowF
  rw [if_pos ⟨by simpa using hne, h1⟩]
  simp [rowL]
 | f + 1, i, row, k :: t, hne, ht, h, hf => by
  rw [rowL_cons, List.append_assoc] at h
  have h1 := hasAt_left h
  have h2 := hasAt_right h
  have hk : k < 62 := ht k (List.mem_cons_self ..)
  have hc : colAt B i = some k := (colAt_some hB).2 ⟨hk, h1⟩
  unfold rowF
  rw [if_neg (fun h3 => by rw [col_nl hB h3.2] at hc; cases hc)]
  simp only [hc]
  rw [rowF_read hB f _ (row ++ [k]) t (by simp) (fun x hx => ht x (List.mem_cons_of_mem _ hx)) h2 (by simp at hf; omega)]
  rw [rowL_cons, List.length_append, List.append_assoc]
  simp only [List.singleton_append]
  congr 1
  omega
end By
end
section
open Go.RowKit
namespace By
inductive RdR where
 | bad (e : Nat) (at_ : Nat)
 | ok (rows : List (List Nat))
def rowsF (B : List Nat) : Nat → Nat → List (List Nat) → RdR
 | 0, i, _ => .bad 0 i
 | f + 1, i, rows => if i < B.length ∨ rows = [] then
   match rowF B (B.length + 1) i [] with
   | .bad p => .bad 2 p
   | .ok row p => if rows ≠ [] ∧ row.length ≠ (rows.headD []).length then .bad 8 i
     else if 64 < row.length ∨ rows.length = 64 then .bad 5 i
     else rowsF B f p (rows ++ [row])
  else .ok rows
def hdR (G : Nat) : List Nat := if G = 4 then [226, 150, 161] else [226, 150, 179]
def readS (B : List Nat) : Nat × RdR :=
 if 65536 < B.length then (0, .bad 4 0)
 else if hasAt B 0 (hdR 6) then (6, if hasAt B 3 [10] then rowsF B (B.length + 2) 4 [] else .bad 2 3)
 else if hasAt B 0 (hdR 4) then (4, if hasAt B 3 [10] then rowsF B (B.length + 2) 4 [] else .bad 2 3)
 else (0, .bad 2 0)
def rowsL (rows : List (List Nat)) : List Nat := (rows.map fun r => rowL r ++ [10]).flatten
def printR (G : Nat) (rows : List (List Nat)) : List Nat := hdR G ++ [10] ++ rowsL rows
structure RowsOk (W : Nat) (rows : List (List Nat)) : Prop where
 w : ∀ r ∈ rows, r.length = W
 c : ∀ r ∈ rows, ∀ k ∈ r, k < 62
theorem rowsL_cons (r : List Nat) (rows : List (List Nat)) : rowsL (r :: rows) = (rowL r ++ [10]) ++ rowsL rows := by unfold rowsL; simp
theorem rowL_len (r : List Nat) : r.length ≤ (rowL r).length := by
 induction r with
 | nil => simp
 | cons k r ih =>
  rw [rowL_cons, List.length_append, List.length_cons]
  have := (sgL_len k).1
  omega
theorem rowsF_ok {B : List Nat} (hB : ∀ x ∈ B, x < 256) {W : Nat} : ∀ (f i : Nat) (rows R : List (List Nat)), rowsF B f i rows = .ok R → RowsOk W rows → rows ≠ [] → 0 < W → W ≤ 64 → rows.length ≤ 64 → i ≤ B.length →
  ∃ T, R = rows ++ T ∧ RowsOk W R ∧ R.length ≤ 64 ∧ hasAt B i (rowsL T) ∧ i + (rowsL T).length = B.length
 | 0, i, rows, R, h, _, _, _, _, _, _ => by simp [rowsF] at h
 | f + 1, i, rows, R, h, ho, hne, hW, hW64, hl, hi => by
  unfold rowsF at h
  split at h
  ·rename_i h1
   split at h
   ·cases h
   ·rename_i row p hrow
    obtain ⟨t, e1, e2, e3, e4, e5⟩ := rowF_ok hB _ _ _ _ _ hrow (fun k hk => by cases hk)
    rw [List.nil_append] at e1
    obtain rfl : t = row := e1.symm
    split at h
    ·cases h
    ·rename_i h2
     split at h
     ·cases h
     ·rename_i h3
      have hlen : t.length = W := by
       cases rows with
       | nil => exact absurd rfl hne
       | cons r0 rs =>
        have := ho.w r0 (List.mem_cons_self ..)
        by_cases e : t.length = W
        ·exact e
        ·exact absurd ⟨by simp, by simp [this]; exact e⟩ h2
      have ho' : RowsOk W (rows ++ [t]) := ⟨fun r hr => by
       rcases List.mem_append.1 hr with hr | hr
       ·exact ho.w r hr
       ·rw [List.mem_singleton.1 hr]; exact hlen, fun r hr => by
       rcases List.mem_append.1 hr with hr | hr
       ·exact ho.c r hr
       ·rw [List.mem_singleton.1 hr]; exact e3⟩
      have hbd := hasAt_bd e4 (by simp)
      rw [List.length_append, List.length_singleton] at hbd
      have hl2 : (rows ++ [t]).length ≤ 64 := by rw [List.length_append, List.length_singleton]; omega
      obtain ⟨T, a1, a2, a3, a4, a5⟩ := rowsF_ok hB f p (rows ++ [t]) R h ho' (by simp) hW hW64 hl2 (by omega)
      refine ⟨t :: T, by rw [a1]; simp, a2, a3, ?_, ?_⟩
      ·rw [rowsL_cons]
       refine hasAt_app e4 ?_
       rw [List.length_append, List.length_singleton, ← Nat.add_assoc, ← e5]
       exact a4
      ·rw [rowsL_cons, List.length_append, List.length_append, List.length_singleton]
       omega
  ·rename_i h1
   injection h with h
   subst h
   exact ⟨[], by simp, ho, hl, by unfold rowsL; exact hasAt_nil _ _, by simp [rowsL]; omega⟩
theorem rowsF_top {B : List Nat} (hB : ∀ x ∈ B, x < 256) (f i : Nat) (R : List (List Nat)) (h : rowsF B f i [] = .ok R) :
  ∃ W, 0 < W ∧ W ≤ 64 ∧ RowsOk W R ∧ 0 < R.length ∧ R.length ≤ 64 ∧ hasAt B i (rowsL R) ∧ i + (rowsL R).length = B.length := by
 cases f with
 | zero => simp [rowsF] at h
 | succ f =>
  unfold rowsF at h
  rw [if_pos (.inr rfl)] at h
  split at h
  ·cases h
  ·rename_i row p hrow
   obtain ⟨t, e1, e2, e3, e4, e5⟩ := rowF_ok hB _ _ _ _ _ hrow (fun k hk => by cases hk)
   rw [List.nil_append] at e1
   obtain rfl : t = row := e1.symm
   rw [if_neg (fun h2 => h2.1 rfl)] at h
   split at h
   ·cases h
   ·rename_i h3
    have hbd := hasAt_bd e4 (by simp)
    rw [List.length_append, List.length_singleton] at hbd
    have ht : 0 < t.length := List.length_pos_iff.2 e2
    obtain ⟨T, a1, a2, a3, a4, a5⟩ := rowsF_ok hB (W := t.length) f p ([] ++ [t]) R h ⟨fun r hr => by simp at hr; rw [hr], fun r hr => by simp at hr; rw [hr]; exact e3⟩ (by simp) ht (by omega) (by simp) (by omega)
    rw [List.nil_append] at a1
    refine ⟨t.length, ht, by omega, a2, by rw [a1]; simp, a3, ?_, ?_⟩
    ·rw [a1, List.singleton_append, rowsL_cons]
     refine hasAt_app e4 ?_
     rw [List.length_append, List.length_singleton, ← Nat.add_assoc, ← e5]
     exact a4
    ·rw [a1, List.singleton_append, rowsL_cons, List.length_append, List.length_append, List.length_singleton]
     omega
theorem rowsF_read {B : List Nat} (hB : ∀ x ∈ B, x < 256) {W : Nat} (hW : 0 < W) (hW64 : W ≤ 64) : ∀ (f i : Nat) (rows T : List (List Nat)), RowsOk W (rows ++ T) → rows ++ T ≠ [] → hasAt B i (rowsL T) → i + (rowsL T).length = B.length → (rows ++ T).length ≤ 64 → T.length < f → rowsF B f i rows = .ok (rows ++ T)
 | 0, i, rows, T, _, _, _, _, _, h => absurd h (by omega)
 | f + 1, i, rows, [], ho, hne, _, he, _, _ => by
  unfold rowsF
  rw [if_neg (by
   rintro (h | h)
   ·simp [rowsL] at he; omega
   ·rw [List.append_nil] at hne; exact hne h)]
  rw [List.append_nil]
 | f + 1, i, rows, t :: T, ho, hne, h, he, hl, hf => by
  rw [rowsL_cons] at h
  have h1 := hasAt_left h
  have h2 := hasAt_right h
  have htw := ho.w t (by simp)
  have htc := ho.c t (by simp)
  have hbd := hasAt_bd h1 (by simp)
  rw [List.length_append, List.length_singleton] at hbd h2
  have htl := rowL_len t
  have hrd := rowF_read hB (B.length + 1) i [] t (by rw [List.nil_append]; intro e; subst e; simp at htw; omega) htc h1 (by omega)
  rw [List.nil_append] at hrd
  unfold rowsF
  rw [if_pos (.inl (by omega)), hrd]
  simp only
  rw [if_neg (by
   rintro ⟨h3, h4⟩
   cases rows with
   | nil => exact h3 rfl
   | cons r0 rs =>
    have := ho.w r0 (by simp)
    simp at h4
    omega), if_neg (by
   rintro (h3 | h3)
   ·omega
   ·rw [List.length_append, List.length_cons] at hl; omega)]
  have e : rows ++ t :: T = (rows ++ [t]) ++ T := by simp
  rw [e] at ho hne hl ⊢
  refine rowsF_read hB hW hW64 f _ (rows ++ [t]) T ho hne (by rw [Nat.add_assoc]; exact h2) ?_ hl (by simp at hf; omega)
  rw [rowsL_cons, List.length_append, List.length_append, List.length_singleton] at he
  omega
theorem hd_ne {B : List Nat} (h : hasAt B 0 (hdR 4)) : ¬ hasAt B 0 (hdR 6) := by
 intro h2
 have a := (hasAt_iff.1 h).2 2 (by simp [hdR])
 have b := (hasAt_iff.1 h2).2 2 (by simp [hdR])
 rw [a] at b
 simp [hdR] at b
theorem read_print {G W : Nat} {rows : List (List Nat)} (hG : G = 4 ∨ G = 6) (hW : 0 < W) (hW64 : W ≤ 64) (ho : RowsOk W rows) (hr : 0 < rows.length) (hr64 : rows.length ≤ 64) (hB : ∀ x ∈ printR G rows, x < 256) (hl : (printR G rows).length ≤ 65536) : readS (printR G rows) = (G, .ok rows) := by
 have h0 : hasAt (printR G rows) 0 (printR G rows) := by unfold hasAt; simp
 obtain ⟨B, hBe⟩ : ∃ B, printR G rows = B := ⟨_, rfl⟩
 have h1 : hasAt B 0 (hdR G ++ [10] ++ rowsL rows) := by rw [← hBe]; exact h0
 have hlen : B.length = 4 + (rowsL rows).length := by
  rw [← hBe]; unfold printR hdR
  split <;> simp <;> omega
 rw [hBe] at hB hl ⊢
 have h2 := hasAt_left h1
 have h3 := hasAt_right h1
 have h4 := hasAt_left h2
 have h5 := hasAt_right h2
 have e3 : (hdR G).length = 3 := by unfold hdR; split <;> rfl
 rw [List.length_append, e3] at h3
 rw [e3] at h5
 have hrr := rowsF_read hB hW hW64 (B.length + 2) 4 [] rows (by simpa using ho) (by rw [List.nil_append]; exact List.length_pos_iff.1 hr) h3 (by omega) (by simpa using hr64) (by
  have : rows.length ≤ (rowsL rows).length := by
   clear h1 h2 h3 h4 h5 hlen ho hr hr64 hBe h0
   induction rows with
   | nil => simp
   | cons r rs ih => rw [rowsL_cons]; simp; omega
  omega)
 unfold readS
 rw [if_neg (by omega)]
 rcases hG with rfl | rfl
 ·rw [if_neg (hd_ne h4), if_pos h4, if_pos h5, hrr]; rfl
 ·rw [if_pos h4, if_pos h5, hrr]; rfl
theorem print_read {B : List Nat} (hB : ∀ x ∈ B, x < 256) {G : Nat} {rows : List (List Nat)} (h : readS B = (G, .ok rows)) : (G = 4 ∨ G = 6) ∧ ∃ W, 0 < W ∧ W ≤ 64 ∧ RowsOk W rows ∧ 0 < rows.length ∧ rows.length ≤ 64 ∧ B = printR G rows := by
 have key : ∀ G, (G = 4 ∨ G = 6) → hasAt B 0 (hdR G) → hasAt B 3 [10] → rowsF B (B.length + 2) 4 [] = .ok rows → ∃ W, 0 < W ∧ W ≤ 64 ∧ RowsOk W rows ∧ 0 < rows.length ∧ rows.length ≤ 64 ∧ B = printR G rows := by
  intro G hG h1 h2 h3
  obtain ⟨W, a1, a2, a3, a4, a5, a6, a7⟩ := rowsF_top hB _ _ _ h3
  refine ⟨W, a1, a2, a3, a4, a5, ?_⟩
  have e3 : (hdR G).length = 3 := by unfold hdR; split <;> rfl
  have h4 : hasAt B 0 (hdR G ++ [10]) := hasAt_app h1 (by rw [e3]; exact h2)
  have h5 : hasAt B 0 (printR G rows) := hasAt_app h4 (by rw [List.length_append, e3]; exact a6)
  have hl : (printR G rows).length = B.length := by
   unfold printR
   rw [List.length_append, List.length_append, e3, List.length_singleton]
   omega
  unfold hasAt at h5
  rw [List.drop_zero, List.take_of_length_le (by omega)] at h5
  exact h5
 unfold readS at h
 split at h
 ·simp at h
 ·split at h
  ·rename_i h1
   split at h
   ·rename_i h2
    simp only [Prod.mk.injEq] at h
    obtain ⟨rfl, h3⟩ := h
    exact ⟨.inr rfl, key 6 (.inr rfl) h1 h2 h3⟩
   ·simp at h
  ·split at h
   ·rename_i h1
    split at h
    ·rename_i h2
     simp only [Prod.mk.injEq] at h
     obtain ⟨rfl, h3⟩ := h
     exact ⟨.inl rfl, key 4 (.inl rfl) h1 h2 h3⟩
    ·simp at h
   ·simp at h
end By
end
end Go.Proofs.YtajdoobkfbdgoaaDoor
