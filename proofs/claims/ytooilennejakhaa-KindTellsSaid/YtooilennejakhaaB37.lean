/- Lemmas and contracts of functions (what each call returns, and that it changes nothing that was there) that the proof of a law of this seat uses; each lemma states its own conditions. -/
import Derived.Test.YtooilennejakhaaB36
import Derived.Test.YtooilennejakhaaB30
import Derived.Test.YtooilennejakhaaB25
namespace Go.Proofs.Ytooilennejakhaa
open Go.RowKit
set_option linter.unusedVariables false
set_option linter.unusedSimpArgs false
open Go.Proofs.Ytooilennejakhaa.Z Go.Maps
theorem waysF_keys {g : Int} {sa ub uc : Int} {gn : Nat} : ∀ {L : List Mv}, (∀ m ∈ L, m.t < gn) → ∀ E : List (Nat × Bool × Bool), (∀ e ∈ E, e.1 < gn) → ∀ e ∈ L.foldl (wayS g sa ub uc) E, e.1 < gn
  | [], _, E, h => h
  | f :: L, hL, E, h => by
    refine waysF_keys (fun m hm => hL m (by simp [hm])) (wayS g sa ub uc E f) ?_
    unfold wayS
    split
    · exact h
    · intro e he
      rcases List.mem_append.1 he with he | he
      · exact h e he
      · simp at he
        subst he
        exact hL f (by simp)
set_option maxRecDepth 100000 in
set_option maxHeartbeats 8000000 in
theorem FW.lenE {mb : Nat} {E : List (Nat × Bool × Bool)} {w : World} (h : FW mb E w) : ∃ n : Nat, (n = 0 ↔ E = []) ∧ ∀ w', Below w.heap.size w w' → ∀ ty, (Builtin.len_ #[47] ty #[.map (some mb)]).run Try.prog w' = .ok (.int .i64 (n)) w' := by
  obtain ⟨n, h1, h2⟩ := h.len 0
  obtain ⟨D, hown, hT, hh, ha⟩ := h
  have hn : ∀ w' ty, w'.heap[mb]? = w.heap[mb]? → (Builtin.len_ #[47] ty #[.map (some mb)]).run Try.prog w' = .ok (.int .i64 ((Maps.size D : Nat))) w' := fun w' ty hb => by
    obtain ⟨es, c, k1, k2⟩ := hown
    exact World.ownsMap.len (R := wayR) ⟨es, c, hb.trans k1, k2⟩ Try.underlying47 ty
  have e : Maps.size D = n := by
    have := (hn w 0 rfl).symm.trans h1
    injection this with this
    injection this with _ this
    omega
  refine ⟨n, h2, fun w' hb ty => ?_⟩
  rw [← e]
  exact hn w' ty (hb.block mb hown.lt)
set_option maxRecDepth 100000 in
set_option maxHeartbeats 8000000 in
theorem pick_any (ok : Bool) (x y : Int) (w : World) : Calls Try.prog 21 #[.bool ok, .int .i64 (x), .int .i64 (y)] w fun e w' => e = .returned (.int .i64 (if ok then x else y)) ∧ w' = w := by
  cases ok
  · go_enter Try.func21, Try.ntmps21
    go_wp2
    go_ret
    exact ⟨rfl, rfl⟩
  · go_enter Try.func21, Try.ntmps21
    go_wp2
    go_ret
    exact ⟨rfl, rfl⟩
theorem pick_K {ok : Bool} {x y : Int} {w : World} {Q : Ending → World → Prop} (h : ∀ k : Int, Hid (k = if ok = true then x else y) → Q (.returned (.int .i64 (k))) w) : Calls Try.prog 21 #[.bool ok, .int .i64 (x), .int .i64 (y)] w Q :=
  (pick_any ok x y w).mono (by rintro e w' ⟨rfl, rfl⟩; exact h _ (Lib.hid rfl))
theorem ite_dec {P : Prop} [Decidable P] {B : Bool} (h : decide P = B) (a b : Int) : (if P then a else b) = if B = true then a else b := by
  subst h
  by_cases hp : P <;> simp [hp]
set_option maxRecDepth 100000 in
set_option maxHeartbeats 8000000 in
theorem Kind_bad (G W H : Int) (a : Option Addr) (n c : Nat) (cs : List Int) (w : World) (hI : IsInts w a n cs) (e : Int) (hT : TorBad e (.agg #[.int .i64 (G), .int .i64 (W), .int .i64 (H), .slice a n c]) a n cs) :
    Calls Try.prog 8 #[.agg #[.int .i64 (G), .int .i64 (W), .int .i64 (H), .slice a n c]] w fun r w' => r = .returned (.tuple #[.int .i64 (0), .int .i64 (e)]) ∧ Below w.heap.size w w' := by
  have hb : (e != 0) = true := by simpa using hT.1
  have HL := Lib.hid (fun w hI => look_bad G W H a n c cs w hI e hT)
  have HI := Lib.hid hI
  clear hI hT
  go_enter Try.func8, Try.ntmps8
  go_wp2_with fail
  refine (HL.out _ (HI.out.below (by repeat (first | exact Below.refl _ _ | refine Below.drew ?_ | refine below_drewN ?_ _ | refine Below.alloc ?_ (by first | exact Nat.le_refl _ | (simp; done) | (simp; omega) | omega) _ | refine Below.setCell ?_ (by first | exact Nat.le_refl _ | (simp; done) | (simp; omega) | omega) _ | refine bExtW ?_ (by first | exact Nat.le_refl _ | (simp; done) | (simp; omega) | omega) | refine Below.trans ?_ (Below.mono (by assumption) (by first | exact Nat.le_refl _ | (simp; done) | (simp; omega) | omega)))))).mono ?_
  rintro r w2 ⟨rfl, hb2⟩
  have HB : Hid (Below w.heap.size w w2) := Lib.hid (Below.trans (by repeat (first | exact Below.refl _ _ | refine Below.drew ?_ | refine below_drewN ?_ _ | refine Below.alloc ?_ (by first | exact Nat.le_refl _ | (simp; done) | (simp; omega) | omega) _ | refine Below.setCell ?_ (by first | exact Nat.le_refl _ | (simp; done) | (simp; omega) | omega) _ | refine bExtW ?_ (by first | exact Nat.le_refl _ | (simp; done) | (simp; omega) | omega) | refine Below.trans ?_ (Below.mono (by assumption) (by first | exact Nat.le_refl _ | (simp; done) | (simp; omega) | omega)))) (hb2.mono (by simp)))
  clear hb2
  go_wp2
  refine bodyPost_ret (v := .tuple #[.int .i64 (0), .int .i64 (e)]) (by simp [results, Try.results8, go_sem]) rfl ⟨rfl, HB.out.alloc HB.out.size _⟩
set_option maxRecDepth 100000 in
set_option maxHeartbeats 8000000 in
theorem Kind_ok (G W H n N sa uc ub : Nat) (a : Option Addr) (c : Nat) (cs : List Int) (w : World) (hI : IsInts w a n cs) (h : ChOk G W H n cs) (hN : torN W H = N) (h24 : N ≤ 24) (h0 : 0 < N) (hS : Sid (stK W H cs G N) N sa) (hU : Upw (stK W H cs G N) N sa uc ub) :
    Calls Try.prog 8 #[.agg #[.int .i64 (G), .int .i64 (W), .int .i64 (H), .slice a n c]] w fun r w' => r = .returned (.tuple #[.int .i64 (kindP (turnsF (movesL W H cs G N)).length (alongB G sa ub uc (waysF G sa ub uc (movesL W H cs G N))) (waysF G sa ub uc (movesL W H cs G N))), .int .i64 (0)]) ∧ Below w.heap.size w w' := by
  have HL := Lib.hid (fun w hI => look_ok G W H n N sa uc ub a c cs w hI h hN h24 h0 hS hU)
  have HI := Lib.hid hI
  have hg := h.g
  have hd := Z.torN_dvd W H
  rw [hN] at hd
  have hgrp := movesL_grp (cs := cs) (g := (G : Int)) h0 hd.1 hd.2
  have HT : Hid (∀ e ∈ waysF G sa ub uc (movesL W H cs G N), e.1 < (G : Int).toNat) := Lib.hid (waysF_keys (fun m hm => hgrp.ok hm) _ (fun e he => by simp at he))
  have hsa1 := hS.a1; have hsaN := hS.an; have hub1 := hU.b1; have hubN := hU.bn; have hucs := hU.ca
  clear hI h hN hd hgrp hS hU
  obtain ⟨tn, htn⟩ : ∃ tn, (turnsF (movesL W H cs G N)).length = tn := ⟨_, rfl⟩
  obtain ⟨EW, hE⟩ : ∃ EW, waysF G sa ub uc (movesL W H cs G N) = EW := ⟨_, rfl⟩
  rw [htn, hE] at HL ⊢
  rw [hE] at HT
  clear htn hE
  obtain ⟨K, hK⟩ : ∃ K, kindP tn (alongB G sa ub uc EW) EW = K := ⟨_, rfl⟩
  rw [hK]
  have HK := Lib.hid hK
  clear hK
  go_enter Try.func8, Try.ntmps8
  go_wp2_with fail
  refine (HL.out _ (HI.out.below (by repeat (first | exact Below.refl _ _ | refine Below.drew ?_ | refine below_drewN ?_ _ | refine Below.alloc ?_ (by first | exact Nat.le_refl _ | (simp; done) | (simp; omega) | omega) _ | refine Below.setCell ?_ (by first | exact Nat.le_refl _ | (simp; done) | (simp; omega) | omega) _ | refine bExtW ?_ (by first | exact Nat.le_refl _ | (simp; done) | (simp; omega) | omega) | refine Below.trans ?_ (Below.mono (by assumption) (by first | exact Nat.le_refl _ | (simp; done) | (simp; omega) | omega)))))).mono ?_
  rintro r w2 ⟨hb2, mb, rfl, hfw, hmb⟩
  have hr2 := rowBelow (row4 w (.int .i64 (G : Nat)) (.int .i64 (W : Nat)) (.int .i64 (H : Nat)) (.slice a n c) 24) hb2 (by simp)
  have HB2 : Hid (Below w.heap.size w w2) := Lib.hid (Below.trans (by repeat (first | exact Below.refl _ _ | refine Below.drew ?_ | refine below_drewN ?_ _ | refine Below.alloc ?_ (by first | exact Nat.le_refl _ | (simp; done) | (simp; omega) | omega) _ | refine Below.setCell ?_ (by first | exact Nat.le_refl _ | (simp; done) | (simp; omega) | omega) _ | refine bExtW ?_ (by first | exact Nat.le_refl _ | (simp; done) | (simp; omega) | omega) | refine Below.trans ?_ (Below.mono (by assumption) (by first | exact Nat.le_refl _ | (simp; done) | (simp; omega) | omega)))) (hb2.mono (by simp)))
  have HR2 := Lib.hid hr2; have HF2 := Lib.hid hfw
  clear hb2 hr2 hfw hmb HL
  unfold sightV
  go_wp2_with fail
  have hb3 : Below w2.heap.size w2 (w2.alloc (.cells #[.int .i64 (tn : Nat), .map (some mb), .int .i64 (sa : Nat), .int .i64 0, .int .i64 (uc : Nat), .int .i64 (ub : Nat)] 51)) := (by repeat (first | exact Below.refl _ _ | refine Below.drew ?_ | refine below_drewN ?_ _ | refine Below.alloc ?_ (by first | exact Nat.le_refl _ | (simp; done) | (simp; omega) | omega) _ | refine Below.setCell ?_ (by first | exact Nat.le_refl _ | (simp; done) | (simp; omega) | omega) _ | refine bExtW ?_ (by first | exact Nat.le_refl _ | (simp; done) | (simp; omega) | omega) | refine Below.trans ?_ (Below.mono (by assumption) (by first | exact Nat.le_refl _ | (simp; done) | (simp; omega) | omega))))
  have hs3 := row6 w2 (.int .i64 (tn : Nat)) (.map (some mb)) (.int .i64 (sa : Nat)) (.int .i64 0) (.int .i64 (uc : Nat)) (.int .i64 (ub : Nat)) 51
  have hf3 := HF2.out.kept (hb3.block mb HF2.out.lt)
  have hr3 := rowBelow HR2.out hb3 HR2.out.lt
  have hB3 := HB2.out.trans (hb3.mono HB2.out.size)
  have HS3 := Lib.hid hs3; have HF3 := Lib.hid hf3; have HR3 := Lib.hid hr3; have HB3 := Lib.hid hB3
  clear hb3 hs3 hf3 hr3 hB3 HB2 HR2 HF2
  generalize w2.alloc (.cells #[.int .i64 (tn : Nat), .map (some mb), .int .i64 (sa : Nat), .int .i64 0, .int .i64 (uc : Nat), .int .i64 (ub : Nat)] 51) = w3 at *
  obtain ⟨sb, hsb⟩ : ∃ sb, w2.heap.size = sb := ⟨_, rfl⟩
  rw [hsb] at HS3 ⊢
  clear hsb
  obtain ⟨nE, hnE, hlenB⟩ := HF3.out.lenE
  have HNE := Lib.hid hnE
  have hlen : ∀ E' d' ty, (Builtin.len_ #[47] ty #[.map (some mb)]).run Try.prog (extW w3 E' d') = .ok (.int .i64 (nE)) (extW w3 E' d') := fun E' d' ty => hlenB _ (bExtW (Below.refl _ _) (Nat.le_refl _)) ty
  have HAL := Lib.hid (fun (w' : World) (hb : Below w3.heap.size w3 w') (u v : Bool) => by
    have := all_any (tn : Int) mb sa uc ub (u, v) EW w' (HF3.out.kept (hb.block mb HF3.out.lt))
    unfold sightV mkW at this
    exact this)
  have HA1 := Lib.hid (fun E' d' => HAL.out (extW w3 E' d') (bExtW (Below.refl _ _) (Nat.le_refl _)) true false)
  have HA2 := Lib.hid (fun E' d' => HAL.out (extW w3 E' d') (bExtW (Below.refl _ _) (Nat.le_refl _)) false true)
  have s0 : w3.cell? ⟨sb, 0, none⟩ = some (.int .i64 (tn : Nat)) := HS3.out.cell (i := 0) (by omega)
  have s1 : w3.cell? ⟨sb, 1, none⟩ = some (.map (some mb)) := HS3.out.cell (i := 1) (by omega)
  have s2 : w3.cell? ⟨sb, 2, none⟩ = some (.int .i64 (sa : Nat)) := HS3.out.cell (i := 2) (by omega)
  have s3 : w3.cell? ⟨sb, 3, none⟩ = some (.int .i64 0) := HS3.out.cell (i := 3) (by omega)
  have s4 : w3.cell? ⟨sb, 4, none⟩ = some (.int .i64 (uc : Nat)) := HS3.out.cell (i := 4) (by omega)
  have s5 : w3.cell? ⟨sb, 5, none⟩ = some (.int .i64 (ub : Nat)) := HS3.out.cell (i := 5) (by omega)
  have ls : LtW sb w3 := HS3.out.lt
  clear hlenB hnE
  obtain ⟨B1, hB1⟩ : ∃ B1, decide (∀ e ∈ EW, e.2 = (true, false)) = B1 := ⟨_, rfl⟩
  obtain ⟨B2, hB2⟩ : ∃ B2, decide (∀ e ∈ EW, e.2 = (false, true)) = B2 := ⟨_, rfl⟩
  rw [hB1] at HA1
  rw [hB2] at HA2
  have HD1 := Lib.hid hB1; have HD2 := Lib.hid hB2
  clear hB1 hB2
  (refine wp_region_ext (by kernel_rfl) (by kernel_rfl) ?_; (repeat (first | ((with_reducible refine ext_step (fun K hK => ?_)); go_simp; first | (refine hK _ ?_; clear hK K) | (apply Exists.intro; refine ⟨fun _ _ => ?_, hK _ ?_⟩; (go_at_call 20; first | with_reducible exact extOf (HA1.out _ _) | with_reducible exact extOf (HA2.out _ _)); clear hK K)))); refine wpQuiet_nil ?_; intro E d)
  obtain ⟨NB, hNB⟩ : ∃ NB, ((nE : Int) == 0) = NB := ⟨_, rfl⟩
  have HNB : Hid (decide (EW = []) = NB) := Lib.hid (by
    rw [← hNB]
    by_cases h : EW = []
    · rw [decide_eq_true h, HNE.out.2 h]; rfl
    · rw [decide_eq_false h]
      have : ¬ nE = 0 := fun h2 => h (HNE.out.1 h2)
      symm
      simp; omega)
  rw [hNB]
  have hb4 : Below w3.heap.size w3 (extW w3 E d) := bExtW (Below.refl _ _) (Nat.le_refl _)
  have HS4 := Lib.hid (rowBelow HS3.out hb4 HS3.out.lt)
  have HR4 := Lib.hid (rowBelow HR3.out hb4 HR3.out.lt)
  have HF4 := Lib.hid (HF3.out.kept (hb4.block mb HF3.out.lt))
  have HB4 := Lib.hid (HB3.out.trans (hb4.mono HB3.out.size))
  have HAL4 := Lib.hid (fun (w' : World) (hb : Below (extW w3 E d).heap.size (extW w3 E d) w') (u v : Bool) => HAL.out w' (hb4.trans (hb.mono hb4.size)) u v)
  clear hb4 s0 s1 s2 s3 s4 s5 ls hlen HA1 HA2 HAL hNB HS3 HR3 HF3 HB3 HNE
  generalize extW w3 E d = w4 at *
  have s0 : w4.cell? ⟨sb, 0, none⟩ = some (.int .i64 (tn : Nat)) := HS4.out.cell (i := 0) (by omega)
  have ls : LtW sb w4 := HS4.out.lt
  by_cases h1 : tn = 1
  · subst h1
    have HKK : Hid (K = if NB = true then 1 else if B1 = true then 3 else if B2 = true then 4 else 5) := Lib.hid (by
      rw [← HK.out]
      unfold kindP
      rw [if_pos rfl, ite_dec HNB.out, ite_dec HD1.out, ite_dec HD2.out])
    go_wp2_with fail
    refine pick_K fun k1 H1 => ?_
    go_wp2_with fail
    refine pick_K fun k2 H2 => ?_
    go_wp2_with fail
    refine pick_K fun k3 H3 => ?_
    go_wp2
    refine bodyPost_ret (v := .tuple #[.int .i64 (k3), .int .i64 (0)]) (by simp [results, Try.results8, go_sem]) rfl ?_
    exact ⟨by rw [HKK.out, H3.out, H2.out, H1.out], HB4.out⟩
  · have n1 : ((tn : Int) == 1) = false := by simp; omega
    have n1' : ¬ tn = 1 := h1
    have s1 : w4.cell? ⟨sb, 1, none⟩ = some (.map (some mb)) := HS4.out.cell (i := 1) (by omega)
    have s2 : w4.cell? ⟨sb, 2, none⟩ = some (.int .i64 (sa : Nat)) := HS4.out.cell (i := 2) (by omega)
    have s3 : w4.cell? ⟨sb, 3, none⟩ = some (.int .i64 0) := HS4.out.cell (i := 3) (by omega)
    have s4 : w4.cell? ⟨sb, 4, none⟩ = some (.int .i64 (uc : Nat)) := HS4.out.cell (i := 4) (by omega)
    have s5 : w4.cell? ⟨sb, 5, none⟩ = some (.int .i64 (ub : Nat)) := HS4.out.cell (i := 5) (by omega)
    by_cases h2 : tn = 2
    · subst h2
      obtain ⟨B3, hB3⟩ : ∃ B3, decide (∀ e ∈ EW, e.2 = (true, true)) = B3 := ⟨_, rfl⟩
      have HA3 := Lib.hid (HAL4.out w4 (Below.refl _ _) true true)
      rw [hB3] at HA3
      have HKK : Hid (K = if NB = true then 2 else if B1 = true then 6 else if B2 = true then 8 else if B3 = true then 9 else 7) := Lib.hid (by
        rw [← HK.out]
        unfold kindP
        rw [if_neg (by omega), if_pos rfl, ite_dec HNB.out, ite_dec HD1.out, ite_dec HD2.out, ite_dec hB3])
      clear hB3 h1 n1 n1'
      go_wp2_with fail
      refine HA3.out.mono ?_
      rintro r w5 ⟨rfl, hb5⟩
      have HB5 := Lib.hid (HB4.out.trans (hb5.mono HB4.out.size))
      clear hb5 s0 s1 s2 s3 s4 s5 ls
      go_wp2_with fail
      refine pick_K fun k1 H1 => ?_
      go_wp2_with fail
      refine pick_K fun k2 H2 => ?_
      go_wp2_with fail
      refine pick_K fun k3 H3 => ?_
      go_wp2_with fail
      refine pick_K fun k4 H4 => ?_
      go_wp2
      refine bodyPost_ret (v := .tuple #[.int .i64 (k4), .int .i64 (0)]) (by simp [results, Try.results8, go_sem]) rfl ?_
      exact ⟨by rw [HKK.out, H4.out, H3.out, H2.out, H1.out], HB5.out⟩
    · have n2 : ((tn : Int) == 2) = false := by simp; omega
      have n2' : ¬ tn = 2 := h2
      by_cases h3 : tn = 3
      · subst h3
        obtain ⟨B3, hB3⟩ : ∃ B3, alongB G sa ub uc EW = B3 := ⟨_, rfl⟩
        have hal := along_any ((3 : Nat) : Int) G mb sa uc ub EW w4 (by omega) HF4.out HT.out (by omega) (by omega) (by omega)
        rw [hB3] at hal
        unfold sightV at hal
        have HA3 := Lib.hid hal
        have HKK : Hid (K = if NB = true then 13 else if B3 = true then 15 else 14) := Lib.hid (by
          rw [← HK.out, hB3]
          unfold kindP
          rw [if_neg (by omega), if_neg (by omega), if_pos rfl, ite_dec HNB.out])
        have c0 : w4.cell? ⟨w.heap.size, 0, none⟩ = some (.int .i64 (G : Nat)) := HR4.out.cell (i := 0) (by omega)
        have lc : LtW w.heap.size w4 := HR4.out.lt
        clear hB3 hal h1 h2 n1 n1' n2 n2'
        go_wp2_with fail
        refine HA3.out.mono ?_
        rintro r w5 ⟨rfl, hb5⟩
        have HB5 := Lib.hid (HB4.out.trans (hb5.mono HB4.out.size))
        clear hb5 s0 s1 s2 s3 s4 s5 ls c0 lc
        go_wp2_with fail
        refine pick_K fun k1 H1 => ?_
        go_wp2_with fail
        refine pick_K fun k2 H2 => ?_
        go_wp2
        refine bodyPost_ret (v := .tuple #[.int .i64 (k2), .int .i64 (0)]) (by simp [results, Try.results8, go_sem]) rfl ?_
        exact ⟨by rw [HKK.out, H2.out, H1.out], HB5.out⟩
      · have n3 : ((tn : Int) == 3) = false := by simp; omega
        have n3' : ¬ tn = 3 := h3
        by_cases h4 : tn = 4
        · subst h4
          have HKK : Hid (∀ sm : Bool, (sm = true → ∀ e ∈ EW, e.2.1 = true) → (sm = false → ∃ e ∈ EW, e.2.1 = false) → K = if NB = true then 10 else if sm = true then 11 else 12) := Lib.hid (fun sm hs1 hs2 => by
            rw [← HK.out]
            unfold kindP
            rw [if_neg (by omega), if_neg (by omega), if_neg (by omega), if_pos rfl, ite_dec HNB.out]
            have : decide (∀ e ∈ EW, e.2.1 = true) = sm := by
              cases sm
              · refine decide_eq_false fun h => ?_
                obtain ⟨e, he, h9⟩ := hs2 rfl
                rw [h e he] at h9
                cases h9
              · exact decide_eq_true (hs1 rfl)
            rw [ite_dec this])
          obtain ⟨D, hown, hrw⟩ := HF4.out.rounds
          have HRW := Lib.hid hrw
          obtain ⟨rb, hrb⟩ : ∃ rb, w4.heap.size = rb := ⟨_, rfl⟩
          have HRB : Hid (w.heap.size ≤ rb) := Lib.hid (by rw [← hrb]; exact HB4.out.size)
          clear hrw h1 h2 h3 n1 n1' n2 n2' n3 n3'
          go_wp2_with (at_range; go_loud (refine wpList_range_own _ rfl _ 47 rfl 3 56 lawKI Try.underlying47 wayR mb EW.length D rfl hown ?_))
          intro w5 hrg5 hg5 hs5
          obtain ⟨hR5, hE5⟩ := HRW.out w5 _ hrg5
          have hB5 := HB4.out.grown hg5 HB4.out.size (fun k e => by cases e)
          try rw [hrb] at hR5
          try rw [hrb]
          have HR5 := Lib.hid hR5; have HE5 := Lib.hid hE5; have HB5 := Lib.hid hB5
          clear hR5 hE5 hB5 hrb hrg5 hg5 hs5 HRW hown s0 s1 s2 s3 s4 s5 ls HS4 HR4 HF4 HB4 HAL4
          go_wp2_with fail
          go_loopw [10] (fun bv wr => ∃ (left : Lit → Bool) (cnt : Nat) (sm : Bool), bv = .bool sm ∧ Hid (RW mb rb EW.length D EW left cnt wr) ∧ Hid (sm = true → ∀ e ∈ EW, left (.int .i64 ((e.1 : Nat) : Int)) = true ∨ e.2.1 = true) ∧ Hid (sm = false → ∃ e ∈ EW, e.2.1 = false) ∧ Hid (Below w.heap.size w wr)) (fun _ wr => wr.rangeLeft mb rb)
          case atStart => exact ⟨_, _, true, rfl, HR5, Lib.hid (fun _ e he => .inl (HE5.out e he)), Lib.hid (fun h => by cases h), HB5⟩
          case round =>
            clear HR5 HE5 HB5
            obtain ⟨left, cnt, sm, rfl, HR, HL, HN, HB⟩ := hrel
            have hrg := HR.out.rg
            go_wp2_with (at_next; go_loud (refine wpList_next_ranges _ rfl _ rfl 3 lawKI wayR (Value.int .i64) mkV invKI invVW mb rb EW.length D left cnt rfl hrg ?_ ?_))
            · intro hc0 hl0
              have HV := Lib.hid (HKK.out sm (fun h e he => (HL.out h e he).resolve_left (by rw [hl0]; simp)) HN.out)
              clear hrg hc0 hl0
              go_wp2_with fail
              refine pick_K fun k1 H1 => ?_
              go_wp2_with fail
              refine pick_K fun k2 H2 => ?_
              go_wp2
              refine bodyPost_ret (v := .tuple #[.int .i64 (k2), .int .i64 (0)]) (by simp [results, Try.results8, go_sem]) rfl ?_
              exact ⟨by rw [HV.out, H2.out, H1.out], HB.out⟩
            · intro x c kl ya yb w3 cnt2 hkey hlk hv hat hrg2 hlt hg2 hs2 hen
              obtain ⟨⟨c1, c2⟩⟩ := c
              obtain ⟨rfl, ⟨t9, rfl, hmem⟩, hR2⟩ := HR.out.next hkey hlk hv hat hrg2
              unfold mkV mkW at hen ⊢
              simp only at hen ⊢
              have hB2 := HB.out.grown hg2 HB.out.size (fun k e => by injection e with e; have := HRB.out; omega)
              have hb3 : Below w3.heap.size w3 (w3.alloc (.cells #[.bool c1, .bool c2] 56)) := (by repeat (first | exact Below.refl _ _ | refine Below.drew ?_ | refine below_drewN ?_ _ | refine Below.alloc ?_ (by first | exact Nat.le_refl _ | (simp; done) | (simp; omega) | omega) _ | refine Below.setCell ?_ (by first | exact Nat.le_refl _ | (simp; done) | (simp; omega) | omega) _ | refine bExtW ?_ (by first | exact Nat.le_refl _ | (simp; done) | (simp; omega) | omega) | refine Below.trans ?_ (Below.mono (by assumption) (by first | exact Nat.le_refl _ | (simp; done) | (simp; omega) | omega))))
              have HR3 := Lib.hid (hR2.below hb3)
              have HB3 := Lib.hid (hB2.trans (hb3.mono hB2.size))
              have HME : Hid (wr.rangeLeft mb rb = cnt ∧ cnt2 < cnt ∧ (w3.alloc (.cells #[.bool c1, .bool c2] 56)).rangeLeft mb rb = cnt2) := Lib.hid ⟨hrg.left_eq, hlt, HR3.out.rg.left_eq⟩
              have HL3 : Hid ((sm && c1) = true → ∀ e ∈ EW, (left (.int .i64 ((e.1 : Nat) : Int)) && !(Lit.int .i64 ((e.1 : Nat) : Int)).sameKey (.int .i64 (t9 : Int))) = true ∨ e.2.1 = true) := Lib.hid (fun hcp e he => by
                rw [Bool.and_eq_true] at hcp
                rcases HL.out hcp.1 e he with h | h
                · by_cases hk : e.1 = t9
                  · right
                    have h1 := HR.out.at_ e he (.lit (.int .i64 0))
                    have h2 := HR.out.at_ _ hmem (.lit (.int .i64 0))
                    simp only at h2
                    rw [hk, h2] at h1
                    injection h1 with h1
                    injection h1 with _ h1
                    rw [← codeW_inj h1]
                    exact hcp.2
                  · left
                    rw [h, Bool.true_and, sameKey_ne (by intro e2; injection e2 with _ e2; exact hk (by omega))]
                    rfl
                · exact .inr h)
              have HN3 : Hid ((sm && c1) = false → ∃ e ∈ EW, e.2.1 = false) := Lib.hid (fun h => by
                cases hsm : sm
                · exact HN.out hsm
                · rw [hsm, Bool.true_and] at h
                  exact ⟨_, hmem, h⟩)
              clear hR2 hB2 hb3 hmem hrg hkey hlk hv hat hrg2 hlt hg2 hs2 HR HB HL HN
              cases sm
              · go_wp2
                go_roundw
                case rel => exact ⟨_, cnt2, false, rfl, HR3, HL3, HN3, HB3⟩
                case measure =>
                  have := HME.out
                  omega
              · go_wp2
                go_roundw
                case rel => exact ⟨_, cnt2, c1, rfl, HR3, by simpa using HL3, by simpa using HN3, HB3⟩
                case measure =>
                  have := HME.out
                  omega
        · have n4 : ((tn : Int) == 4) = false := by simp; omega
          have n4' : ¬ tn = 4 := h4
          have HKK : Hid (K = if NB = true then 16 else 17) := Lib.hid (by
            rw [← HK.out]
            unfold kindP
            rw [if_neg h1, if_neg h2, if_neg h3, if_neg h4, ite_dec HNB.out])
          clear h1 h2 h3 h4
          go_wp2_with fail
          refine pick_K fun k1 H1 => ?_
          go_wp2
          refine bodyPost_ret (v := .tuple #[.int .i64 (k1), .int .i64 (0)]) (by simp [results, Try.results8, go_sem]) rfl ?_
          exact ⟨by rw [HKK.out, H1.out], HB4.out⟩
end Go.Proofs.Ytooilennejakhaa

namespace Go.Proofs.Ytooilennejakhaa
open Go.RowKit
set_option linter.unusedVariables false
set_option linter.unusedSimpArgs false
open Z (torN place pnt Mv To lin okT nrm keepB colP idm md redM both inv stK Sid Upw movesL turnsF waysF kindP tnK flK alongB)
set_option maxRecDepth 100000 in
set_option maxHeartbeats 8000000 in
theorem alive4_any (w : World) : Calls Try.prog 7 #[] w fun e w' => e = .returned (.bool true) ∧ Below w.heap.size w w' := by
  have hC : ChOk 6 1 1 1 [0] := ⟨.inr rfl, by omega, by omega, by omega, by omega, rfl, by intro x hx; simp at hx; subst hx; omega⟩
  have hN : torN 1 1 = 1 := by decide +kernel
  obtain ⟨sa, uc, ub, hS, hU⟩ := Z.fine_ex (n := 1) (W := 1) (H := 1) (cs := [0]) (g := ((6 : Nat) : Int)) (by omega) (Nat.dvd_refl _) (Nat.dvd_refl _)
  have hv : kindP (turnsF (movesL 1 1 [0] ((6 : Nat) : Int) 1)).length (alongB ((6 : Nat) : Int) sa ub uc (waysF ((6 : Nat) : Int) sa ub uc (movesL 1 1 [0] ((6 : Nat) : Int) 1))) (waysF ((6 : Nat) : Int) sa ub uc (movesL 1 1 [0] ((6 : Nat) : Int) 1)) = 17 := by
    have h1 : (turnsF (movesL 1 1 [0] ((6 : Nat) : Int) 1)).length = 6 := by decide +kernel
    have h2 : waysF ((6 : Nat) : Int) sa ub uc (movesL 1 1 [0] ((6 : Nat) : Int) 1) ≠ [] := by
      intro h
      rw [Z.waysF_nil] at h
      have : ¬ ∀ m ∈ movesL 1 1 [0] ((6 : Nat) : Int) 1, m.f = false := by decide +kernel
      exact this h
    rw [h1]
    unfold kindP
    rw [if_neg (by omega), if_neg (by omega), if_neg (by omega), if_neg (by omega), if_neg h2]
  have HK : Hid (∀ a w, IsInts w a 1 [0] → Calls Try.prog 8 #[.agg #[.int .i64 (6), .int .i64 (1), .int .i64 (1), .slice a 1 1]] w fun r w' => r = .returned (.tuple #[.int .i64 (17), .int .i64 (0)]) ∧ Below w.heap.size w w') := Lib.hid fun a w h => by
    have := Kind_ok 6 1 1 1 1 sa uc ub a 1 [0] w h hC hN (by omega) (by omega) hS hU
    rw [hv] at this
    exact this
  have HOK : Hid (IsInts (w.alloc (.cells #[.int .i64 (0)] 3)) (some ⟨w.heap.size, 0, none⟩) 1 [0]) := Lib.hid ⟨rfl, fun _ => ⟨_, 0, rfl, by simp, fun j hj => by
    obtain rfl : j = 0 := by omega
    simp⟩⟩
  clear hC hN hS hU hv
  go_enter Try.func7, Try.ntmps7
  go_wp2_with fail
  refine (HK.out _ _ HOK.out).mono ?_
  rintro r w1 ⟨rfl, hb⟩
  have HB : Hid (Below w.heap.size w w1) := Lib.hid (Below.trans (by repeat (first | exact Below.refl _ _ | refine Below.drew ?_ | refine below_drewN ?_ _ | refine Below.alloc ?_ (by first | exact Nat.le_refl _ | (simp; done) | (simp; omega) | omega) _ | refine Below.setCell ?_ (by first | exact Nat.le_refl _ | (simp; done) | (simp; omega) | omega) _ | refine bExtW ?_ (by first | exact Nat.le_refl _ | (simp; done) | (simp; omega) | omega) | refine Below.trans ?_ (Below.mono (by assumption) (by first | exact Nat.le_refl _ | (simp; done) | (simp; omega) | omega)))) (hb.mono (by first | exact Nat.le_refl _ | (simp; done) | (simp; omega) | omega)))
  clear hb
  go_wp2
  go_ret
  exact ⟨rfl, HB.out⟩
set_option maxRecDepth 100000 in
set_option maxHeartbeats 8000000 in
theorem turns_any (K : Int) (w : World) (h1 : 1 ≤ K) (h2 : K ≤ 17) : Calls Try.prog 12 #[.int .i64 (K)] w fun e w' => e = .returned (.tuple #[.int .i64 (tnK K), .int .i64 (flK K)]) ∧ Below w.heap.size w w' := by
  have hK : K = 1 ∨ K = 2 ∨ K = 3 ∨ K = 4 ∨ K = 5 ∨ K = 6 ∨ K = 7 ∨ K = 8 ∨ K = 9 ∨ K = 10 ∨ K = 11 ∨ K = 12 ∨ K = 13 ∨ K = 14 ∨ K = 15 ∨ K = 16 ∨ K = 17 := by omega
  clear h1 h2
  rcases hK with rfl | rfl | rfl | rfl | rfl | rfl | rfl | rfl | rfl | rfl | rfl | rfl | rfl | rfl | rfl | rfl | rfl
  all_goals
    go_enter Try.func12, Try.ntmps12
    go_wp2
    refine bodyPost_ret (v := _) (by simp [results, Try.results12, go_sem, tnK, flK]) rfl ⟨rfl, (by repeat (first | exact Below.refl _ _ | refine Below.drew ?_ | refine below_drewN ?_ _ | refine Below.alloc ?_ (by first | exact Nat.le_refl _ | (simp; done) | (simp; omega) | omega) _ | refine Below.setCell ?_ (by first | exact Nat.le_refl _ | (simp; done) | (simp; omega) | omega) _ | refine bExtW ?_ (by first | exact Nat.le_refl _ | (simp; done) | (simp; omega) | omega) | refine Below.trans ?_ (Below.mono (by assumption) (by first | exact Nat.le_refl _ | (simp; done) | (simp; omega) | omega))))⟩
end Go.Proofs.Ytooilennejakhaa

namespace Go.Proofs.Ytooilennejakhaa
open Go.RowKit
set_option linter.unusedVariables false
set_option linter.unusedSimpArgs false
open Z (torN place pnt Mv To lin okT nrm keepB colP idm md redM firstB rankP act)
def ptK (p : Z.Pt) : List Value := [.int .i64 p.1, .int .i64 p.2]
def ptsK (L : List Z.Pt) : List Value := L.flatMap ptK
theorem ptsK_app (L : List Z.Pt) (p : Z.Pt) : ptsK (L ++ [p]) = ptsK L ++ ptK p := by unfold ptsK; rw [List.flatMap_append]; simp
theorem ptsK_get : ∀ (L : List Z.Pt) (j r : Nat), j < L.length → r < 2 → (ptsK L)[2 * j + r]? = (ptK (L.getD j (0, 0)))[r]?
  | [], j, r, h, _ => absurd h (by simp)
  | m :: L, 0, r, _, hr => by
    unfold ptsK
    rw [List.flatMap_cons, List.getElem?_append_left (by simp [ptK]; omega)]
    simp
  | m :: L, j + 1, r, h, hr => by
    have ih := ptsK_get L j r (by simpa using h) hr
    unfold ptsK at ih ⊢
    rw [List.flatMap_cons, List.getElem?_append_right (by simp [ptK]; omega)]
    rw [show 2 * (j + 1) + r - (ptK m).length = 2 * j + r by simp [ptK]; omega, ih]
    simp
/-- A list of points in memory. -/
def IsPts (w : World) (a : Option Addr) (n : Nat) (L : List Z.Pt) : Prop :=
  L.length = n ∧ (0 < n → ∃ b o, a = some ⟨b, o, none⟩ ∧ b < w.heap.size ∧ ∀ j, j < n → w.cell? ⟨b, o + j * 2, none⟩ = some (.int .i64 (L.getD j (0, 0)).1) ∧ w.cell? ⟨b, o + j * 2 + 1, none⟩ = some (.int .i64 (L.getD j (0, 0)).2))
theorem IsPts.below {w w' : World} {a : Option Addr} {n : Nat} {L : List Z.Pt} (h : IsPts w a n L) (hb : Below w.heap.size w w') : IsPts w' a n L := by
  refine ⟨h.1, fun hn => ?_⟩
  obtain ⟨b, o, h1, h2, h3⟩ := h.2 hn
  refine ⟨b, o, h1, Nat.lt_of_lt_of_le h2 hb.size, fun j hj => ?_⟩
  obtain ⟨c0, c1⟩ := h3 j hj
  exact ⟨bCs hb c0, bCs hb c1⟩
def OwnP (w : World) (base : Nat) (A : Option Addr) (n C : Nat) (L : List Z.Pt) : Prop := L.length = n ∧ w.ownsRow base 33 2 (.slice A n C) n (ptsK L)
theorem OwnP.pts {w : World} {base n C : Nat} {A : Option Addr} {L : List Z.Pt} (h : OwnP w base A n C L) : IsPts w A n L := by
  obtain ⟨hl, h2⟩ := h
  refine ⟨hl, fun hn => ?_⟩
  rcases h2.2 with ⟨e, e0⟩ | ⟨g, cap, cur, e, hb, hg, h3, h4, h5, h6⟩
  · omega
  · injection e with e1
    refine ⟨g, 0, e1, (Array.getElem?_eq_some_iff.1 hg).1, fun j hj => ?_⟩
    have hc : ∀ r, r < 2 → w.cell? ⟨g, 0 + j * 2 + r, none⟩ = (ptK (L.getD j (0, 0)))[r]? := fun r hr => by
      have h7 : cur[2 * j + r]? = (ptK (L.getD j (0, 0)))[r]? := by
        rw [← Array.getElem?_toList, ← List.getElem?_take_of_lt (show 2 * j + r < n * 2 by omega), h6]
        exact ptsK_get L j r (by omega) hr
      rw [show 0 + j * 2 + r = 2 * j + r by omega]
      simp [World.cell?, hg, h7]
    exact ⟨hc 0 (by omega), hc 1 (by omega)⟩
theorem okPt : ElemOk 84 33 2 16 (.agg #[.int .i64 0, .int .i64 0]) := ⟨Try.underlying84, by kernel_rfl, rfl, by omega⟩
/-- A list of points and what is wrong. -/
def PtPost (L : List Z.Pt) (e : Int) (w : World) (r : Ending) (w' : World) : Prop := (∃ A C, r = .returned (.tuple #[.slice A L.length C, .int .i64 (e)]) ∧ OwnP w' w.heap.size A L.length C L) ∧ Below w.heap.size w w'
theorem OwnP.none (w : World) (b : Nat) : OwnP w b none 0 0 [] := ⟨rfl, World.ownsRow_nil _ _ _ _⟩
theorem row_notOwn {w : World} {b t n base e size k : Nat} {f : Nat → Value} {v : Value} {xs : List Value} (hr : w.rowIs b t n f) (h : w.ownsRow base e size v k xs) (hne : t ≠ e) : some b ≠ v.ownBlock := by
  rcases h.2 with ⟨rfl, _⟩ | ⟨g, cap, cur, rfl, _, hg, _⟩
  · simp [Value.ownBlock]
  · intro e'
    have e2 : b = g := by simpa [Value.ownBlock] using e'
    subst e2
    obtain ⟨cs, hb, _⟩ := hr
    rw [hb] at hg
    injection hg with hg
    injection hg with _ h5
    exact hne h5
theorem row_ne {w : World} {b b' t t' n n' : Nat} {f f' : Nat → Value} (h : w.rowIs b t n f) (h' : w.rowIs b' t' n' f') (hne : t ≠ t') : b ≠ b' := by
  rintro rfl
  obtain ⟨c, h1, _⟩ := h
  obtain ⟨c', h2, _⟩ := h'
  rw [h1] at h2
  injection h2 with h2
  injection h2 with _ h3
  exact hne h3
/-- What lies in memory while the points are sought. -/
structure DS (sb xb : Nat) (W0 : World) (g n : Int) (A : Option Addr) (M C : Nat) (B : Option Addr) (D : Nat) (ML : List Mv) (f : Nat → Bool) (ov : Value) (OL : List Z.Pt) (w : World) : Prop where
  s : w.rowIs sb 4 M (fun j => .bool (f j))
  x : w.rowIs xb 60 3 (clF g n (.slice A M C))
  m : ∃ b, OwnM w b B ML.length D ML
  o : w.ownsRow W0.heap.size 33 2 ov OL.length (ptsK OL)
  lo : W0.heap.size ≤ sb
  bel : Below W0.heap.size W0 w
section
variable {sb xb M C D : Nat} {W0 w w' : World} {g n : Int} {A B : Option Addr} {ML : List Mv} {f f' : Nat → Bool} {ov : Value} {OL : List Z.Pt}
theorem DS.grow (h : DS sb xb W0 g n A M C B D ML f ov OL w) (hb : Below w.heap.size w w') : DS sb xb W0 g n A M C B D ML f ov OL w' :=
  ⟨rowBelow h.s hb h.s.lt, rowBelow h.x hb h.x.lt, h.m.imp fun _ k => k.below hb, ownBelow h.o hb, h.lo, h.bel.trans (hb.mono h.bel.size)⟩
theorem DS.alloc (h : DS sb xb W0 g n A M C B D ML f ov OL w) (o : Obj) : DS sb xb W0 g n A M C B D ML f ov OL (w.alloc o) := h.grow ((Below.refl _ _).alloc (Nat.le_refl _) _)
theorem DS.see (h : DS sb xb W0 g n A M C B D ML f ov OL w) (i : Nat) (hf : ∀ j, j < M → f' j = (f j || i == j)) : DS sb xb W0 g n A M C B D ML f' ov OL (w.setCell ⟨sb, i, none⟩ (.bool true)) :=
  ⟨(h.s.set i _).congr fun j hj => by
    show (if j = i then Value.bool true else .bool (f j)) = .bool (f' j)
    rw [hf j hj]
    by_cases e : j = i
    · subst e; simp
    · rw [if_neg e]; simp [Ne.symm e], h.x.setOther (a := ⟨sb, i, none⟩) (row_ne h.x h.s (by decide)) _, h.m.imp fun _ k => k.setRow h.s (by decide), own_setRow h.o h.s (by decide), h.lo, h.bel.setCell (p := ⟨sb, i, none⟩) h.lo _⟩
theorem DS.congr (h : DS sb xb W0 g n A M C B D ML f ov OL w) (hf : ∀ j, j < M → f' j = f j) : DS sb xb W0 g n A M C B D ML f' ov OL w :=
  ⟨h.s.congr fun j hj => by show Value.bool (f j) = .bool (f' j); rw [hf j hj], h.x, h.m, h.o, h.lo, h.bel⟩
theorem DS.app {p : Z.Pt} {A' : Option Addr} {c' : Nat} (h : DS sb xb W0 g n A M C B D ML f ov OL w) (hown : w'.ownsRow W0.heap.size 33 2 (.slice A' (OL.length + 1) c') (OL.length + 1) (ptsK OL ++ (#[Value.int .i64 p.1, .int .i64 p.2]).toList)) (hg : (w.alloc (.cells #[.int .i64 p.1, .int .i64 p.2] 33)).grownBy w' ov.ownBlock) (hb : Below W0.heap.size w w') : DS sb xb W0 g n A M C B D ML f (.slice A' (OL.length + 1) c') (OL ++ [p]) w' := by
  have h2 := h.alloc (.cells #[.int .i64 p.1, .int .i64 p.2] 33)
  refine ⟨h2.s.of_block (hg.block sb h2.s.lt (row_notOwn h2.s h2.o (by decide))), h2.x.of_block (hg.block xb h2.x.lt (row_notOwn h2.x h2.o (by decide))), h2.m.imp fun _ k => k.grownT h2.o (by decide) hg, ?_, h.lo, h.bel.trans hb⟩
  rw [ptsK_app, List.length_append]
  exact hown
end
/-- Which places are seen behind p points, and of the next one i moves. -/
def seenB (g : Int) (n : Nat) (L : List Mv) (p j : Nat) : Bool := (List.range p).any fun q => firstB g n L (pnt n q) && L.any fun m => rankP n (act g n m (pnt n q)) == j
def seenI (g : Int) (n : Nat) (L : List Mv) (p i j : Nat) : Bool := seenB g n L p j || (L.take i).any fun m => rankP n (act g n m (pnt n p)) == j
def firstsP (g : Int) (n : Nat) (L : List Mv) (p : Nat) : List Z.Pt := ((List.range p).filter fun k => firstB g n L (pnt n k)).map (pnt n)
theorem seenB_succ (g : Int) (n : Nat) (L : List Mv) (p j : Nat) : seenB g n L (p + 1) j = (seenB g n L p j || (firstB g n L (pnt n p) && L.any fun m => rankP n (act g n m (pnt n p)) == j)) := by
  unfold seenB; rw [List.range_succ, List.any_append]; simp
theorem seenI_all {g : Int} {n : Nat} {L : List Mv} {p : Nat} (h : firstB g n L (pnt n p) = true) (j : Nat) : seenB g n L (p + 1) j = seenI g n L p L.length j := by
  rw [seenB_succ, h, Bool.true_and]; unfold seenI; rw [List.take_length]
theorem seenI_succ {g : Int} {n : Nat} {L : List Mv} {p i : Nat} (hi : i < L.length) (j : Nat) : seenI g n L p (i + 1) j = (seenI g n L p i j || rankP n (act g n (L.getD i idm) (pnt n p)) == j) := by
  unfold seenI
  rw [List.take_add_one, List.getElem?_eq_getElem hi, List.any_append, List.getD_eq_getElem?_getD, List.getElem?_eq_getElem hi]
  simp [Bool.or_assoc]
theorem seenB_iff {g : Int} {n : Nat} {L : List Mv} {p : Nat} {col : Z.Pt → Int} (hg : Z.G g) (hn : 0 < n) (hp : Z.Per n col) (h : Z.Grp g n col L) (hk : p < n * n) : seenB g n L p p = !firstB g n L (pnt n p) := by
  have h1 := Z.seen_first hg hn hp h hk
  unfold seenB
  cases hf : firstB g n L (pnt n p) with
  | false =>
    obtain ⟨q, hq, h2, m, hm, h3⟩ := h1.2 hf
    simp only [Bool.not_false]
    rw [List.any_eq_true]
    exact ⟨q, List.mem_range.2 hq, by rw [h2, Bool.true_and, List.any_eq_true]; exact ⟨m, hm, by simpa using h3⟩⟩
  | true =>
    simp only [Bool.not_true]
    rw [List.any_eq_false]
    intro q hq e
    rw [Bool.and_eq_true, List.any_eq_true] at e
    obtain ⟨e1, m, hm, e2⟩ := e
    have := h1.1 ⟨q, List.mem_range.1 hq, e1, m, hm, by simpa using e2⟩
    rw [hf] at this; cases this
theorem firstsP_succ (g : Int) (n : Nat) (L : List Mv) (p : Nat) : firstsP g n L (p + 1) = if firstB g n L (pnt n p) then firstsP g n L p ++ [pnt n p] else firstsP g n L p := by
  unfold firstsP
  rw [List.range_succ, List.filter_append]
  simp only [List.filter_cons, List.filter_nil]
  split <;> simp
theorem firstsP_len (g : Int) (n : Nat) (L : List Mv) (p : Nat) : (firstsP g n L p).length ≤ p := by
  unfold firstsP
  rw [List.length_map]
  exact Nat.le_trans (List.length_filter_le _ _) (by simp)
end Go.Proofs.Ytooilennejakhaa
