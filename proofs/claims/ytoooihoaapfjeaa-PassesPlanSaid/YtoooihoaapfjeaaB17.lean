/- Lemmas and contracts of functions (what each call returns, and that it changes nothing that was there) that the proof of a law of this seat uses; each lemma states its own conditions. -/
import Derived.Test.YtoooihoaapfjeaaB15
import Derived.Test.YtoooihoaapfjeaaB16
import Derived.RangeFuncWrites
import Derived.RangeFuncNested
import Derived.Deep.LoopGhost
namespace Go.Proofs.Ytoooihoaapfjeaa
open Go.RowKit
set_option linter.unusedVariables false
set_option linter.unusedSimpArgs false
open Go.Shelf
open Ps Go.Maps
attribute [local go_sem] Oper.semAt_some
theorem allocInt (w : World) : Sem.run Try.prog (Instr.alloc 3 true (.tuple #[])) w = .ok (.pointer (some ⟨w.heap.size, 0, none⟩)) (w.alloc (.cells #[.int .i64 0] 3)) := by
  go_simp
/-- What a plan answers. -/
def PlanPost (zs to : List Int) (sl : Int) (w : World) (e : Ending) (w' : World) : Prop := Below w.heap.size w w' ∧
  ((wrP zs to sl ≠ 0 ∧ e = .returned (.tuple #[.slice none 0 0, .int .i64 (wrP zs to sl)])) ∨
   (wrP zs to sl = 0 ∧ (∀ k, ¬ dist to sl k zs) ∧ e = .returned (.tuple #[.slice none 0 0, .int .i64 (6)])) ∨
   (wrP zs to sl = 0 ∧ ∃ k L A C, k ≤ 1000000 ∧ Dmin to sl k zs ∧ firstL to sl k zs L ∧ e = .returned (.tuple #[.slice A L.length C, .int .i64 (0)]) ∧ IsPasses w' A L.length (pI L)))
set_option maxRecDepth 100000 in
set_option maxHeartbeats 8000000 in
theorem Plan_any (fa : Option Addr) (fn fc : Nat) (zs : List Int) (ta : Option Addr) (tn tc : Nat) (to : List Int) (sl : Int) (w : World) (hI : IsInts w fa fn zs) (hT : IsInts w ta tn to) (hfn : fn ≤ 9223372036854775807) (htn : tn ≤ 9223372036854775807) (hs : (-9223372036854775808 ≤ sl ∧ sl ≤ 9223372036854775807)) :
    Calls Try.prog 7 #[.slice fa fn fc, .slice ta tn tc, .int .i64 sl] w (PlanPost zs to sl w) := by
  have HI := Lib.hid hI; have HT := Lib.hid hT
  have HWr := Lib.hid (Wrong_any fa fn fc zs ta tn tc to sl w hI hT hfn htn hs)
  clear hI hT
  refine (callsIn_wide (n := 9)).1 ?_
  refine callsIn_of_wp_marks Try.func7 rfl trivial ?_ rfl
  simp only [Try.ntmps7, List.size_toArray, List.length_cons, List.length_nil, Nat.reduceAdd, Nat.reduceSub, Array.replicate_succ, Array.replicate_zero, List.push_toArray, List.append_toArray, List.nil_append, List.cons_append]
  refine wpIn_wide.2 ?_
  go_wp2_with fail
  refine HWr.out.mono ?_
  rintro r w1 ⟨rfl, hb1⟩
  have HB1 := Lib.hid hb1
  clear hb1
  by_cases hw0 : wrP zs to sl = 0
  rotate_left
  · have hne : (wrP zs to sl != 0) = true := by simpa using hw0
    have HW0 := Lib.hid hw0
    clear hw0
    go_wp2
    refine ⟨_, by simp [results, Try.f7, go_sem], HB1.out, .inl ⟨HW0.out, rfl⟩⟩
  · rw [hw0]
    obtain ⟨hz1, hz5, hzl, hs1, hs11, hoz, hot⟩ := wrP_zero hw0
    have hnf : fn = zs.length := HI.out.1.symm
    have hnt : tn = zs.length := by rw [← hzl]; exact HT.out.1.symm
    have HW0 := Lib.hid hw0; have HOZ := Lib.hid hoz; have HOT := Lib.hid hot; have HZL := Lib.hid hzl
    have HNF := Lib.hid hnf; have HNT := Lib.hid hnt
    clear hw0 hoz hot hzl HWr hnf hnt
    go_wp2_with fail
    have hb1 := HB1.out
    have hsz1 := hb1.size
    refine (far_ok ta tn tc to sl _ (HT.out.below (by repeat (first | exact Below.refl _ _ | refine Below.drew ?_ | refine below_drewN ?_ _ | refine Below.alloc ?_ (by first | exact Nat.le_refl _ | (simp; done) | (simp; omega) | omega) _ | refine Below.setCell ?_ (by first | exact Nat.le_refl _ | (simp; done) | (simp; omega) | omega) _ | refine bExtW ?_ (by first | exact Nat.le_refl _ | (simp; done) | (simp; omega) | omega) | refine Below.trans ?_ (Below.mono (by assumption) (by first | exact Nat.le_refl _ | (simp; done) | (simp; omega) | omega))))) (by rw [HNT.out]; exact hz1) (by rw [HNT.out]; exact hz5) ⟨hs1, hs11⟩ HOT.out).mono ?_
    rintro r w2 ⟨mb, i, rfl, hi, hfm2, hb2, hmb⟩
    have hsz2 := hb2.size
    rw [World.size_alloc] at hsz2 hmb
    have hpz2 := rowBelow (pzF_alloc w1 ta tn tc sl) hb2 (by simp)
    have hbw2 : Below w.heap.size w w2 := (hb1.alloc hb1.size _).trans (hb2.mono (by rw [World.size_alloc]; omega))
    have hpz3 := hpz2.alloc (.cells #[.map (some mb)] 36)
    have hfc3 := row_one w2 (.map (some mb)) 36
    have hfm3 := hfm2.keep (TyO.below (B := fun _ => false) (show Below w2.heap.size w2 (w2.alloc (.cells #[.map (some mb)] 36)) from (by repeat (first | exact Below.refl _ _ | refine Below.drew ?_ | refine below_drewN ?_ _ | refine Below.alloc ?_ (by first | exact Nat.le_refl _ | (simp; done) | (simp; omega) | omega) _ | refine Below.setCell ?_ (by first | exact Nat.le_refl _ | (simp; done) | (simp; omega) | omega) _ | refine bExtW ?_ (by first | exact Nat.le_refl _ | (simp; done) | (simp; omega) | omega) | refine Below.trans ?_ (Below.mono (by assumption) (by first | exact Nat.le_refl _ | (simp; done) | (simp; omega) | omega)))))) (fun _ _ => rfl)
    have hbw3 : Below w.heap.size w (w2.alloc (.cells #[.map (some mb)] 36)) := hbw2.alloc hbw2.size _
    have hsz3 : (w2.alloc (.cells #[.map (some mb)] 36)).heap.size = w2.heap.size + 1 := World.size_alloc _ _
    have HPZ3 := Lib.hid hpz3; have HFC3 := Lib.hid hfc3; have HFM3 := Lib.hid hfm3; have HBW3 := Lib.hid hbw3; have HII := Lib.hid hi
    clear hpz2 hpz3 hfc3 hfm3 hbw3 hb2 hfm2 hb1 hi HB1 hbw2
    go_wp2_with fail
    generalize w2.alloc (.cells #[.map (some mb)] 36) = w3 at *
    have HKC : Hid (∀ W', Below w3.heap.size w3 W' → Calls Try.prog 15 #[.slice fa fn fc] W' fun e w' => e = .returned (.int .i64 (keyZ zs)) ∧ Below W'.heap.size W' w') := Lib.hid (fun W' hb =>
      key_ok fa fn fc zs _ (HI.out.below (HBW3.out.trans (hb.mono HBW3.out.size))) (by rw [HNF.out]; exact hz5) (fun x hx => by have := okS_bd HOZ.out x hx; omega))
    have hIN := bfs_in HOT.out i (by have := HII.out; omega)
    have HIN := Lib.hid hIN
    have HANY := any_key hIN HOZ.out HZL.out.symm
    obtain ⟨kv, hlk, hkv⟩ := HFM3.out.lookE (k := keyZ zs) (by
      have := keyZ_nat zs (okS_bd HOZ.out) hz5
      omega)
    obtain ⟨kn, hkn⟩ : ∃ kn, decide (zs ∈ (bfs to sl i).map (·.1)) = kn := ⟨_, rfl⟩
    rw [HANY, hkn] at hlk
    have HKN := Lib.hid hkn; have HKV := Lib.hid hkv
    have HLK := Lib.hid hlk
    have cf : w3.cell? ⟨w2.heap.size, 0, none⟩ = some (.map (some mb)) := HFC3.out.cell (i := 0) (by omega)
    clear hlk HANY hkn hkv hIN
    go_wp2_with fail
    refine wp_mono (Q := fun e a' w' => e = .normal ∧ ∃ lb, w3.heap.size ≤ lb ∧ a' = { tmps := #[.slice fa fn fc, .slice ta tn tc, .int .i64 sl, undef, undef, undef, .slice none 0 0, .int .i64 0, .int .i64 0, .pointer (some ⟨w1.heap.size, 0, none⟩), .pointer (some ⟨w2.heap.size, 0, none⟩), .pointer (some ⟨lb, 0, none⟩), .bool kn, undef, undef, undef, undef, undef, undef, .slice fa fn fc, .slice ta tn tc, .int .i64 sl, .int .i64 0, .int .i64 0, .bool false, undef, .slice ta tn tc, .int .i64 sl, .agg #[.slice ta tn tc, .int .i64 sl], .agg #[.slice ta tn tc, .int .i64 sl], .map (some mb), .tuple #[.int .i64 kv, .bool kn], .map (some mb), .slice fa fn fc, .int .i64 (keyZ zs), .tuple #[.int .i64 kv, .bool kn], .int .i64 kv, .bool kn, undef, undef, undef, undef, undef, undef, undef, undef, undef, undef, undef, undef, undef, undef, undef, undef, undef, undef, undef, undef, undef, undef, undef, undef, undef, undef, undef, undef, undef, undef, undef, undef, undef, undef, undef, undef, undef, undef, undef, undef], defers := [] } ∧ Below w3.heap.size w3 w' ∧ w'.rowIs lb 3 1 (fun _ => .int .i64 kv)) ?_ ?_
    · refine wp_region_HS (Below w3.heap.size w3) (by kernel_rfl) ?_
      (refine anyH_takeS (i := 0) rfl (by kernel_rfl) (fun _ _ _ _ h => by cases h.1) (Below.refl _ _).drew (fun K hK => ?_); simp only [Region.wanted, if_true]; refine ⟨.map (some mb), fun w9 h9 => ?_, ?_⟩)
      · clear hK
        have p0 := bCs h9 cf
        have l9 : LtW w2.heap.size w9 := World.block_lt_of_cell? _ _ p0
        clear h9
        go_simp
      go_simp
      refine hK _ ?_
      clear hK K
      (refine anyH_takeS (i := 1) rfl (by kernel_rfl) (fun _ _ _ _ h => by cases h.1) (Below.refl _ _).drew (fun K hK => ?_); go_simp; refine ⟨_, fun _ _ => rfl, hK _ ?_⟩; clear hK K)
      clear cf
      refine wpAnyH_all (rs := [2, 7]) (by kernel_rfl) (by simp) fun j hj => ?_
      have hj2 : j = 2 ∨ j = 7 := by simpa using hj
      clear hj
      rcases hj2 with rfl | rfl
      · refine wpOp_go (i := 2) rfl rfl (fun K hK => ?_)
        go_simp
        refine (HKC.out _ (Below.refl _ _).drew).mono ?_
        rintro r w4 ⟨rfl, hb4⟩
        have HW4 : Hid (Below w3.heap.size w3 w4) := Lib.hid ((Below.refl _ _).drew.trans hb4)
        refine hK _ _ ⟨HW4.out, ?_⟩
        clear hK K hb4
        (refine anyH_takeS (i := 3) rfl (by kernel_rfl) (fun _ _ _ _ h => by cases h.1) HW4.out (fun K hK => ?_); simp only [Region.wanted, if_true]; refine ⟨.tuple #[.int .i64 kv, .bool kn], fun w9 h9 => ?_, ?_⟩)
        · clear hK
          have p0 := (HLK.out w9 h9).1
          clear h9
          go_simp
        go_simp
        refine hK _ ?_
        clear hK K
        (refine anyH_takeS (i := 4) rfl (by kernel_rfl) (fun _ _ _ _ h => by cases h.1) HW4.out (fun K hK => ?_); go_simp; refine ⟨_, fun _ _ => rfl, hK _ ?_⟩; clear hK K)
        (refine anyH_takeS (i := 5) rfl (by kernel_rfl) (fun _ _ _ _ h => by cases h.1) HW4.out (fun K hK => ?_); go_simp; refine ⟨_, fun _ _ => rfl, hK _ ?_⟩; clear hK K)
        (refine anyH_takeS (i := 6) rfl (by kernel_rfl) (fun _ _ _ _ h => by cases h.1) HW4.out (fun K hK => ?_); go_simp; refine ⟨_, fun _ _ => rfl, hK _ ?_⟩; clear hK K)
        refine anyH_one (i := 7) (by kernel_rfl) ?_
        refine wpOp_go (i := 7) rfl rfl (fun K hK => ?_)
        go_simp
        have HLR := Lib.hid (row_one w4 (.int .i64 0) 3)
        have HW5 : Hid (Below w3.heap.size w3 (w4.alloc (.cells #[.int .i64 0] 3))) := Lib.hid (HW4.out.alloc HW4.out.size _)
        have HW10 : Hid (Below w3.heap.size w3 ((w4.alloc (.cells #[.int .i64 0] 3)).setCell ⟨w4.heap.size, 0, none⟩ (.int .i64 kv))) := Lib.hid (HW5.out.setCell HW4.out.size _)
        have HLB : Hid (w3.heap.size ≤ w4.heap.size) := Lib.hid HW4.out.size
        refine hK _ _ ⟨HW5.out, ?_⟩
        clear hK K
        generalize w4.alloc (.cells #[.int .i64 0] 3) = w5 at *
        have ll := HLR.out.lt
        have cl := HLR.out.cell (i := 0) (by omega)
        have fl := HLR.out.frozen 0
        refine anyH_one (i := 8) (by kernel_rfl) ?_
        refine wpOp_go (i := 8) rfl rfl (fun K hK => ?_)
        go_simp
        refine hK _ _ ⟨HW10.out, ?_⟩
        clear hK K
        refine anyH_one (i := 9) (by kernel_rfl) ?_
        refine wpOp_go (i := 9) rfl rfl (fun K hK => ?_)
        go_simp
        refine hK _ _ ⟨HW10.out, ?_⟩
        clear hK K
        refine wpAnyH_done (by kernel_rfl) ⟨rfl, w4.heap.size, HLB.out, rfl, HW10.out, (HLR.out.set 0 _).congr fun i hi => ?_⟩ _
        obtain rfl : i = 0 := by omega
        simp
      · refine wpOp_go (i := 7) rfl rfl (fun K hK => ?_)
        go_simp
        have hlr : ((w3.alloc (.cells #[.int .i64 0] 3)).drew).rowIs w3.heap.size 3 1 (fun _ => .int .i64 0) := row_one w3.drew (.int .i64 0) 3
        have hw5 : Below w3.heap.size w3 ((w3.alloc (.cells #[.int .i64 0] 3)).drew) := (by repeat (first | exact Below.refl _ _ | refine Below.drew ?_ | refine below_drewN ?_ _ | refine Below.alloc ?_ (by first | exact Nat.le_refl _ | (simp; done) | (simp; omega) | omega) _ | refine Below.setCell ?_ (by first | exact Nat.le_refl _ | (simp; done) | (simp; omega) | omega) _ | refine bExtW ?_ (by first | exact Nat.le_refl _ | (simp; done) | (simp; omega) | omega) | refine Below.trans ?_ (Below.mono (by assumption) (by first | exact Nat.le_refl _ | (simp; done) | (simp; omega) | omega))))
        have HW5 := Lib.hid hw5
        refine hK _ _ ⟨HW5.out, ?_⟩
        clear hK K
        rw [hsz3] at hlr
        have HLR5 := Lib.hid hlr
        generalize (w3.alloc (.cells #[.int .i64 0] 3)).drew = w5 at *
        clear hw5 hlr
        refine anyH_one (i := 2) (by kernel_rfl) ?_
        refine wpOp_go (i := 2) rfl rfl (fun K hK => ?_)
        go_simp
        refine (HKC.out _ HW5.out).mono ?_
        rintro r w4 ⟨rfl, hb4⟩
        have HW4 : Hid (Below w3.heap.size w3 w4) := Lib.hid (HW5.out.trans (hb4.mono HW5.out.size))
        have HLR := Lib.hid (rowBelow HLR5.out hb4 HLR5.out.lt)
        refine hK _ _ ⟨HW4.out, ?_⟩
        clear hK K hb4
        (refine anyH_takeS (i := 3) rfl (by kernel_rfl) (fun _ _ _ _ h => by cases h.1) HW4.out (fun K hK => ?_); simp only [Region.wanted, if_true]; refine ⟨.tuple #[.int .i64 kv, .bool kn], fun w9 h9 => ?_, ?_⟩)
        · clear hK
          have p0 := (HLK.out w9 h9).1
          clear h9
          go_simp
        go_simp
        refine hK _ ?_
        clear hK K
        (refine anyH_takeS (i := 4) rfl (by kernel_rfl) (fun _ _ _ _ h => by cases h.1) HW4.out (fun K hK => ?_); go_simp; refine ⟨_, fun _ _ => rfl, hK _ ?_⟩; clear hK K)
        (refine anyH_takeS (i := 5) rfl (by kernel_rfl) (fun _ _ _ _ h => by cases h.1) HW4.out (fun K hK => ?_); go_simp; refine ⟨_, fun _ _ => rfl, hK _ ?_⟩; clear hK K)
        (refine anyH_takeS (i := 6) rfl (by kernel_rfl) (fun _ _ _ _ h => by cases h.1) HW4.out (fun K hK => ?_); go_simp; refine ⟨_, fun _ _ => rfl, hK _ ?_⟩; clear hK K)
        have HW10 : Hid (Below w3.heap.size w3 (w4.setCell ⟨w2.heap.size + 1, 0, none⟩ (.int .i64 kv))) := Lib.hid (HW4.out.setCell (by show _ ≤ w2.heap.size + 1; omega) _)
        have HLB : Hid (w3.heap.size ≤ w2.heap.size + 1) := Lib.hid (by omega)
        have ll := HLR.out.lt
        have cl := HLR.out.cell (i := 0) (by omega)
        have fl := HLR.out.frozen 0
        refine anyH_one (i := 8) (by kernel_rfl) ?_
        refine wpOp_go (i := 8) rfl rfl (fun K hK => ?_)
        go_simp
        refine hK _ _ ⟨HW10.out, ?_⟩
        clear hK K
        refine anyH_one (i := 9) (by kernel_rfl) ?_
        refine wpOp_go (i := 9) rfl rfl (fun K hK => ?_)
        go_simp
        refine hK _ _ ⟨HW10.out, ?_⟩
        clear hK K
        refine wpAnyH_done (by kernel_rfl) ⟨rfl, w2.heap.size + 1, HLB.out, rfl, HW10.out, (HLR.out.set 0 _).congr fun i hi => ?_⟩ _
        obtain rfl : i = 0 := by omega
        simp
    · rintro e a' w5 ⟨rfl, lb, hlb, rfl, hb5, hlr⟩
      have hsz5 := hb5.size
      have hbw5 : Below w.heap.size w w5 := HBW3.out.trans (hb5.mono HBW3.out.size)
      have hbs := HBW3.out.size
      cases kn
      · have hno := bfs_none HOT.out HII.out HOZ.out HZL.out.symm (of_decide_eq_false HKN.out)
        have HNO := Lib.hid hno; have HBW5 := Lib.hid hbw5
        clear hno hbw5 hlr hb5
        go_wp2
        refine ⟨_, by simp [results, Try.f7, go_sem], HBW5.out, .inr (.inl ⟨HW0.out, HNO.out, rfl⟩)⟩
      · obtain ⟨e0, he0, hz0⟩ := List.mem_map.1 (of_decide_eq_true HKN.out)
        have hkv := HKV.out e0 he0 (by rw [hz0])
        have hdm := bfs_dmin HOT.out HII.out he0
        rw [hz0] at hdm
        have hd9 : e0.2 ≤ 1000000 := by
          obtain ⟨j, hj, hje⟩ := List.getElem_of_mem he0
          have h1 := bfs_d (to := to) (sl := sl) i j hj
          have h2 := bfs_len HIN.out (by rw [HZL.out]; exact hz5)
          have h3 : (bfs to sl i).getD j z = e0 := by rw [List.getD_eq_getElem?_getD, List.getElem?_eq_getElem hj]; exact hje
          rw [h3] at h1
          omega
        obtain ⟨N, hN⟩ : ∃ N, e0.2 = N := ⟨_, rfl⟩
        rw [hN] at hkv hdm hd9
        subst hkv
        clear hN he0 hz0
        have HDM := Lib.hid hdm; have HDN := Lib.hid hdm
        obtain ⟨ob, hob⟩ : ∃ ob, w5.heap.size = ob := ⟨_, rfl⟩
        have hoc := row_one w5 (.slice none 0 0) 24
        have hba : Below w5.heap.size w5 ((w5.alloc (.cells #[.slice none 0 0] 24)).alloc (.cells #[.slice fa fn fc] 22)) := (by repeat (first | exact Below.refl _ _ | refine Below.drew ?_ | refine below_drewN ?_ _ | refine Below.alloc ?_ (by first | exact Nat.le_refl _ | (simp; done) | (simp; omega) | omega) _ | refine Below.setCell ?_ (by first | exact Nat.le_refl _ | (simp; done) | (simp; omega) | omega) _ | refine bExtW ?_ (by first | exact Nat.le_refl _ | (simp; done) | (simp; omega) | omega) | refine Below.trans ?_ (Below.mono (by assumption) (by first | exact Nat.le_refl _ | (simp; done) | (simp; omega) | omega))))
        have hkb : TyO (fun _ => false) w3 ((w5.alloc (.cells #[.slice none 0 0] 24)).alloc (.cells #[.slice fa fn fc] 22)) := (TyO.below hb5).trans (TyO.below hba)
        have har := row_one (w5.alloc (.cells #[.slice none 0 0] 24)) (.slice fa fn fc) 22
        have hPJ : PJ w1.heap.size w2.heap.size lb ob mb ta tn tc sl (bfs to sl i) N [] (.slice none 0 0) w ((w5.alloc (.cells #[.slice none 0 0] 24)).alloc (.cells #[.slice fa fn fc] 22)) :=
          ⟨hkb.row HPZ3.out (fun _ _ => rfl), hkb.row HFC3.out (fun _ _ => rfl), (TyO.below (B := fun _ => false) hba).row hlr (fun _ _ => rfl), by rw [← hob]; exact hoc.alloc _, World.ownsRow_nil _ _ _ _, HFM3.out.keep hkb (fun _ _ => rfl), hbw5.trans (hba.mono (by omega)), by omega, by omega, by omega, by omega, by omega⟩
        rw [World.size_alloc, hob] at har
        have hebz : EB (ob + 1) w ((w5.alloc (.cells #[.slice none 0 0] 24)).alloc (.cells #[.slice fa fn fc] 22)) (.slice fa fn fc) zs := .inl ⟨fa, fc, by rw [← HNF.out], by rw [← HNF.out]; exact HI.out⟩
        have hszW : ((w5.alloc (.cells #[.slice none 0 0] 24)).alloc (.cells #[.slice fa fn fc] 22)).heap.size = ob + 2 := by simp; omega
        have HPJ := Lib.hid hPJ; have HAR := Lib.hid har; have HEB := Lib.hid hebz
        have hlo : lb < ob := by have := hlr.lt; unfold LtW at this; omega
        clear hoc hba hkb har hPJ hebz hlr hb5 hbw5 hdm
        go_wp2_with fail
        generalize (w5.alloc (.cells #[.slice none 0 0] 24)).alloc (.cells #[.slice fa fn fc] 22) = W5 at *
        clear cf HKC HLK HKV HPZ3 HFC3 HFM3 HKN hob
        refine wp_loop_ghost_k (fun k a' w' => ∃ (ab : Nat) (L : List (Int × Nat)) (s : List Int) (Ds : List Nat) (v av : Value) (u41 u42 u43 u44 u45 u46 u47 u76 : Value), a' = { tmps := #[.slice fa fn fc, .slice ta tn tc, .int .i64 sl, undef, undef, undef, .slice none 0 0, .int .i64 0, .int .i64 0, .pointer (some ⟨w1.heap.size, 0, none⟩), .pointer (some ⟨w2.heap.size, 0, none⟩), .pointer (some ⟨lb, 0, none⟩), .bool true, .pointer (some ⟨ob, 0, none⟩), .pointer (some ⟨ab, 0, none⟩), undef, undef, undef, undef, .slice fa fn fc, .slice ta tn tc, .int .i64 sl, .int .i64 0, .int .i64 0, .bool false, undef, .slice ta tn tc, .int .i64 sl, .agg #[.slice ta tn tc, .int .i64 sl], .agg #[.slice ta tn tc, .int .i64 sl], .map (some mb), .tuple #[.int .i64 (N : Nat), .bool true], .map (some mb), .slice fa fn fc, .int .i64 (keyZ zs), .tuple #[.int .i64 (N : Nat), .bool true], .int .i64 (N : Nat), .bool true, .bool true, .bool false, .slice fa fn fc, u41, u42, u43, u44, u45, u46, u47, undef, undef, undef, undef, undef, undef, undef, undef, undef, undef, undef, undef, undef, undef, undef, undef, undef, undef, undef, undef, undef, undef, undef, undef, undef, undef, undef, undef, u76, undef], defers := Ds.map mark } ∧
          Hid (PJ w1.heap.size w2.heap.size lb ob mb ta tn tc sl (bfs to sl i) k L v w w') ∧ Hid (w'.rowIs ab 22 1 (fun _ => av)) ∧ Hid (EB (ob + 1) w w' av s) ∧ Hid (Marks (ob + 2) Ds w') ∧ ob + 1 ≤ ab ∧ ob + 2 ≤ w'.heap.size ∧ s.length = zs.length ∧ Hid (okS to sl s) ∧ Hid (Dmin to sl k s) ∧ Hid (∀ L2, firstL to sl k s L2 → firstL to sl N zs (L ++ L2)) ∧ L.length + k = N) N ?_ ?_
        · exact ⟨ob + 1, [], zs, [], _, _, _, _, _, _, _, _, _, _, rfl, HPJ, HAR, HEB, Lib.hid ⟨by simp, by simp, by simp⟩, Nat.le_refl _, by omega, rfl, HOZ, HDM, Lib.hid (fun L2 h => h), by simp⟩
        · clear HPJ HAR HEB HDM hszW
          rintro k _ w6 ⟨ab, L, s, Ds, v, av, u41, u42, u43, u44, u45, u46, u47, u76, rfl, HPJ, HAR, HEB, HMK, hab, hsz6, hsl, HOS, HDM, HFL, hLN⟩ J K hJ hK
          have HJ := Lib.hid hJ
          clear hJ
          have hkc : k = 0 ∨ ∃ k', k = k' + 1 := by
            cases k with
            | zero => exact .inl rfl
            | succ k => exact .inr ⟨k, rfl⟩
          rcases hkc with rfl | ⟨k, rfl⟩
          · have cl : w6.cell? ⟨lb, 0, none⟩ = some (.int .i64 (0)) := HPJ.out.lc.cell (i := 0) (by omega)
            have co : w6.cell? ⟨ob, 0, none⟩ = some v := HPJ.out.oc.cell (i := 0) (by omega)
            clear HJ
            go_wp2
            have hfl := HFL.out [] rfl
            rw [List.append_nil] at hfl
            obtain ⟨A, C, hv⟩ := own_form HPJ.out.own
            subst hv
            refine leaves_marks (n0 := ob + 2) Ds w6 HMK.out ?_ hsz6
            intro w9 h1 h2
            refine ⟨.tuple #[.slice A L.length C, .int .i64 (0)], by simp [results, Try.f7, go_sem], HPJ.out.bel.trans (h2.mono (by omega)), .inr (.inr ⟨HW0.out, N, L, A, C, hd9, HDN.out, hfl, rfl, own_passes rfl (own_ty HPJ.out.own h1 (fun _ _ => rfl))⟩)⟩
          · have hcl := HPJ.out.lc.cell (i := 0) (by omega)
            have cl : w6.cell? ⟨lb, 0, none⟩ = some (.int .i64 ((k : Int) + 1)) := hcl
            have ca : w6.cell? ⟨ab, 0, none⟩ = some av := HAR.out.cell (i := 0) (by omega)
            have la : LtW ab w6 := HAR.out.lt
            obtain ⟨A, m, hav, hsi⟩ := HEB.out.ints HPJ.out.bel
            obtain ⟨n, hn⟩ : ∃ n, s.length = n := ⟨_, rfl⟩
            rw [hn] at hav hsi hsl
            subst hav
            have b0 : decide ((0 : Int) < (k : Int) + 1) = true := by simp
            have HNN := Lib.hid hn; have HSI := Lib.hid hsi; have HNL := Lib.hid hsl
            clear hn hsi hsl hcl
            go_wp2_with fail
            refine (callsIn_wide.1 (all_in n 9 _)).mono ?_
            rintro r w7 ⟨rfl, rfl⟩
            have hb7 : Below w6.heap.size w6 (w6.alloc (.cells #[.int .i64 (n)] 3)) := (by repeat (first | exact Below.refl _ _ | refine Below.drew ?_ | refine below_drewN ?_ _ | refine Below.alloc ?_ (by first | exact Nat.le_refl _ | (simp; done) | (simp; omega) | omega) _ | refine Below.setCell ?_ (by first | exact Nat.le_refl _ | (simp; done) | (simp; omega) | omega) _ | refine bExtW ?_ (by first | exact Nat.le_refl _ | (simp; done) | (simp; omega) | omega) | refine Below.trans ?_ (Below.mono (by assumption) (by first | exact Nat.le_refl _ | (simp; done) | (simp; omega) | omega))))
            have hRQ : RQ w1.heap.size w2.heap.size lb ob mb ta tn tc sl (bfs to sl i) k L v to s (.slice A n m) ab w6.heap.size (ob + 2) Ds w n [] (w6.alloc (.cells #[.int .i64 (n)] 3)) :=
              ⟨HPJ.out.grow hb7, (TyO.below (B := fun _ => false) hb7).row HAR.out (fun _ _ => rfl), HEB.out.keep (TyO.below (B := fun _ => false) hb7) (fun _ _ => rfl), row_one w6 _ _, HMK.out.keep ((keepsOthers_of_below hb7).from _), by simp⟩
            have HDL : Hid (∀ D ∈ Ds, D < (w6.alloc (.cells #[.int .i64 (n)] 3)).heap.size) := Lib.hid (fun D hD => (Array.getElem?_eq_some_iff.1 (hRQ.ms.df D hD)).1)
            have HRQ := Lib.hid hRQ
            have hsz7 : (w6.alloc (.cells #[.int .i64 (n)] 3)).heap.size = w6.heap.size + 1 := World.size_alloc _ _
            have hmb6 : mb < w6.heap.size := by
              obtain ⟨D9, ⟨es9, cl9, h9, _⟩, _⟩ := HPJ.out.fm
              exact (Array.getElem?_eq_some_iff.1 h9).1
            have hws : w.heap.size ≤ w6.heap.size := HPJ.out.bel.size
            clear hb7 hRQ HPJ HAR HEB HMK cl ca
            go_wp2_with fail
            generalize w6.alloc (.cells #[.int .i64 (n)] 3) = w8 at *
            obtain ⟨tb, htb⟩ : ∃ tb, w6.heap.size = tb := ⟨_, rfl⟩
            rw [htb] at HRQ hsz7 hmb6 hws hsz6 ⊢
            clear htb
            have hNB : NB tb n w8 := HRQ.out.tr.cell (i := 0) (by omega)
            refine (wpIn_wide (n := 9)).1 ?_
            refine wpIn_rangeFunc_ownH rfl (by omega) (gf := 27) (lb := #[.pointer (some ⟨tb, 0, none⟩)]) rfl trivial (enters_of Try.func27 (by kernel_rfl) rfl)
              (all_stops 8 (by omega) tb n (by rw [HNL.out]; exact hz1) (by rw [HNL.out]; exact hz5) w8 hNB) (fun h k x => k (h x))
              (fun A l o o' _ ho hc _ x => cell_kept x (grownBy_putObj' A l o') (fun r e => by cases e; exact ⟨o, ho, hc⟩)) (Below.refl _ _) (fun _ => rfl)
              (fun pre W' => RQ w1.heap.size w2.heap.size lb ob mb ta tn tc sl (bfs to sl i) k L v to s (.slice A n m) ab tb (ob + 2) Ds w n pre W') (fun c pre W' => RX w1.heap.size w2.heap.size lb ob mb ta tn tc sl (bfs to sl i) k L to s ab (ob + 2) Ds w n c pre W')
              (fun s A B row hs hg hr => hs.kept hg (fun r e => ⟨⟨by have := (hr r e).1; omega, by have := (hr r e).1; omega, (hr r e).2⟩, fun D hD => by have := HDL.out D hD; have := (hr r e).1; omega⟩))
              (fun c s A B row hs hg hr => hs.kept hg (fun r e => ⟨⟨by have := (hr r e).1; omega, by have := (hr r e).1; omega, (hr r e).2⟩, fun D hD => by have := HDL.out D hD; have := (hr r e).1; omega⟩)) HRQ.out
              (fun x a' W' => ∃ B, W'.rowIs B 43 2 (psF (PLv n x.val)) ∧ a' = { tmps := #[.slice fa fn fc, .slice ta tn tc, .int .i64 sl, undef, undef, undef, .slice none 0 0, .int .i64 0, .int .i64 0, .pointer (some ⟨w1.heap.size, 0, none⟩), .pointer (some ⟨w2.heap.size, 0, none⟩), .pointer (some ⟨lb, 0, none⟩), .bool true, .pointer (some ⟨ob, 0, none⟩), .pointer (some ⟨ab, 0, none⟩), .pointer (some ⟨B, 0, none⟩), undef, undef, undef, .slice fa fn fc, .slice ta tn tc, .int .i64 sl, .int .i64 0, .int .i64 0, .bool false, undef, .slice ta tn tc, .int .i64 sl, .agg #[.slice ta tn tc, .int .i64 sl], .agg #[.slice ta tn tc, .int .i64 sl], .map (some mb), .tuple #[.int .i64 (N : Nat), .bool true], .map (some mb), .slice fa fn fc, .int .i64 (keyZ zs), .tuple #[.int .i64 (N : Nat), .bool true], .int .i64 (N : Nat), .bool true, .bool true, .bool false, .slice fa fn fc, .int .i64 ((k : Int) + 1), .bool true, u43, u44, .slice A n m, .int .i64 (n), .func (.func 27) #[] #[.pointer (some ⟨tb, 0, none⟩)], .agg #[.int .i64 ((PLv n x.val).1), .int .i64 (((PLv n x.val).2 : Nat))], undef, undef, undef, undef, undef, undef, undef, undef, undef, undef, undef, undef, undef, undef, undef, undef, undef, undef, undef, undef, undef, undef, undef, undef, undef, undef, undef, u76, undef], defers := [] })
              (fun x a' _ X Y row hs hg hr => by
                obtain ⟨B, h1, h2⟩ := hs
                exact ⟨B, rowIs_kept h1 hg (fun r e => (hr r e).2), h2⟩)
              ?assign ?body ?done ?stop
            case assign =>
              rintro l pre x W4 K hi hK
              have HI4 := Lib.hid hi
              clear hi
              gi_wp2
              have hb4 : Below W4.heap.size W4 (W4.alloc (.cells #[.int .i64 ((PLv n x.val).1), .int .i64 (((PLv n x.val).2 : Nat))] 43)) := (by repeat (first | exact Below.refl _ _ | refine Below.drew ?_ | refine below_drewN ?_ _ | refine Below.alloc ?_ (by first | exact Nat.le_refl _ | (simp; done) | (simp; omega) | omega) _ | refine Below.setCell ?_ (by first | exact Nat.le_refl _ | (simp; done) | (simp; omega) | omega) _ | refine bExtW ?_ (by first | exact Nat.le_refl _ | (simp; done) | (simp; omega) | omega) | refine Below.trans ?_ (Below.mono (by assumption) (by first | exact Nat.le_refl _ | (simp; done) | (simp; omega) | omega))))
              exact hK _ _ ((KeepsOthers.alloc _ _).from _) (fun h => bCs hb4 h) (HI4.out.grow hb4) ⟨W4.heap.size, psF_alloc _ _, rfl⟩
            case done =>
              rintro D ys W4 hD rfl hR _
              exfalso
              obtain ⟨j, hj, hg⟩ := some_good HDM.out
              have hnn : to.length = n := HZL.out.trans HNL.out.symm
              rw [hnn] at hj hg
              exact hR.no ⟨j, hj⟩ (List.mem_finRange _) hg
            case stop =>
              rintro D c pre W4 hD ⟨j, hj, hpre⟩ ⟨rfl, pre0, x, v', av', h1, hg, hno, hPJ, har, heb, hmk⟩ hDd
              obtain ⟨A3, m3, hav3, _⟩ := heb.ints hPJ.bel
              subst hav3
              have hfp := first_found (HZL.out.trans HNL.out.symm) hj (h1.symm.trans hpre) hg hno
              have hfl2 : ∀ L2, firstL to sl k (mv s (PLv n x.val).1 (PLv n x.val).2) L2 → firstL to sl N zs ((L ++ [PLv n x.val]) ++ L2) := fun L2 h => by
                have := HFL.out (PLv n x.val :: L2) ⟨_, L2, rfl, hfp, h⟩
                rwa [List.append_assoc]
              have hM2 : Marks (ob + 2) (D :: Ds) W4 := ⟨fun D' hD' => by
                  rcases List.mem_cons.1 hD' with rfl | h
                  · exact hDd
                  · exact hmk.df D' h, List.nodup_cons.2 ⟨fun h => by have := HDL.out D h; omega, hmk.nd⟩, fun D' hD' => by
                  rcases List.mem_cons.1 hD' with rfl | h
                  · omega
                  · exact hmk.lo D' h⟩
              have hDl : D < W4.heap.size := (Array.getElem?_eq_some_iff.1 hDd).1
              have hcl := hPJ.lc.cell (i := 0) (by omega)
              have cl : W4.cell? ⟨lb, 0, none⟩ = some (.int .i64 ((k : Int) + 1)) := hcl
              have fl := hPJ.lc.frozen 0
              have ll : LtW lb W4 := hPJ.lc.lt
              have ca : W4.cell? ⟨ab, 0, none⟩ = some (.slice A3 (mv s (PLv n x.val).1 (PLv n x.val).2).length m3) := har.cell (i := 0) (by omega)
              have v1 : IntKind.i64.wrap ((k : Int) + 1 - 1) = (k : Int) := by rw [Int.add_sub_cancel]; exact IntWalk.i64_in _ (by omega)
              have hwl : lb < W4.heap.size := ll
              have hbA : Below (W4.setCell ⟨lb, 0, none⟩ (.int .i64 ((k : Nat)))).heap.size (W4.setCell ⟨lb, 0, none⟩ (.int .i64 ((k : Nat)))) ((W4.setCell ⟨lb, 0, none⟩ (.int .i64 ((k : Nat)))).alloc (.cells #[.slice A3 (mv s (PLv n x.val).1 (PLv n x.val).2).length m3] 22)) := (by repeat (first | exact Below.refl _ _ | refine Below.drew ?_ | refine below_drewN ?_ _ | refine Below.alloc ?_ (by first | exact Nat.le_refl _ | (simp; done) | (simp; omega) | omega) _ | refine Below.setCell ?_ (by first | exact Nat.le_refl _ | (simp; done) | (simp; omega) | omega) _ | refine bExtW ?_ (by first | exact Nat.le_refl _ | (simp; done) | (simp; omega) | omega) | refine Below.trans ?_ (Below.mono (by assumption) (by first | exact Nat.le_refl _ | (simp; done) | (simp; omega) | omega))))
              have hPN := (hPJ.left k).grow hbA
              have hAN := row_one (W4.setCell ⟨lb, 0, none⟩ (.int .i64 ((k : Nat)))) (.slice A3 (mv s (PLv n x.val).1 (PLv n x.val).2).length m3) 22
              rw [World.size_setCell] at hAN
              have hEN := (heb.setLow (b := lb) (i := 0) (by omega) (.int .i64 ((k : Nat)))).keep (TyO.below (B := fun _ => false) hbA) (fun _ _ => rfl)
              have hMN := hM2.keep (((KeepsOthers.setCell W4 ⟨lb, 0, none⟩ (.int .i64 ((k : Nat)))).trans (KeepsOthers.alloc _ (.cells #[.slice A3 (mv s (PLv n x.val).1 (PLv n x.val).2).length m3] 22))).from _)
              have HPN := Lib.hid hPN; have HAN := Lib.hid hAN; have HEN := Lib.hid hEN; have HMN := Lib.hid hMN; have HF2 := Lib.hid hfl2; have HG := Lib.hid hg
              clear hPJ har heb hmk hM2 hcl hPN hAN hEN hMN hfl2 hg hfp hno hpre h1 hDd hbA
              gi_wp2
              go_wp2
              refine Handed.intro k (by omega) (HJ.out _ _ _ ?_)
              have hlm : (mv s (PLv n x.val).1 (PLv n x.val).2).length = zs.length := by rw [mv_len, HNN.out]; exact HNL.out
              exact ⟨W4.heap.size, L ++ [PLv n x.val], mv s (PLv n x.val).1 (PLv n x.val).2, D :: Ds, v', _, _, _, _, _, _, _, _, _, rfl, HPN, HAN, HEN, HMN, by omega, by simp; omega, hlm, Lib.hid HG.out.1, Lib.hid HG.out.2, HF2, by rw [List.length_append, List.length_singleton]; omega⟩
            case body =>
              rintro l pre x a' W4 hl hlr hRQ ⟨B, hB, rfl⟩ hlt
              have hv := PLv_valid x.isLt
              have hgn : ∀ W', ¬ good to sl k s (PLv n x.val) → KeepsFrom w8.heap.size W4 W' → RQ w1.heap.size w2.heap.size lb ob mb ta tn tc sl (bfs to sl i) k L v to s (.slice A n m) ab tb (ob + 2) Ds w n pre W' →
                  KeepsFrom w8.heap.size W4 W' ∧ (NB tb n W4 → NB tb n W') ∧ RQ w1.heap.size w2.heap.size lb ob mb ta tn tc sl (bfs to sl i) k L v to s (.slice A n m) ab tb (ob + 2) Ds w n (pre ++ [x]) W' := fun W' hg hk h =>
                ⟨hk, fun _ => h.tr.cell (i := 0) (by omega), h.pj, h.ar, h.eb, h.tr, h.ms, fun y hy => by
                  rcases List.mem_append.1 hy with hy | hy
                  · exact h.no y hy
                  · obtain rfl : y = x := by simpa using hy
                    exact hg⟩
              have hgy : ∀ W' v' av', good to sl k s (PLv n x.val) → KeepsFrom w8.heap.size W4 W' → PJ w1.heap.size w2.heap.size lb ob mb ta tn tc sl (bfs to sl i) (k + 1) (L ++ [PLv n x.val]) v' w W' → W'.rowIs ab 22 1 (fun _ => av') → EB (ob + 1) w W' av' (mv s (PLv n x.val).1 (PLv n x.val).2) → Marks (ob + 2) Ds W' →
                  KeepsFrom w8.heap.size W4 W' ∧ RX w1.heap.size w2.heap.size lb ob mb ta tn tc sl (bfs to sl i) k L to s ab (ob + 2) Ds w n (.exit 2) (pre ++ [x]) W' := fun W' v' av' hg hk h1 h2 h3 h4 =>
                ⟨hk, rfl, pre, x, v', av', rfl, hg, hRQ.no, h1, h2, h3, h4⟩
              unfold good at hgn hgy
              generalize PLv n x.val = p at *
              obtain ⟨b, wh⟩ := p
              simp only at hv hB hgn hgy ⊢
              have h2n : 2 ^ n ≤ 2 ^ 5 := Nat.pow_le_pow_right (by omega) (by rw [HNL.out]; exact hz5)
              have hwh : wh < 32 := by have := hv.2.2; simp only at this; omega
              have hbb : -2 ≤ b ∧ b ≤ 2 := by have := hv.1; simp only at this; omega
              have hsb := okS_bd HOS.out
              obtain ⟨A', m', e, hsi⟩ := hRQ.eb.ints hRQ.pj.bel
              have hsi : IsInts W4 A n s := by
                rw [HNN.out] at e hsi
                injection e with e1 e2 e3
                rw [e1]
                exact hsi
              have hmv := moved_ok A n m s b wh W4 hsi (by rw [HNL.out]; exact hz5) (fun y hy => by have := hsb y hy; omega) hbb hwh
              have hzbd := mv_bd hsb hbb wh
              have hzl : (mv s b wh).length = n := by rw [mv_len]; exact HNN.out
              obtain ⟨zb, hzb⟩ : ∃ zb, mv s b wh = zb := ⟨_, rfl⟩
              rw [hzb] at hzbd hzl hmv hgn hgy
              have ca : W4.cell? ⟨ab, 0, none⟩ = some (.slice A n m) := hRQ.ar.cell (i := 0) (by omega)
              have la : LtW ab W4 := hRQ.ar.lt
              have c0 : W4.cell? ⟨B, 0, none⟩ = some (.int .i64 (b)) := hB.cell (i := 0) (by omega)
              have c1 : W4.cell? ⟨B, 1, none⟩ = some (.int .i64 ((wh : Nat))) := hB.cell (i := 1) (by omega)
              have lB : LtW B W4 := hB.lt
              have HV := Lib.hid hv; have HR4 := Lib.hid hRQ; have HGN := Lib.hid hgn; have HGY := Lib.hid hgy; have HMV := Lib.hid hmv; have HZB := Lib.hid hzbd; have HZN := Lib.hid hzl; have HBX := Lib.hid hB
              clear hv hRQ hgn hgy hmv hsi e hB h2n hzb hzbd hzl hsb
              gi_wp2
              refine ⟨trivial, ?_⟩
              gi_at_call 17
              refine (CallsIn.inRound l (callsIn_wide.2 HMV.out)).mono ?_
              rintro e W6 ⟨A2, C2, rfl, hown, hb6⟩
              have HR6 := Lib.hid (HR4.out.grow hb6)
              have HK6 : Hid (KeepsFrom w8.heap.size W4 W6) := Lib.hid ((keepsOthers_of_below hb6).from _)
              have HBX6 := Lib.hid (rowBelow HBX.out hb6 HBX.out.lt)
              have hs4 : ob + 1 ≤ W4.heap.size := by unfold LtW at la; omega
              have hown6 : W6.ownsRow (ob + 1) 3 1 (.slice A2 zb.length C2) zb.length (zb.map (Value.int .i64)) := own_lower1 hown hs4
              rw [HZN.out] at hown6 ⊢
              have hzi : IsInts W6 A2 n zb := by
                obtain ⟨A3, C3, e3, h3⟩ := (IntRow.of_own (v := .slice A2 n C2) (by rw [HZN.out]; exact hown6)).ints
                rw [HZN.out] at e3 h3
                injection e3 with e4 e5 e6
                rw [e4]; exact h3
              have hkz : (-9223372036854775808 ≤ keyZ zb ∧ keyZ zb ≤ 9223372036854775807) := keyZ_wf zb (by rw [HZN.out, HNL.out]; exact hz5) HZB.out
              have HKC : Hid (∀ E d, Calls Try.prog 15 #[.slice A2 n C2] (extW W6 E d) fun e w' => e = .returned (.int .i64 (keyZ zb)) ∧ Below (extW W6 E d).heap.size (extW W6 E d) w') := Lib.hid (fun E d =>
                key_ok A2 n C2 zb _ (hzi.below (bExtW (Below.refl _ _) (Nat.le_refl _))) (by rw [HNL.out]; exact hz5) HZB.out)
              obtain ⟨kv, hlk, hkv⟩ := HR6.out.pj.fm.lookE hkz
              obtain ⟨kn, hkn⟩ : ∃ kn, ((bfs to sl i).any fun e => keyZ e.1 == keyZ zb) = kn := ⟨_, rfl⟩
              rw [hkn] at hlk
              have hlk1 : ∀ E' d', (Instr.lookup 36 (.map (some mb)) (.int .i64 (keyZ zb)) true).run Try.prog (extW W6 E' d') = .ok (.tuple #[.int .i64 kv, .bool kn]) (extW W6 E' d') := fun E' d' =>
                (hlk _ (bExtW (Below.refl _ _) (Nat.le_refl _))).1
              have cf : W6.cell? ⟨w2.heap.size, 0, none⟩ = some (.map (some mb)) := HR6.out.pj.fc.cell (i := 0) (by omega)
              have lf : LtW w2.heap.size W6 := HR6.out.pj.fc.lt
              have HKV := Lib.hid hkv; have HKN := Lib.hid hkn; have HOWN := Lib.hid hown6; have HZI := Lib.hid hzi
              clear hlk hkv hkn hown6 hown hzi hkz ca la c0 c1 lB HR4 HMV hb6 hs4
              gi_wp2
              (refine region_inRound (by kernel_rfl) (by kernel_rfl) (fun a w h => h) (any_region_ext (by kernel_rfl) ?_); (repeat (first | ((with_reducible refine ext_step (fun K hK => ?_)); go_simp; first | (refine hK _ ?_; clear hK K) | (apply Exists.intro; refine ⟨fun _ _ => ?_, hK _ ?_⟩; (go_at_call 15; exact extOf (HKC.out _ _)); clear hK K)))); refine wpQuiet_nil ?_; intro E9 d9)
              have hb7 : Below W6.heap.size W6 (extW W6 E9 d9) := bExtW (Below.refl _ _) (Nat.le_refl _)
              have HR7 := Lib.hid (HR6.out.grow hb7)
              have HK7 : Hid (KeepsFrom w8.heap.size W4 (extW W6 E9 d9)) := Lib.hid (HK6.out.trans ((keepsOthers_of_below hb7).from _))
              have HBX7 := Lib.hid (rowBelow HBX6.out hb7 HBX6.out.lt)
              have HOWN7 := Lib.hid (own_ty HOWN.out (TyO.below (B := fun _ => false) hb7) (fun _ _ => rfl))
              have HZI7 := Lib.hid (HZI.out.below hb7)
              generalize extW W6 E9 d9 = W7 at *
              clear hlk1 cf lf HKC HR6 HK6 HBX6 HOWN HZI hb7
              have HOK7 := Lib.hid (ok_any ta tn tc to sl A2 n C2 zb W7 (HT.out.below HR7.out.pj.bel) HZI7.out (HNT.out.trans HNL.out.symm) (by rw [HNL.out]; omega) ⟨hs1, hs11⟩)
              have p0 : W7.cell? ⟨w1.heap.size, 0, none⟩ = some (.slice ta tn tc) := HR7.out.pj.pz.cell (i := 0) (by omega)
              have p1 : W7.cell? ⟨w1.heap.size, 1, none⟩ = some (.int .i64 (sl)) := HR7.out.pj.pz.cell (i := 1) (by omega)
              have lp : LtW w1.heap.size W7 := HR7.out.pj.pz.lt
              gi_wp2
              refine ⟨trivial, ?_⟩
              gi_at_call 18
              refine (CallsIn.inRound l (callsIn_wide.2 HOK7.out)).mono ?_
              rintro e W9 ⟨rfl, hb9⟩
              have HR9 := Lib.hid (HR7.out.grow hb9)
              have HK9 : Hid (KeepsFrom w8.heap.size W4 W9) := Lib.hid (HK7.out.trans ((keepsOthers_of_below hb9).from _))
              have HBX9 := Lib.hid (rowBelow HBX7.out hb9 HBX7.out.lt)
              have HOWN9 := Lib.hid (own_ty HOWN7.out (TyO.below (B := fun _ => false) hb9) (fun _ _ => rfl))
              clear p0 p1 lp HOK7 HR7 HK7 HBX7 HOWN7 HZI7 hb9
              by_cases hzk : okS to sl zb
              rotate_left
              · rw [decide_eq_false hzk]
                have HE := Lib.hid (HGN.out W9 (fun h => hzk h.1) HK9.out HR9.out)
                gi_wp2
                exact HE.out
              · rw [decide_eq_true hzk]
                have hany := any_key HIN.out hzk (HZN.out.trans (HNL.out.trans HZL.out.symm))
                rw [HKN.out] at hany
                cases kn
                · have hno := bfs_none HOT.out HII.out hzk (HZN.out.trans (HNL.out.trans HZL.out.symm)) (of_decide_eq_false hany.symm)
                  have HE := Lib.hid (HGN.out W9 (fun h => hno _ h.2.1) HK9.out HR9.out)
                  clear hany hno hzk
                  gi_wp2
                  exact HE.out
                · obtain ⟨e1, he1, hz1⟩ := List.mem_map.1 (of_decide_eq_true hany.symm)
                  have hkv := HKV.out e1 he1 (by rw [hz1])
                  have hdm := bfs_dmin HOT.out HII.out he1
                  rw [hz1] at hdm
                  subst hkv
                  have hcl := HR9.out.pj.lc.cell (i := 0) (by omega)
                  have cl : W9.cell? ⟨lb, 0, none⟩ = some (.int .i64 ((k : Int) + 1)) := hcl
                  have ll : LtW lb W9 := HR9.out.pj.lc.lt
                  have v1 : IntKind.i64.wrap ((k : Int) + 1 - 1) = (k : Int) := by rw [Int.add_sub_cancel]; exact IntWalk.i64_in _ (by omega)
                  by_cases hek : e1.2 = k
                  rotate_left
                  · have b0 : (((e1.2 : Nat) : Int) == (k : Int)) = false := by simp; omega
                    have HE := Lib.hid (HGN.out W9 (fun h => hek (hdm.uniq h.2)) HK9.out HR9.out)
                    clear hany hzk hdm he1 hz1 hcl hek
                    gi_wp2
                    exact HE.out
                  · rw [hek] at hdm ⊢
                    have b0 : ((k : Int) == (k : Int)) = true := by simp
                    have HGD : Hid (okS to sl zb ∧ Dmin to sl k zb) := Lib.hid ⟨hzk, hdm⟩
                    clear hany hzk hdm he1 hz1 hcl hek
                    have co : W9.cell? ⟨ob, 0, none⟩ = some v := HR9.out.pj.oc.cell (i := 0) (by omega)
                    have fo := HR9.out.pj.oc.frozen 0
                    have lo : LtW ob W9 := HR9.out.pj.oc.lt
                    have c0 : W9.cell? ⟨B, 0, none⟩ = some (.int .i64 (b)) := HBX9.out.cell (i := 0) (by omega)
                    have c1 : W9.cell? ⟨B, 1, none⟩ = some (.int .i64 ((wh : Nat))) := HBX9.out.cell (i := 1) (by omega)
                    have lB : LtW B W9 := HBX9.out.lt
                    have hLN9 : L.length ≤ 1000000000 := by omega
                    have hob9 : ob + 1 ≤ W9.heap.size := by unfold LtW at lo; omega
                    gi_wp2_with (gi_at_builtin; refine wpAppIn okPass rfl (.tmp 71) (.tmp 73) rfl (ob + 1) _ _ _ #[.int .i64 (b), .int .i64 ((wh : Nat))] rfl HR9.out.pj.own rfl rfl ?_ (by omega) hLN9 hob9 ?_)
                    · simp [Value.oneCell']
                    intro v' w' hown' hg
                    obtain ⟨A5, C5, rfl⟩ := own_form hown'
                    obtain ⟨hPJ, hko, hro, hty⟩ := HR9.out.pj.app (p := (b, wh)) hg hown'
                    have co' : w'.cell? ⟨ob, 0, none⟩ = some v := hro.cell (i := 0) (by omega)
                    have fo' := hro.frozen 0
                    have lo' : LtW ob w' := hro.lt
                    have har := hty.row HR9.out.ar (fun _ _ => rfl)
                    have heb := own_ty HOWN9.out hty (fun _ _ => rfl)
                    have hmk := HR9.out.ms.keep (hko.from _)
                    have ca : (w'.setCell ⟨ob, 0, none⟩ (.slice A5 (L.length + 1) C5)).cell? ⟨ab, 0, none⟩ = some (.slice A n m) := har.cell (i := 0) (by omega)
                    have fa' := har.frozen 0
                    have la : LtW ab (w'.setCell ⟨ob, 0, none⟩ (.slice A5 (L.length + 1) C5)) := har.lt
                    generalize hW10 : w'.setCell ⟨ob, 0, none⟩ (.slice A5 (L.length + 1) C5) = W10 at *
                    have hE := HGY.out (W10.setCell ⟨ab, 0, none⟩ (.slice A2 n C2)) (.slice A5 (L.length + 1) C5) (.slice A2 n C2) HGD.out ((HK9.out.trans (hko.from _)).trans ((KeepsOthers.setCell _ _ _).from _)) (hPJ.setAt har (by omega)) ((har.set 0 _).congr fun i hi => by
                      obtain rfl : i = 0 := by omega
                      simp) (.inr (by
                        obtain ⟨cq, eq_, _⟩ := har
                        rw [← HZN.out] at heb ⊢
                        exact own_ty heb (TyO.setCell (B := Bg) (i := 0) (u := .slice A2 zb.length C2) eq_ rfl) (fun _ _ => rfl))) (hmk.keep ((KeepsOthers.setCell _ _ _).from _))
                    have HE := Lib.hid hE
                    clear hE hPJ hko hro hty har heb hmk hown' hg
                    gi_wp2
                    exact HE.out
end Go.Proofs.Ytoooihoaapfjeaa
