/- Lemmas and contracts of functions (what each call returns, and that it changes nothing that was there) that the proof of a law of this seat uses; each lemma states its own conditions. -/
import Derived.Test.YtoooihoaapfjeaaB20
namespace Go.Proofs.Ytoooihoaapfjeaa
open Go.RowKit
set_option linter.unusedVariables false
set_option linter.unusedSimpArgs false
open Ps Go.Maps
theorem rpowerE (n P : Nat) (hn : n ≤ 40) (hP : 2 ^ n = P) (w : World) : Calls Try.prog 25 #[.int .i64 (n)] w fun e w' => e = .returned (.int .i64 (P)) ∧ w' = w := by
  subst hP
  exact rpower_any n hn w
set_option maxRecDepth 100000 in
set_option maxHeartbeats 8000000 in
theorem rLayers_any (ta : Option Addr) (tn tc : Nat) (to : List Int) (sl : Int) (w : World) (hT : IsInts w ta tn to) (hn1 : 1 ≤ tn) (hn5 : tn ≤ 5) (hok : okS to sl to) (hs : 1 ≤ sl ∧ sl ≤ 11) :
    Calls Try.prog 20 #[.slice ta tn tc, .int .i64 sl] w fun e w' => Below w.heap.size w w' ∧ ∃ mb E, e = .returned (.map (some mb)) ∧ FS mb E w' ∧ EP to sl E := by
  have HT := Lib.hid hT; have HOK := Lib.hid hok; have HNL := Lib.hid hT.1
  clear hT hok
  have hmm := @run_makeMap Try.prog
  go_enter Try.func20, Try.ntmps20
  go_wp2_with fail
  refine (rname_any ta tn tc to _ (HT.out.below (by repeat (first | exact Below.refl _ _ | refine Below.drew ?_ | refine below_drewN ?_ _ | refine Below.alloc ?_ (by first | exact Nat.le_refl _ | (simp; done) | (simp; omega) | omega) _ | refine Below.setCell ?_ (by first | exact Nat.le_refl _ | (simp; done) | (simp; omega) | omega) _ | refine bExtW ?_ (by first | exact Nat.le_refl _ | (simp; done) | (simp; omega) | omega) | refine Below.trans ?_ (Below.mono (by assumption) (by first | exact Nat.le_refl _ | (simp; done) | (simp; omega) | omega))))) hn5 (fun x hx => okS_bd HOK.out x hx)).mono ?_
  rintro r w2 ⟨rfl, hb2⟩
  have hfm2 := (FS.made w).keep (TyO.below (B := fun _ => false) hb2) (fun _ _ => rfl)
  obtain ⟨w3, hrun3, hfm3, hg3⟩ := hfm2.store to 0 (by rw [HNL.out]; omega) (by omega) (by simp) (by simp)
  have hrun3 : (Instr.mapUpdate 46 (.map (some w.heap.size)) (.string (nmB to)) (.int .i64 (0))).run Try.prog w2 = .ok () w3 := hrun3
  have hb3 : Below w.heap.size w w3 := (Below.trans (show Below w.heap.size w (w.alloc (.map #[] 0)) from (by repeat (first | exact Below.refl _ _ | refine Below.drew ?_ | refine below_drewN ?_ _ | refine Below.alloc ?_ (by first | exact Nat.le_refl _ | (simp; done) | (simp; omega) | omega) _ | refine Below.setCell ?_ (by first | exact Nat.le_refl _ | (simp; done) | (simp; omega) | omega) _ | refine bExtW ?_ (by first | exact Nat.le_refl _ | (simp; done) | (simp; omega) | omega) | refine Below.trans ?_ (Below.mono (by assumption) (by first | exact Nat.le_refl _ | (simp; done) | (simp; omega) | omega))))) (hb2.mono (by simp))).grown hg3 (by have := hb2.size; simp at this; omega) (fun k e => by injection e with e; omega)
  have HFM3 := Lib.hid hfm3; have HB3 := Lib.hid hb3
  clear hfm2 hfm3 hg3 hb2 hb3
  have hel : EL w w3 (.slice ta tn tc) to := .inl ⟨ta, tc, by rw [HNL.out], by rw [HNL.out]; exact HT.out⟩
  have hls := LS.one (w0 := w) HB3.out.size hel
  have hb4 : Below w3.heap.size w3 (w3.alloc (.cells #[.slice ta tn tc] 22)) := (by repeat (first | exact Below.refl _ _ | refine Below.drew ?_ | refine below_drewN ?_ _ | refine Below.alloc ?_ (by first | exact Nat.le_refl _ | (simp; done) | (simp; omega) | omega) _ | refine Below.setCell ?_ (by first | exact Nat.le_refl _ | (simp; done) | (simp; omega) | omega) _ | refine bExtW ?_ (by first | exact Nat.le_refl _ | (simp; done) | (simp; omega) | omega) | refine Below.trans ?_ (Below.mono (by assumption) (by first | exact Nat.le_refl _ | (simp; done) | (simp; omega) | omega))))
  have hlb : LB w.heap.size w (.slice (some ⟨w3.heap.size, 0, none⟩) 1 1) (.slice none 0 0) [to] [] [(to, 0)] (w3.alloc (.cells #[.slice ta tn tc] 22)) := ⟨hls, LS.nil _ _, (fun k _ h9 => by cases h9), HFM3.out.keep (TyO.below (B := fun _ => false) hb4) (fun _ _ => rfl), HB3.out.trans (hb4.mono HB3.out.size), Nat.le_refl _⟩
  have HLB := Lib.hid hlb
  have HLI := Lib.hid (LI.start HOK.out)
  clear hel hls hb4 hlb HFM3 HB3
  obtain ⟨P, hP⟩ : ∃ P : Nat, 2 ^ tn = P := ⟨_, rfl⟩
  have hP32 : P ≤ 32 := by
    have : 2 ^ tn ≤ 2 ^ 5 := Nat.pow_le_pow_right (by omega) hn5
    omega
  have hP1 : 1 ≤ P := by rw [← hP]; exact Nat.one_le_two_pow
  have HPP := Lib.hid hP
  have HPT : Hid (2 ^ to.length = P) := Lib.hid (by rw [HNL.out]; exact hP)
  clear hP
  go_wp2_with fail
  clear hmm hrun3
  go_loopw [6, 7] (fun lv nv wr => ∃ (m : Nat) (last : List (List Int)) (E : List (List Int × Nat)), nv = .int .i64 ((m : Int) + 1) ∧ Hid (LB w.heap.size w lv (.slice none 0 0) last [] E wr) ∧ Hid (LI to sl m last [] E) ∧ Hid (last ≠ [] → m + 1 ≤ E.length) ∧ last.length ≤ 250000) (fun _ nv _ => 300000 - (intOf nv).toNat)
  case atStart => exact ⟨0, [to], [(to, 0)], rfl, HLB, HLI, Lib.hid (fun _ => by simp), by simp⟩
  case round =>
    clear HLB HLI
    obtain ⟨m, last, E0, rfl, HLB, HLI, HME, hlast⟩ := hrel
    obtain ⟨AL, CL, rfl⟩ := HLB.out.la.form
    obtain ⟨N, hN⟩ : ∃ N, last.length = N := ⟨_, rfl⟩
    have HN := Lib.hid hN
    rw [hN] at HLB hlast ⊢
    clear hN
    by_cases hN0 : N = 0
    · subst hN0
      have HE : Hid (last = []) := Lib.hid (List.length_eq_zero_iff.1 HN.out)
      go_wp2
      go_ret
      refine ⟨HLB.out.bel, _, E0, rfl, HLB.out.fm, ?_⟩
      have := HLI.out
      rw [HE.out] at this
      exact this.all
    · have hNp : 0 < N := by omega
      have dN : decide ((0 : Int) < (N : Int)) = true := by simp; omega
      have dN' : decide (0 < N) = true := by simpa using hNp
      have hm1 : m + 1 ≤ E0.length := HME.out (by intro e; have := HN.out; rw [e] at this; simp at this; omega)
      have hEl := HLI.out.len (by rw [HNL.out]; exact hn5)
      have hm9 : m ≤ 250000 := by omega
      have HM1 := Lib.hid hm1
      clear hN0 hm1 hEl HME
      go_wp2_with fail
      obtain ⟨wo, rfl⟩ : ∃ wo : World, wo = wr := ⟨_, rfl⟩
      go_loopw [8, 29] (fun vN iv wr => ∃ (i : Nat) (next : List (List Int)) (E : List (List Int × Nat)), i ≤ N ∧ iv = .int .i64 (i) ∧ Hid (LB w.heap.size w (.slice AL N CL) vN last next E wr) ∧ Hid (LI to sl m last next E) ∧ Hid (m + 1 + next.length ≤ E.length) ∧ Hid (KN to sl last E i (-2) 1)) (fun _ iv _ => N - (intOf iv).toNat)
      case atStart => exact ⟨0, [], E0, by omega, rfl, HLB, HLI, HM1, Lib.hid KN.start⟩
      case round =>
        clear HLB HLI HM1
        obtain ⟨i, next, E1, hi, rfl, HLB, HLI, HME, HKN⟩ := hrel
        by_cases hiN : i < N
        · obtain ⟨g, cg, x, e1, cx, lg, hel⟩ := HLB.out.la.get (j := i) (by rw [HN.out]; exact hiN)
          rw [HN.out] at e1
          injection e1 with e1 _ e2
          subst e1 e2
          have hmem : last.getD i [] ∈ last := by
            rw [List.getD_eq_getElem?_getD, List.getElem?_eq_getElem (by rw [HN.out]; exact hiN)]
            exact List.getElem_mem _
          obtain ⟨s, hs9⟩ : ∃ s, last.getD i [] = s := ⟨_, rfl⟩
          rw [hs9] at hel hmem
          have HS9 := Lib.hid hs9; have HMEM := Lib.hid hmem
          obtain ⟨hso, hsl, _⟩ := HLI.out.la s hmem
          rw [HNL.out] at hsl
          have HSO := Lib.hid hso; have HSL := Lib.hid hsl
          obtain ⟨A9, c9, rfl, _⟩ := hel.ints HLB.out.bel
          rw [hsl] at hel cx
          have HEL := Lib.hid hel
          have lg' : LtW g wr := lg
          have di : decide ((i : Int) < (N : Int)) = true := by simp; omega
          have di' : decide (i < N) = true := by simpa using hiN
          clear hs9 hmem hso hsl hel lg
          go_wp2_with fail
          clear cx lg'
          obtain ⟨wo2, rfl⟩ : ∃ wo2 : World, wo2 = wr := ⟨_, rfl⟩
          go_loopw [8, 11] (fun vN bv wr => ∃ (q : Nat) (next : List (List Int)) (E : List (List Int × Nat)), q ≤ 5 ∧ bv = .int .i64 ((q : Int) - 2) ∧ Hid (LB w.heap.size w (.slice (some ⟨g, 0, none⟩) N CL) vN last next E wr) ∧ Hid (LI to sl m last next E) ∧ Hid (m + 1 + next.length ≤ E.length) ∧ Hid (KN to sl last E i ((q : Int) - 2) 1) ∧ Hid (EL w wr (.slice A9 tn c9) s)) (fun _ bv _ => (3 - intOf bv).toNat)
          case atStart => exact ⟨0, next, E1, by omega, rfl, HLB, HLI, HME, HKN, HEL⟩
          case round =>
            clear HLB HLI HME HKN HEL
            obtain ⟨q, next, E2, hq, rfl, HLB, HLI, HME, HKN, HEL⟩ := hrel
            by_cases hq5 : q < 5
            · have HQ := Lib.hid (rfl : ((q : Int) - 2) = (q : Int) - 2)
              obtain ⟨b, hb⟩ : ∃ b : Int, (q : Int) - 2 = b := ⟨_, rfl⟩
              have hbb : -2 ≤ b ∧ b ≤ 2 := by omega
              have HB := Lib.hid hb
              rw [hb] at HKN ⊢
              have db : decide (b ≤ 2) = true := by simp; omega
              clear hb hq hq5
              go_wp2_with fail
              obtain ⟨wo3, rfl⟩ : ∃ wo3 : World, wo3 = wr := ⟨_, rfl⟩
              go_loopw [8, 12] (fun vN vv wr => ∃ (v : Nat) (next : List (List Int)) (E : List (List Int × Nat)), v ≤ P ∧ 1 ≤ v ∧ vv = .int .i64 (v) ∧ Hid (LB w.heap.size w (.slice (some ⟨g, 0, none⟩) N CL) vN last next E wr) ∧ Hid (LI to sl m last next E) ∧ Hid (m + 1 + next.length ≤ E.length) ∧ Hid (KN to sl last E i b v) ∧ Hid (EL w wr (.slice A9 tn c9) s)) (fun _ vv _ => P - (intOf vv).toNat)
              case atStart => exact ⟨1, next, E2, hP1, by omega, rfl, HLB, HLI, HME, HKN, HEL⟩
              case round =>
                clear HLB HLI HME HKN HEL
                obtain ⟨v, next, E, hv, hv1, rfl, HLB, HLI, HME, HKN, HEL⟩ := hrel
                go_wp2_with fail
                refine (rpowerE tn P (by omega) HPP.out wr).mono ?_
                rintro r wr' ⟨rfl, he⟩
                subst he
                obtain ⟨wr, rfl⟩ : ∃ wr : World, wr = wr' := ⟨_, rfl⟩
                by_cases hvP : v < P
                · have dv : decide ((v : Int) < (P : Int)) = true := by simp; omega
                  have dv' : decide (v < P) = true := by simpa using hvP
                  have hi9 : IsInts wr A9 tn s := by
                    obtain ⟨A', c', e, hi⟩ := HEL.out.ints HLB.out.bel
                    rw [HSL.out] at e hi
                    injection e with e1 _ e2
                    rw [e1]
                    exact hi
                  have HBH := Lib.hid (rBehind_any A9 tn c9 s b v wr hi9 hn5 (fun y hy => by have := okS_bd HSO.out y hy; omega) hbb (by omega))
                  clear hi9
                  go_wp2_with fail
                  refine HBH.out.mono ?_
                  rintro r w5 ⟨A2, C2, rfl, hown, hb5⟩
                  have hzl : (mv s b v).length = tn := by rw [mv_len]; exact HSL.out
                  rw [hzl] at hown ⊢
                  have hir : IntRow w5 (.slice A2 tn C2) (mv s b v) := IntRow.of_own (base := wr.heap.size) (by rw [hzl]; exact hown)
                  have hzi : IsInts w5 A2 tn (mv s b v) := by
                    obtain ⟨A3, C3, e3, h3⟩ := hir.ints
                    rw [hzl] at e3 h3
                    injection e3 with e4 e5 e6
                    rw [e4]; exact h3
                  have HLB5 := Lib.hid (HLB.out.grow hb5)
                  have HEL5 := Lib.hid (HEL.out.keep (TyO.below (B := fun _ => false) hb5) (fun _ _ => rfl))
                  have HIR5 := Lib.hid hir; have HZI5 := Lib.hid hzi; have HZL := Lib.hid hzl
                  clear hown hir hzi hzl hb5 HBH HLB HEL
                  obtain ⟨zb, hzb⟩ : ∃ zb, mv s b v = zb := ⟨_, rfl⟩
                  have HZB := Lib.hid hzb
                  rw [hzb] at HIR5 HZI5 HZL
                  clear hzb
                  go_wp2_with fail
                  refine (rStands_any ta tn tc to sl A2 tn C2 zb w5 (HT.out.below HLB5.out.bel) HZI5.out rfl (by omega) hs).mono ?_
                  rintro r w6 ⟨rfl, hb6⟩
                  have HLB6 := Lib.hid (HLB5.out.grow hb6)
                  have HEL6 := Lib.hid (HEL5.out.keep (TyO.below (B := fun _ => false) hb6) (fun _ _ => rfl))
                  have HIR6 := Lib.hid ((TyO.below (B := fun _ => false) hb6).introw HIR5.out (fun _ _ => rfl))
                  have HZI6 := Lib.hid (HZI5.out.below hb6)
                  clear hb6 HLB5 HEL5 HIR5 HZI5
                  by_cases hzk : okS to sl zb
                  · rw [decide_eq_true hzk]
                    have HZK := Lib.hid hzk
                    go_wp2_with fail
                    refine (rname_any A2 tn C2 zb w6 HZI6.out hn5 (fun x hx => okS_bd HZK.out x hx)).mono ?_
                    rintro r w7 ⟨rfl, hb7⟩
                    have HLB7 := Lib.hid (HLB6.out.grow hb7)
                    have HEL7 := Lib.hid (HEL6.out.keep (TyO.below (B := fun _ => false) hb7) (fun _ _ => rfl))
                    have HIR7 := Lib.hid ((TyO.below (B := fun _ => false) hb7).introw HIR6.out (fun _ _ => rfl))
                    have HZI7 := Lib.hid (HZI6.out.below hb7)
                    clear hb7 HLB6 HEL6 HIR6 HZI6 hzk
                    obtain ⟨kv, hlk, _⟩ := HLB7.out.fm.lookE (s := zb) (by rw [HZL.out]; omega)
                    have hlk1 := hlk w7 (Below.refl _ _)
                    rw [any_nm (fun e he => ⟨(HLI.out.ok e he).1, (HLI.out.ok e he).2.1⟩) HZK.out] at hlk1
                    clear hlk
                    by_cases hm : zb ∈ E.map (·.1)
                    · rw [decide_eq_true hm] at hlk1
                      have HK2 : Hid (KN to sl last E i b (v + 1)) := Lib.hid (HKN.out.next (by rw [HS9.out, HZB.out]; exact fun _ => hm))
                      obtain ⟨AN, CN, rfl⟩ := HLB7.out.nx.form
                      clear hm
                      go_wp2
                      go_roundw
                      case rel => exact ⟨v + 1, next, E, by omega, by omega, by go_num, HLB7, HLI, HME, HK2, HEL7⟩
                      case measure => simp [intOf]; omega
                    · rw [decide_eq_false hm] at hlk1
                      have HLI2 := Lib.hid (HLI.out.step (s := s) HMEM.out (b := b) (w := v) hbb ⟨hv1, by rw [HPT.out]; exact hvP⟩ (by rw [HZB.out]; exact HZK.out) (by rw [HZB.out]; exact hm))
                      rw [HZB.out] at HLI2
                      have HK2 : Hid (KN to sl last (E ++ [(zb, m + 1)]) i b (v + 1)) := Lib.hid ((HKN.out.app _).next (by
                        rw [HS9.out, HZB.out]
                        intro _
                        rw [List.map_append]
                        exact List.mem_append_right _ (by simp)))
                      have HNEW : Hid (∀ e ∈ E, nmL e.1 ≠ nmL zb) := Lib.hid (fun e he h => hm (by
                        have := nmL_inj (okS_bd (HLI.out.ok e he).1) (okS_bd HZK.out) h
                        rw [← this]
                        exact List.mem_map.2 ⟨e, he, rfl⟩))
                      clear hm
                      go_wp2_with fail
                      refine (rname_any A2 tn C2 zb w7 HZI7.out hn5 (fun x hx => okS_bd HZK.out x hx)).mono ?_
                      rintro r w8 ⟨rfl, hb8⟩
                      have HLB8 := Lib.hid (HLB7.out.grow hb8)
                      have HEL8 := Lib.hid (HEL7.out.keep (TyO.below (B := fun _ => false) hb8) (fun _ _ => rfl))
                      have HIR8 := Lib.hid ((TyO.below (B := fun _ => false) hb8).introw HIR7.out (fun _ _ => rfl))
                      clear hb8 HLB7 HEL7 HIR7 HZI7 hlk1
                      have hEl := HLI.out.len (by rw [HNL.out]; exact hn5)
                      obtain ⟨w9, hrun, hfm, hg9⟩ := HLB8.out.fm.store zb (m + 1) (by rw [HZL.out]; omega) (by omega) (by omega) HNEW.out
                      have hrun : (Instr.mapUpdate 46 (.map (some w.heap.size)) (.string (nmB zb)) (.int .i64 ((m : Int) + 1))).run Try.prog w8 = .ok () w9 := hrun
                      have hty := HLB8.out.ty hg9
                      have HLB9 := Lib.hid (HLB8.out.mapd hg9 hfm)
                      have HEL9 := Lib.hid (HEL8.out.keep hty (fun _ _ => rfl))
                      have HIR9 := Lib.hid (hty.introw HIR8.out (fun _ _ => rfl))
                      have HM2 : Hid (m + 1 + (next ++ [zb]).length ≤ (E ++ [(zb, m + 1)]).length) := Lib.hid (by
                        have := HME.out
                        simp only [List.length_append, List.length_singleton]
                        omega)
                      have hb10 : Below w9.heap.size w9 (w9.alloc (.cells #[.slice A2 tn C2] 22)) := (by repeat (first | exact Below.refl _ _ | refine Below.drew ?_ | refine below_drewN ?_ _ | refine Below.alloc ?_ (by first | exact Nat.le_refl _ | (simp; done) | (simp; omega) | omega) _ | refine Below.setCell ?_ (by first | exact Nat.le_refl _ | (simp; done) | (simp; omega) | omega) _ | refine bExtW ?_ (by first | exact Nat.le_refl _ | (simp; done) | (simp; omega) | omega) | refine Below.trans ?_ (Below.mono (by assumption) (by first | exact Nat.le_refl _ | (simp; done) | (simp; omega) | omega))))
                      have HLB10 := Lib.hid (HLB9.out.grow hb10)
                      have HEL10 := Lib.hid (HEL9.out.keep (TyO.below (B := fun _ => false) hb10) (fun _ _ => rfl))
                      have HIR10 := Lib.hid ((TyO.below (B := fun _ => false) hb10).introw HIR9.out (fun _ _ => rfl))
                      clear hb10 hty hg9 hfm HLB8 HLB9 HEL8 HEL9 HIR8 HIR9 HLI
                      obtain ⟨vs, hvs, happ⟩ := HLB10.out.app (.inr HIR10.out : EL w (w9.alloc (.cells #[.slice A2 tn C2] 22)) (.slice A2 tn C2) zb)
                      have cx : (w9.alloc (.cells #[.slice A2 tn C2] 22)).cell? ⟨w9.heap.size, 0, none⟩ = some (.slice A2 tn C2) := (row_one w9 (.slice A2 tn C2) 22).cell (i := 0) (by omega)
                      have hnl9 : next.length ≤ 250000 := by have := HME.out; omega
                      have HVS := Lib.hid hvs; have HAPP := Lib.hid happ; have HCX := Lib.hid cx
                      clear hvs happ cx hEl
                      go_wp2_with (at_builtin; refine wpAppK okPts rfl (.tmp 66) (.tmp 68) rfl w.heap.size _ next.length vs (.slice A2 tn C2) w9.heap.size rfl HVS.out rfl HCX.out rfl (by omega) (by omega) HLB10.out.bel.size ?_)
                      intro v' w11 hown11 hg11 hat11
                      obtain ⟨hty11, hlb11⟩ := HAPP.out v' w11 hown11 hg11 (by rw [World.size_alloc]; exact hat11)
                      have HLB11 := Lib.hid hlb11
                      have HEL11 := Lib.hid (HEL10.out.keep hty11 (fun _ _ => rfl))
                      obtain ⟨AN, CN, rfl⟩ := HLB11.out.nx.form
                      clear hown11 hg11 hat11 hty11 hlb11 HAPP HVS HCX HLB10 HEL10 HIR10 hrun
                      go_wp2
                      go_roundw
                      case rel => exact ⟨v + 1, next ++ [zb], E ++ [(zb, m + 1)], by omega, by omega, by go_num, HLB11, HLI2, HM2, HK2, HEL11⟩
                      case measure => simp [intOf]; omega
                  · rw [decide_eq_false hzk]
                    have HK2 : Hid (KN to sl last E i b (v + 1)) := Lib.hid (HKN.out.next (by rw [HS9.out, HZB.out]; exact fun h => absurd h hzk))
                    obtain ⟨AN, CN, rfl⟩ := HLB6.out.nx.form
                    clear hzk
                    go_wp2
                    go_roundw
                    case rel => exact ⟨v + 1, next, E, by omega, by omega, by go_num, HLB6, HLI, HME, HK2, HEL6⟩
                    case measure => simp [intOf]; omega
                · obtain rfl : v = P := by omega
                  have dv : decide ((v : Int) < (v : Int)) = false := by simp
                  have HK2 : Hid (KN to sl last E i (b + 1) 1) := Lib.hid (HKN.out.row (by rw [HPT.out]; exact Nat.le_refl _))
                  obtain ⟨AN, CN, rfl⟩ := HLB.out.nx.form
                  go_wp2
                  go_roundw
                  case rel => exact ⟨q + 1, next, E, by have := HB.out; omega, by have := HB.out; go_num, HLB, HLI, HME, by have := HB.out; rw [show ((q + 1 : Nat) : Int) - 2 = b + 1 by omega]; exact HK2, HEL⟩
                  case measure => simp [intOf]; omega
            · obtain rfl : q = 5 := by omega
              have HK2 := Lib.hid (KN.col HKN.out)
              obtain ⟨AN, CN, rfl⟩ := HLB.out.nx.form
              go_wp2
              go_roundw
              case rel => exact ⟨i + 1, next, E2, by omega, by go_num, HLB, HLI, HME, HK2⟩
              case measure => simp [intOf]; omega
        · obtain rfl : i = N := by omega
          have di : decide ((i : Int) < (i : Int)) = false := by simp
          have HLI2 : Hid (LI to sl (m + 1) next [] E1) := Lib.hid (HLI.out.done (KN.all (by have := HKN.out; rwa [← HN.out] at this)))
          have HLB2 := Lib.hid HLB.out.turn
          have HM2 : Hid (next ≠ [] → m + 1 + 1 ≤ E1.length) := Lib.hid (fun h => by
            have h1 := HME.out
            have h2 : 0 < next.length := List.length_pos_iff.2 h
            omega)
          have hl9 : next.length ≤ 250000 := by
            have h1 := HLI.out.nl
            have h2 := HLI.out.len (by rw [HNL.out]; exact hn5)
            omega
          obtain ⟨AN, CN, rfl⟩ := HLB.out.nx.form
          go_wp2
          go_roundw
          case rel => exact ⟨m + 1, next, E1, by go_num, HLB2, HLI2, HM2, hl9⟩
          case measure => simp [intOf]; omega
end Go.Proofs.Ytoooihoaapfjeaa
