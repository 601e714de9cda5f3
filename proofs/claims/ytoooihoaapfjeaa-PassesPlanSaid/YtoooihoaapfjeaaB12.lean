/- Lemmas and contracts of functions (what each call returns, and that it changes nothing that was there) that the proof of a law of this seat uses; each lemma states its own conditions. -/
import Derived.Test.YtoooihoaapfjeaaB11
import Derived.RangeFuncWrites
import Derived.RangeFuncNested
import Derived.Deep.LoopGhost
namespace Go.Proofs.Ytoooihoaapfjeaa
open Go.RowKit
set_option linter.unusedVariables false
set_option linter.unusedSimpArgs false
open Go.Shelf
open Ps Go.Maps
attribute [local go_sem] Oper.semAt_some
set_option maxRecDepth 100000 in
set_option maxHeartbeats 8000000 in
theorem far_ok (ta : Option Addr) (tn tc : Nat) (to : List Int) (sl : Int) (w : World) (hT : IsInts w ta tn to) (hn : 1 ≤ tn) (hn5 : tn ≤ 5) (hs : 1 ≤ sl ∧ sl ≤ 11) (hok : okS to sl to) :
    Calls Try.prog 14 #[.agg #[.slice ta tn tc, .int .i64 sl]] w fun e w' => ∃ mb i, e = .returned (.map (some mb)) ∧ i = (bfs to sl i).length ∧ FM mb (bfs to sl i) w' ∧ Below w.heap.size w w' ∧ w.heap.size ≤ mb := by
  have HT := Lib.hid hT; have HL := Lib.hid hT.1; have HOK := Lib.hid hok
  have hmm := @run_makeMap Try.prog
  have hkb : (-9223372036854775808 ≤ keyZ to ∧ keyZ to ≤ 9223372036854775807) := by
    have := keyZ_nat to (okS_bd hok) (by rw [hT.1]; exact hn5)
    omega
  have HKB := Lib.hid hkb
  clear hT hok hkb
  refine (callsIn_wide (n := 9)).1 ?_
  refine callsIn_of_wp_marks Try.func14 rfl trivial ?_ rfl
  simp only [Try.ntmps14, List.size_toArray, List.length_cons, List.length_nil, Nat.reduceAdd, Nat.reduceSub, Array.replicate_succ, Array.replicate_zero, List.push_toArray, List.append_toArray, List.nil_append, List.cons_append]
  refine wpIn_wide.2 ?_
  go_wp2_with fail
  refine (key_ok ta tn tc to _ (HT.out.below (by repeat (first | exact Below.refl _ _ | refine Below.drew ?_ | refine below_drewN ?_ _ | refine Below.alloc ?_ (by first | exact Nat.le_refl _ | (simp; done) | (simp; omega) | omega) _ | refine Below.setCell ?_ (by first | exact Nat.le_refl _ | (simp; done) | (simp; omega) | omega) _ | refine bExtW ?_ (by first | exact Nat.le_refl _ | (simp; done) | (simp; omega) | omega) | refine Below.trans ?_ (Below.mono (by assumption) (by first | exact Nat.le_refl _ | (simp; done) | (simp; omega) | omega))))) hn5 (fun x hx => by have := okS_bd HOK.out x hx; omega)).mono ?_
  rintro r w2 ⟨rfl, hb2⟩
  have hfm1 := FM.made (w.alloc (.cells #[.slice ta tn tc, .int .i64 sl] 35))
  rw [World.size_alloc] at hfm1
  have hfm2 := hfm1.keep (TyO.below (B := fun _ => false) hb2) (fun _ _ => rfl)
  obtain ⟨w3, hrun3, hfm3, hg3⟩ := hfm2.store to 0 HKB.out (by omega) (by simp) (by simp)
  have hrun3 : (Instr.mapUpdate 36 (.map (some (w.heap.size + 1))) (.int .i64 (keyZ to)) (.int .i64 (0))).run Try.prog w2 = .ok () w3 := hrun3
  have hpz3 : w3.rowIs w.heap.size 35 2 (pzF ta tn tc sl) := by
    have h1 := rowBelow ((pzF_alloc w ta tn tc sl).alloc (.map #[] 0)) hb2 (by simp; omega)
    obtain ⟨D, ⟨es, cl, h3, _⟩, _⟩ := hfm2
    exact (TyO.grown (B := Bmap) hg3 h3 rfl).row h1 (fun _ _ => rfl)
  have hb3 : Below w.heap.size w w3 := (Below.trans (show Below w.heap.size w ((w.alloc (.cells #[.slice ta tn tc, .int .i64 sl] 35)).alloc (.map #[] 0)) from (by repeat (first | exact Below.refl _ _ | refine Below.drew ?_ | refine below_drewN ?_ _ | refine Below.alloc ?_ (by first | exact Nat.le_refl _ | (simp; done) | (simp; omega) | omega) _ | refine Below.setCell ?_ (by first | exact Nat.le_refl _ | (simp; done) | (simp; omega) | omega) _ | refine bExtW ?_ (by first | exact Nat.le_refl _ | (simp; done) | (simp; omega) | omega) | refine Below.trans ?_ (Below.mono (by assumption) (by first | exact Nat.le_refl _ | (simp; done) | (simp; omega) | omega))))) (hb2.mono (by simp; omega))).grown hg3 (by have := hb2.size; simp at this; omega) (fun k e => by injection e with e; omega)
  have HFM3 := Lib.hid hfm3; have HPZ3 := Lib.hid hpz3; have HB3 := Lib.hid hb3
  have hs3 : w.heap.size + 1 < w3.heap.size := by
    obtain ⟨D, ⟨es, cl, h3, _⟩, _⟩ := hfm3
    exact (Array.getElem?_eq_some_iff.1 h3).1
  have p0 : w3.cell? ⟨w.heap.size, 0, none⟩ = some (.slice ta tn tc) := hpz3.cell (i := 0) (by omega)
  have p1 : w3.cell? ⟨w.heap.size, 1, none⟩ = some (.int .i64 (sl)) := hpz3.cell (i := 1) (by omega)
  have lp : LtW w.heap.size w3 := hpz3.lt
  clear hfm1 hfm2 hfm3 hg3 hpz3 hb3 hb2
  have hlp3 := HPZ3.out.lt
  go_wp2_with fail
  have hsz4 : (((w3.alloc (.cells #[.map (some (w.heap.size + 1))] 36)).alloc (.cells #[.slice ta tn tc] 22)).alloc (.cells #[.slice (some ⟨w3.heap.size + 1, 0, none⟩) 1 1] 53)).heap.size = w3.heap.size + 3 := by simp
  have hb4 : Below w3.heap.size w3 (((w3.alloc (.cells #[.map (some (w.heap.size + 1))] 36)).alloc (.cells #[.slice ta tn tc] 22)).alloc (.cells #[.slice (some ⟨w3.heap.size + 1, 0, none⟩) 1 1] 53)) := (by repeat (first | exact Below.refl _ _ | refine Below.drew ?_ | refine below_drewN ?_ _ | refine Below.alloc ?_ (by first | exact Nat.le_refl _ | (simp; done) | (simp; omega) | omega) _ | refine Below.setCell ?_ (by first | exact Nat.le_refl _ | (simp; done) | (simp; omega) | omega) _ | refine bExtW ?_ (by first | exact Nat.le_refl _ | (simp; done) | (simp; omega) | omega) | refine Below.trans ?_ (Below.mono (by assumption) (by first | exact Nat.le_refl _ | (simp; done) | (simp; omega) | omega))))
  have r1 := ((row_one w3 (.map (some (w.heap.size + 1))) 36).alloc (.cells #[.slice ta tn tc] 22)).alloc (.cells #[.slice (some ⟨w3.heap.size + 1, 0, none⟩) 1 1] 53)
  have r3 := row_one ((w3.alloc (.cells #[.map (some (w.heap.size + 1))] 36)).alloc (.cells #[.slice ta tn tc] 22)) (.slice (some ⟨w3.heap.size + 1, 0, none⟩) 1 1) 53
  have r2 : (((w3.alloc (.cells #[.map (some (w.heap.size + 1))] 36)).alloc (.cells #[.slice ta tn tc] 22)).alloc (.cells #[.slice (some ⟨w3.heap.size + 1, 0, none⟩) 1 1] 53)).heap[w3.heap.size + 1]? = some (.cells #[.slice ta tn tc] 22 (0, 0)) := by
    rw [Below.heap_alloc _ _ _ (by simp)]
    have := World.alloc_heap_new (w3.alloc (.cells #[.map (some (w.heap.size + 1))] 36)) (.cells #[.slice ta tn tc] 22)
    rwa [World.size_alloc] at this
  simp only [World.size_alloc] at r3
  have hfi : FI w.heap.size w3.heap.size (w3.heap.size + 1 + 1) (w.heap.size + 1) ta tn tc sl [(to, 0)] [to] (w3.heap.size + 1) 0 1 #[.slice ta tn tc] [.slice ta tn tc] w (((w3.alloc (.cells #[.map (some (w.heap.size + 1))] 36)).alloc (.cells #[.slice ta tn tc] 22)).alloc (.cells #[.slice (some ⟨w3.heap.size + 1, 0, none⟩) 1 1] 53)) :=
    ⟨rowBelow HPZ3.out hb4 HPZ3.out.lt, r1, r3, ⟨by simp, by unfold maxLen; omega, r2, by simp, by simp, fun j hj => by
        have : j = 0 := by simpa using hj
        subst this; rfl, fun j hj => by
        have : j = 0 := by simpa using hj
        subst this
        refine .inl ⟨ta, tc, ?_, ?_⟩
        · show Value.slice ta tn tc = _
          rw [← HL.out]; rfl
        · show IsInts w ta to.length to
          rw [HL.out]; exact HT.out⟩, HFM3.out.keep (TyO.below (B := fun _ => false) hb4) (fun _ _ => rfl), HB3.out.trans (hb4.mono HB3.out.size), Nat.le_refl _, by omega, by omega, by omega, by omega⟩
  have HFI := Lib.hid hfi
  clear r1 r2 r3 hb4 hfi p0 p1 lp hmm
  generalize (((w3.alloc (.cells #[.map (some (w.heap.size + 1))] 36)).alloc (.cells #[.slice ta tn tc] 22)).alloc (.cells #[.slice (some ⟨w3.heap.size + 1, 0, none⟩) 1 1] 53)) = W at *
  have hin : ∀ i, i ≤ (bfs to sl i).length → In to sl i (bfs to sl i) := fun i => bfs_in HOK.out i
  have HIN := Lib.hid hin
  clear hin hlp3
  refine wp_loop_ghost_k (fun nn a' w' => ∃ (i : Nat) (Ds : List Nat) (g o c : Nat) (cur : Array Value) (vs : List Value) (u5 u18 u19 u20 u21 u22 u23 u24 u25 u26 u27 u28 : Value), a' = { tmps := #[.agg #[.slice ta tn tc, .int .i64 sl], .pointer (some ⟨w.heap.size, 0, none⟩), .map none, .pointer (some ⟨w3.heap.size, 0, none⟩), .pointer (some ⟨w3.heap.size + 1 + 1, 0, none⟩), u5, undef, undef, undef, undef, .map (some (w.heap.size + 1)), .pointer (some ⟨w.heap.size, 0, none⟩), .slice ta tn tc, .int .i64 (keyZ to), .map (some (w.heap.size + 1)), .pointer (some ⟨w.heap.size, 0, none⟩), .slice ta tn tc, .slice (some ⟨w3.heap.size + 1, 0, none⟩) 1 1, u18, u19, u20, u21, u22, u23, u24, u25, u26, u27, u28, undef, undef, undef, undef, undef, undef, undef, undef, undef, undef, undef, undef, undef, undef, undef, undef, undef, undef, undef, undef, undef, undef, undef, undef, undef, undef, undef, undef, undef, undef, undef, undef, undef, undef, undef], defers := Ds.map mark } ∧ nn + i = 248833 ∧ i ≤ (bfs to sl i).length ∧
    Hid (FI w.heap.size w3.heap.size (w3.heap.size + 1 + 1) (w.heap.size + 1) ta tn tc sl (bfs to sl i) (((bfs to sl i).map (·.1)).drop i) g o c cur vs w w') ∧ Hid (Marks (w3.heap.size + 3) Ds w') ∧ w3.heap.size + 3 ≤ w'.heap.size) 248833 ?_ ?_
  · exact ⟨0, [], _, _, _, _, _, _, _, _, _, _, _, _, _, _, _, _, _, rfl, rfl, Nat.zero_le _, HFI, Lib.hid ⟨by simp, by simp, by simp⟩, by omega⟩
  · clear HFI hsz4 HFM3 HPZ3 HB3
    rintro nn _ wr ⟨i, Ds, g, o, c, cur, vs, u5, u18, u19, u20, u21, u22, u23, u24, u25, u26, u27, u28, rfl, hni, hib, HF, HM, hsz⟩ J K hJ hK
    have HJ := Lib.hid hJ
    clear hJ
    by_cases hi : i < (bfs to sl i).length
    · obtain ⟨s, hs0⟩ : ∃ s, ((bfs to sl i).getD i z).1 = s := ⟨_, rfl⟩
      obtain ⟨Q, hQ0⟩ : ∃ Q, ((bfs to sl i).map (·.1)).drop (i + 1) = Q := ⟨_, rfl⟩
      have hdr : ((bfs to sl i).map (·.1)).drop i = s :: Q := by
        rw [List.drop_eq_getElem_cons (by simpa using hi), hQ0]
        congr 1
        rw [← hs0, List.getElem_map, List.getD_eq_getElem?_getD, List.getElem?_eq_getElem hi]
        rfl
      have HF2 : Hid (FI w.heap.size w3.heap.size (w3.heap.size + 1 + 1) (w.heap.size + 1) ta tn tc sl (bfs to sl i) (s :: Q) g o c cur vs w wr) := Lib.hid (by rw [← hdr]; exact HF.out)
      have hme : okS to sl s ∧ s.length = to.length := by rw [← hs0]; exact (HIN.out i hib).ok _ (getD_mem' hi)
      have hbl := bfs_len (HIN.out i hib) (by rw [HL.out]; exact hn5)
      have hqc := HF2.out.qc
      have c0 : wr.cell? ⟨w3.heap.size + 1 + 1, 0, none⟩ = some (.slice (some ⟨g, o, none⟩) (Q.length + 1) c) := hqc.cell (i := 0) (by omega)
      have l0 : LtW (w3.heap.size + 1 + 1) wr := hqc.lt
      have f0 := hqc.frozen 0
      have hel := HF2.out.q.ro 0 (by simp)
      have c1 := HF2.out.q.cell (j := 0) (by simp)
      have hle := HF2.out.q.le
      have hlim := HF2.out.q.lim
      unfold maxLen at hlim
      simp only [List.getD_cons_zero, Nat.add_zero, List.length_cons] at hel c1 hle
      obtain ⟨A, m, hv, hAi⟩ := hel.ints HF2.out.bel
      rw [hv] at hel c1
      have lg : LtW g wr := (Array.getElem?_eq_some_iff.1 HF2.out.q.hp).1
      have HS0 := Lib.hid hs0; have HQ0 := Lib.hid hQ0; have HME := Lib.hid hme; have HEL := Lib.hid hel
      clear hs0 hQ0 hme hdr hqc hv hel hAi HF
      have b0 : decide (0 < Q.length + 1) = true := by simp
      have b1 : decide ((0 : Int) < (Q.length : Int) + 1) = true := by simp
      obtain ⟨g2, o', vs', hg2, heq, hpop⟩ := HF2.out.pop
      clear hg2
      clear g2
      have hsl : ∀ wx, (Instr.slice 53 (.slice (some ⟨g, o, none⟩) (Q.length + 1) c) (some (.int .i64 (1))) none none).run Try.prog wx = .ok (.slice (some ⟨g, o', none⟩) Q.length (c - 1)) wx := by
        intro wx
        rw [← heq]
        by_cases hc1 : c = 1
        · subst hc1
          have hQ0 : Q.length = 0 := by omega
          rw [hQ0]
          go_simp
        · rw [if_neg hc1]
          go_simp
          intro h
          exfalso
          omega
      clear heq
      go_wp2_with fail
      refine (callsIn_wide.1 (all_in s.length 9 _)).mono ?_
      rintro r w4 ⟨rfl, rfl⟩
      clear c0 l0 f0 c1 hsl b0 b1 lg
      have hkp : ∀ v, KeepsOthers wr (((wr.setCell ⟨w3.heap.size + 1 + 1, 0, none⟩ (.slice (some ⟨g, o', none⟩) Q.length (c - 1))).alloc (.cells #[v] 22)).alloc (.cells #[.int .i64 ((s.length : Nat))] 3)) := fun v => ((KeepsOthers.setCell _ _ _).trans (KeepsOthers.alloc _ _)).trans (KeepsOthers.alloc _ _)
      have hM5 := HM.out.keep ((hkp (.slice A s.length m)).from _)
      have hF5 := hpop.grow (w' := ((wr.setCell ⟨w3.heap.size + 1 + 1, 0, none⟩ (.slice (some ⟨g, o', none⟩) Q.length (c - 1))).alloc (.cells #[.slice A s.length m] 22)).alloc (.cells #[.int .i64 ((s.length : Nat))] 3)) (by repeat (first | exact Below.refl _ _ | refine Below.drew ?_ | refine below_drewN ?_ _ | refine Below.alloc ?_ (by first | exact Nat.le_refl _ | (simp; done) | (simp; omega) | omega) _ | refine Below.setCell ?_ (by first | exact Nat.le_refl _ | (simp; done) | (simp; omega) | omega) _ | refine bExtW ?_ (by first | exact Nat.le_refl _ | (simp; done) | (simp; omega) | omega) | refine Below.trans ?_ (Below.mono (by assumption) (by first | exact Nat.le_refl _ | (simp; done) | (simp; omega) | omega))))
      have hgl : g < wr.heap.size := (Array.getElem?_eq_some_iff.1 HF2.out.q.hp).1
      have hsz5 : (((wr.setCell ⟨w3.heap.size + 1 + 1, 0, none⟩ (.slice (some ⟨g, o', none⟩) Q.length (c - 1))).alloc (.cells #[.slice A s.length m] 22)).alloc (.cells #[.int .i64 ((s.length : Nat))] 3)).heap.size = wr.heap.size + 2 := by simp
      have hrow5 := (row_one (wr.setCell ⟨w3.heap.size + 1 + 1, 0, none⟩ (.slice (some ⟨g, o', none⟩) Q.length (c - 1))) (.slice A s.length m) 22).alloc (.cells #[.int .i64 ((s.length : Nat))] 3)
      have hnb5 := row_one ((wr.setCell ⟨w3.heap.size + 1 + 1, 0, none⟩ (.slice (some ⟨g, o', none⟩) Q.length (c - 1))).alloc (.cells #[.slice A s.length m] 22)) (.int .i64 ((s.length : Nat))) 3
      simp only [World.size_alloc, World.size_setCell] at hrow5 hnb5
      obtain ⟨cq, eq_, _⟩ := HF2.out.qc
      have hel5 : EL w (((wr.setCell ⟨w3.heap.size + 1 + 1, 0, none⟩ (.slice (some ⟨g, o', none⟩) Q.length (c - 1))).alloc (.cells #[.slice A s.length m] 22)).alloc (.cells #[.int .i64 ((s.length : Nat))] 3)) (.slice A s.length m) s :=
        (HEL.out.keep (TyO.setCell (B := Bq) (i := 0) (u := .slice (some ⟨g, o', none⟩) Q.length (c - 1)) eq_ rfl) (fun _ _ => rfl)).keep (TyO.below (B := fun _ => false) (by repeat (first | exact Below.refl _ _ | refine Below.drew ?_ | refine below_drewN ?_ _ | refine Below.alloc ?_ (by first | exact Nat.le_refl _ | (simp; done) | (simp; omega) | omega) _ | refine Below.setCell ?_ (by first | exact Nat.le_refl _ | (simp; done) | (simp; omega) | omega) _ | refine bExtW ?_ (by first | exact Nat.le_refl _ | (simp; done) | (simp; omega) | omega) | refine Below.trans ?_ (Below.mono (by assumption) (by first | exact Nat.le_refl _ | (simp; done) | (simp; omega) | omega))))) (fun _ _ => rfl)
      have hat5 : AT wr.heap.size g (wr.heap.size + 1) s.length (.slice A s.length m) s w (((wr.setCell ⟨w3.heap.size + 1 + 1, 0, none⟩ (.slice (some ⟨g, o', none⟩) Q.length (c - 1))).alloc (.cells #[.slice A s.length m] 22)).alloc (.cells #[.int .i64 ((s.length : Nat))] 3)) :=
        ⟨hnb5, hrow5, by omega, hel5, HF2.out.bel.size⟩
      have HF5 := Lib.hid hF5; have HM5 := Lib.hid hM5; have HAT5 := Lib.hid hat5
      clear hkp hM5 hF5 hrow5 hnb5 eq_ hel5 hat5 hpop HF2 HM HEL
      go_wp2_with fail
      have hDlt : ∀ D ∈ Ds, D < (((wr.setCell ⟨w3.heap.size + 1 + 1, 0, none⟩ (.slice (some ⟨g, o', none⟩) Q.length (c - 1))).alloc (.cells #[.slice A s.length m] 22)).alloc (.cells #[.int .i64 ((s.length : Nat))] 3)).heap.size := fun D hD => (Array.getElem?_eq_some_iff.1 (HM5.out.df D hD)).1
      have hpl := PLv_all s.length
      obtain ⟨d, hd⟩ : ∃ d, ((bfs to sl i).getD i z).2 = d := ⟨_, rfl⟩
      have hdi : d ≤ i := by rw [← hd]; exact bfs_d i i hi
      have hbn : bfs to sl (i + 1) = rnd to sl s d (bfs to sl i) (PL to.length) := by
        show (if _ then _ else _) = _
        rw [if_pos hi, HS0.out, hd]
      have HBN := Lib.hid hbn; have HPL := Lib.hid hpl; have HD := Lib.hid hd; have HDL := Lib.hid hDlt
      clear hbn hpl hd hDlt
      have hRI : RI w.heap.size w3.heap.size (w3.heap.size + 1 + 1) (w.heap.size + 1) ta tn tc to sl s d i (bfs to sl i) wr.heap.size (wr.heap.size + 1) (w3.heap.size + 3) (.slice A s.length m) Ds w s.length [] (((wr.setCell ⟨w3.heap.size + 1 + 1, 0, none⟩ (.slice (some ⟨g, o', none⟩) Q.length (c - 1))).alloc (.cells #[.slice A s.length m] 22)).alloc (.cells #[.int .i64 ((s.length : Nat))] 3)) :=
        ⟨g, o', c - 1, cur, vs', by
          have e : ((rnd to sl s d (bfs to sl i) []).map (·.1)).drop (i + 1) = Q := HQ0.out
          show FI _ _ _ _ _ _ _ _ _ (((rnd to sl s d (bfs to sl i) []).map (·.1)).drop (i + 1)) _ _ _ _ _ _ _
          rw [e]
          exact HF5.out, HAT5.out, HM5.out⟩
      generalize ((wr.setCell ⟨w3.heap.size + 1 + 1, 0, none⟩ (.slice (some ⟨g, o', none⟩) Q.length (c - 1))).alloc (.cells #[.slice A s.length m] 22)).alloc (.cells #[.int .i64 ((s.length : Nat))] 3) = W5 at *
      have hnl : s.length = tn := HME.out.2.trans HL.out
      obtain ⟨n, hnn⟩ : ∃ n, s.length = n := ⟨_, rfl⟩
      rw [hnn] at hRI HAT5 HPL hnl ⊢
      obtain ⟨ab, hab⟩ : ∃ ab, wr.heap.size = ab := ⟨_, rfl⟩
      rw [hab] at hRI HAT5 hsz5 hsz hgl ⊢
      have HRI := Lib.hid hRI
      have hNB : NB (ab + 1) n W5 := HAT5.out.tb.cell (i := 0) (by omega)
      have HNN := Lib.hid hnn; have HNL := Lib.hid hnl
      clear hRI hab hnn hnl HF5 HM5
      refine (wpIn_wide (n := 9)).1 ?_
      refine wpIn_rangeFunc_ownH rfl (by omega) (gf := 27) (lb := #[.pointer (some ⟨ab + 1, 0, none⟩)]) rfl trivial (enters_of Try.func27 (by kernel_rfl) rfl)
        (all_stops 8 (by omega) (ab + 1) n (by rw [HNL.out]; exact hn) (by rw [HNL.out]; exact hn5) W5 hNB) (fun h k x => k (h x))
        (fun A l o o' _ ho hc _ x => cell_kept x (grownBy_putObj' A l o') (fun r e => by cases e; exact ⟨o, ho, hc⟩)) (Below.refl _ _) (fun _ => rfl)
        (fun pre W' => RI w.heap.size w3.heap.size (w3.heap.size + 1 + 1) (w.heap.size + 1) ta tn tc to sl s d i (bfs to sl i) ab (ab + 1) (w3.heap.size + 3) (.slice A n m) Ds w n pre W') (fun _ _ _ => False)
        (fun s A B row hs hg hr => hs.kept hg (fun r e => ⟨⟨by have := (hr r e).1; omega, by have := (hr r e).1; omega, (hr r e).2⟩, fun D hD => by have := HDL.out D hD; have := (hr r e).1; omega⟩)) (fun _ _ _ _ _ hs _ _ => hs) HRI.out
        (fun x a' W' => ∃ B, W'.rowIs B 43 2 (psF (PLv n x.val)) ∧ a' = { tmps := #[.agg #[.slice ta tn tc, .int .i64 sl], .pointer (some ⟨w.heap.size, 0, none⟩), .map none, .pointer (some ⟨w3.heap.size, 0, none⟩), .pointer (some ⟨w3.heap.size + 1 + 1, 0, none⟩), .pointer (some ⟨ab, 0, none⟩), .pointer (some ⟨B, 0, none⟩), undef, undef, undef, .map (some (w.heap.size + 1)), .pointer (some ⟨w.heap.size, 0, none⟩), .slice ta tn tc, .int .i64 (keyZ to), .map (some (w.heap.size + 1)), .pointer (some ⟨w.heap.size, 0, none⟩), .slice ta tn tc, .slice (some ⟨w3.heap.size + 1, 0, none⟩) 1 1, .slice (some ⟨g, o, none⟩) (Q.length + 1) c, .int .i64 ((Q.length : Int) + 1), .bool true, .slice (some ⟨g, o, none⟩) (Q.length + 1) c, .pointer (some ⟨g, o, none⟩), .slice A n m, .slice (some ⟨g, o, none⟩) (Q.length + 1) c, .slice (some ⟨g, o', none⟩) Q.length (c - 1), .slice A n m, .int .i64 (n), .func (.func 27) #[] #[.pointer (some ⟨ab + 1, 0, none⟩)], .agg #[.int .i64 ((PLv n x.val).1), .int .i64 (((PLv n x.val).2 : Nat))], undef, undef, undef, undef, undef, undef, undef, undef, undef, undef, undef, undef, undef, undef, undef, undef, undef, undef, undef, undef, undef, undef, undef, undef, undef, undef, undef, undef, undef, undef, undef, undef, undef, undef], defers := [] })
        (fun x a' _ X Y row hs hg hr => by
          obtain ⟨B, h1, h2⟩ := hs
          exact ⟨B, rowIs_kept h1 hg (fun r e => (hr r e).2), h2⟩)
        ?assign ?body ?done ?stop
      case assign =>
        rintro l pre x W4 K hi hK
        have HI4 := Lib.hid hi
        clear hi
        gi_wp2
        have hb4 : Below W4.heap.size W4 (W4.alloc (.cells #[.int .i64 ((PLv n x.val).1), .int .i64 (((PLv n x.val).2 : Nat))] 43)) := (by repeat (first | exact Below.refl _ _ | refine Below.drew ?_ | refine below_drewN ?_ _ | refine Below.alloc ?_ (by first | exact Nat.le_refl _ | (simp; done) | (simp; omega) | omega) _ | refine Below.setCell ?_ (by first | exact Nat.le_refl _ | (simp; done) | (simp; omega) | omega) _ | refine bExtW ?_ (by first | exact Nat.le_refl _ | (simp; done) | (simp; omega) | omega) | refine Below.trans ?_ (Below.mono (by assumption) (by first | exact Nat.le_refl _ | (simp; done) | (simp; omega) | omega))))
        exact hK _ _ ((KeepsOthers.alloc _ _).from _) (fun h => bCs hb4 h) (HI4.out.grow hb4) ⟨W4.heap.size, psF_alloc _ _, rfl⟩
      case body =>
        rintro l pre x a' W4 hl hlr ⟨g2, o2, c2, cur2, vs2, hF, hAT, hMk⟩ ⟨B, hB, rfl⟩ hlt
        have hv := PLv_valid x.isLt
        obtain ⟨E, hE⟩ : ∃ E, rnd to sl s d (bfs to sl i) (pre.map fun x => PLv n x.val) = E := ⟨_, rfl⟩
        have hin := In.rnd (pre.map fun x => PLv n x.val) (bfs to sl i) (HIN.out i hib) hi (fun p hp => by
          obtain ⟨y, _, rfl⟩ := List.mem_map.1 hp
          rw [← HME.out.2, HNN.out]
          exact PLv_valid y.isLt)
        rw [HS0.out, HD.out, hE] at hin
        have hEi : E.getD i z = (s, d) := (hin.2.2.1 i hi).trans (by rw [← HS0.out, ← HD.out])
        have hEl : i < E.length := by omega
        have hsn := rnd_snoc to sl s d (bfs to sl i) (pre.map fun x => PLv n x.val) (PLv n x.val)
        rw [hE] at hF hsn
        have hIE := hin.1
        have hEL := bfs_len hIE (by rw [HL.out]; exact hn5)
        have hend : ∀ W', KeepsFrom (w3.heap.size + 3) W4 W' → (∃ g o c cur vs, FI w.heap.size w3.heap.size (w3.heap.size + 1 + 1) (w.heap.size + 1) ta tn tc sl (step1 to sl s d E (PLv n x.val)) (((step1 to sl s d E (PLv n x.val)).map (·.1)).drop (i + 1)) g o c cur vs w W' ∧ AT ab g (ab + 1) n (.slice A n m) s w W') →
            KeepsFrom W5.heap.size W4 W' ∧ (NB (ab + 1) n W4 → NB (ab + 1) n W') ∧ RI w.heap.size w3.heap.size (w3.heap.size + 1 + 1) (w.heap.size + 1) ta tn tc to sl s d i (bfs to sl i) ab (ab + 1) (w3.heap.size + 3) (.slice A n m) Ds w n (pre ++ [x]) W' := fun W' hk ⟨g, o, c, cur, vs, h1, h2⟩ => by
          refine ⟨keepsFrom_up hk (by omega), fun _ => h2.tb.cell (i := 0) (by omega), ?_⟩
          unfold RI
          rw [List.map_append, List.map_singleton, hsn]
          exact ⟨g, o, c, cur, vs, h1, h2, hMk.keep hk⟩
        generalize PLv n x.val = p at *
        obtain ⟨b, wh⟩ := p
        simp only at hv hB ⊢
        have h2n : 2 ^ n ≤ 2 ^ 5 := Nat.pow_le_pow_right (by omega) (by rw [HNL.out]; exact hn5)
        have hwh : wh < 32 := by have := hv.2.2; simp only at this; omega
        have hbb : -2 ≤ -b ∧ -b ≤ 2 := by have := hv.1; simp only at this; omega
        obtain ⟨A', m', e, hsi⟩ := hAT.el.ints hF.bel
        have hsi : IsInts W4 A n s := by
          rw [HNN.out] at e hsi
          injection e with e1 e2 e3
          rw [e1]
          exact hsi
        have hmv := moved_ok A n m s (-b) wh W4 hsi (by rw [HNL.out]; exact hn5) (fun y hy => by have := okS_bd HME.out.1 y hy; omega) hbb hwh
        have ca : W4.cell? ⟨ab, 0, none⟩ = some (.slice A n m) := hAT.row.cell (i := 0) (by omega)
        have la : LtW ab W4 := hAT.row.lt
        have c0 : W4.cell? ⟨B, 0, none⟩ = some (.int .i64 (b)) := hB.cell (i := 0) (by omega)
        have c1 : W4.cell? ⟨B, 1, none⟩ = some (.int .i64 ((wh : Nat))) := hB.cell (i := 1) (by omega)
        have lB : LtW B W4 := hB.lt
        have v0 : IntKind.i64.wrap (-b) = -b := IntWalk.i64_in _ (by omega)
        have HV := Lib.hid hv; have HF4 := Lib.hid hF; have HA4 := Lib.hid hAT; have HM4 := Lib.hid hMk; have HEND := Lib.hid hend
        have HIE := Lib.hid hIE; have HEI := Lib.hid hEi; have HMV := Lib.hid hmv; have HSI := Lib.hid hsi
        clear hv hF hAT hMk hend hIE hEi hmv hin hsn hE hsi e hB h2n
        gi_wp2
        refine ⟨trivial, ?_⟩
        gi_at_call 17
        refine (CallsIn.inRound l (callsIn_wide.2 HMV.out)).mono ?_
        rintro e W6 ⟨A2, C2, rfl, hown, hb6⟩
        obtain ⟨zb, hzb⟩ : ∃ zb, mv s (-b) wh = zb := ⟨_, rfl⟩
        have hzl : zb.length = n := by rw [← hzb, mv_len]; exact HNN.out
        have hst : step1 to sl s d E (b, wh) = if okS to sl zb ∧ zb ∉ E.map (·.1) then E ++ [(zb, d + 1)] else E := by rw [← hzb]; rfl
        rw [hst] at HEND
        rw [hzb] at hown ⊢
        rw [hzl] at hown ⊢
        have hF6 := HF4.out.grow hb6
        have HA6 := Lib.hid (HA4.out.keep (TyO.below (B := fun _ => false) hb6) (fun _ _ => rfl) (fun _ _ => rfl))
        have HK6 : Hid (KeepsFrom (w3.heap.size + 3) W4 W6) := Lib.hid ((keepsOthers_of_below hb6).from _)
        have hER : IntRow W6 (.slice A2 n C2) zb := IntRow.of_own (base := W4.heap.size) (by rw [hzl]; exact hown)
        have hzi : IsInts W6 A2 n zb := by
          obtain ⟨A3, C3, e3, h3⟩ := hER.ints
          rw [hzl] at e3 h3
          injection e3 with e4 e5 e6
          rw [e4]; exact h3
        have HOK6 := Lib.hid (ok_any ta tn tc to sl A2 n C2 zb W6 (HT.out.below hF6.bel) hzi HNL.out.symm (by rw [HNL.out]; omega) hs)
        have p0 : W6.cell? ⟨w.heap.size, 0, none⟩ = some (.slice ta tn tc) := hF6.pz.cell (i := 0) (by omega)
        have p1 : W6.cell? ⟨w.heap.size, 1, none⟩ = some (.int .i64 (sl)) := hF6.pz.cell (i := 1) (by omega)
        have lp : LtW w.heap.size W6 := hF6.pz.lt
        have HF6 := Lib.hid hF6; have HER := Lib.hid hER; have HZI := Lib.hid hzi; have HZL := Lib.hid hzl
        have HSI6 := Lib.hid (HSI.out.below hb6)
        clear hst hzb hown hF6 hER hzi ca la c0 c1 lB v0 hzl HF4 HA4 HM4 HMV hb6
        gi_wp2
        refine ⟨trivial, ?_⟩
        gi_at_call 18
        refine (CallsIn.inRound l (callsIn_wide.2 HOK6.out)).mono ?_
        rintro e W7 ⟨rfl, hb7⟩
        have HF7 := Lib.hid (HF6.out.grow hb7)
        have HA7 := Lib.hid (HA6.out.keep (TyO.below (B := fun _ => false) hb7) (fun _ _ => rfl) (fun _ _ => rfl))
        have HK7 : Hid (KeepsFrom (w3.heap.size + 3) W4 W7) := Lib.hid (HK6.out.trans ((keepsOthers_of_below hb7).from _))
        have HER7 : Hid (IntRow W7 (.slice A2 n C2) zb) := Lib.hid ((TyO.below (B := fun _ => false) hb7).introw HER.out (fun _ _ => rfl))
        have HZI7 := Lib.hid (HZI.out.below hb7); have HSI7 := Lib.hid (HSI6.out.below hb7)
        clear p0 p1 lp HF6 HA6 HK6 HER HZI HOK6 hb7
        by_cases hzk : okS to sl zb
        · rw [decide_eq_true hzk]
          have HKZ : Hid ((-9223372036854775808 ≤ keyZ zb ∧ keyZ zb ≤ 9223372036854775807)) := Lib.hid (by
            have := keyZ_nat zb (okS_bd hzk) (by rw [HZL.out, HNL.out]; exact hn5)
            omega)
          have HKC : Hid (∀ E d, Calls Try.prog 15 #[.slice A2 n C2] (extW W7 E d) fun e w' => e = .returned (.int .i64 (keyZ zb)) ∧ Below (extW W7 E d).heap.size (extW W7 E d) w') := Lib.hid (fun E d =>
            key_ok A2 n C2 zb _ (HZI7.out.below (bExtW (Below.refl _ _) (Nat.le_refl _))) (by rw [HNL.out]; exact hn5) (fun x hx => by have := okS_bd hzk x hx; omega))
          have HANY := any_key HIE.out hzk (HZL.out.trans (HNN.out.symm.trans HME.out.2))
          obtain ⟨kv, hlk, _⟩ := HF7.out.fm.lookE HKZ.out
          obtain ⟨kn, hkn⟩ : ∃ kn, decide (zb ∈ E.map (·.1)) = kn := ⟨_, rfl⟩
          rw [hkn] at HANY
          have HKN := Lib.hid hkn; have HANYH := Lib.hid HANY
          clear hkn
          have hlk1 : ∀ E' d', (Instr.lookup 36 (.map (some (w.heap.size + 1))) (.int .i64 (keyZ zb)) true).run Try.prog (extW W7 E' d') = .ok (.tuple #[.int .i64 kv, .bool kn]) (extW W7 E' d') := fun E' d' => by
            rw [← HANY]
            exact (hlk _ (bExtW (Below.refl _ _) (Nat.le_refl _))).1
          have cf : W7.cell? ⟨w3.heap.size, 0, none⟩ = some (.map (some (w.heap.size + 1))) := HF7.out.fc.cell (i := 0) (by omega)
          have lf : LtW w3.heap.size W7 := HF7.out.fc.lt
          clear hlk HANY
          gi_wp2
          (refine region_inRound (by kernel_rfl) (by kernel_rfl) (fun a w h => h) (any_region_ext (by kernel_rfl) ?_); (repeat (first | ((with_reducible refine ext_step (fun K hK => ?_)); go_simp; first | (refine hK _ ?_; clear hK K) | (apply Exists.intro; refine ⟨fun _ _ => ?_, hK _ ?_⟩; (go_at_call 15; exact extOf (HKC.out _ _)); clear hK K)))); refine wpQuiet_nil ?_; intro E9 d9)
          have hb8 : Below W7.heap.size W7 (extW W7 E9 d9) := bExtW (Below.refl _ _) (Nat.le_refl _)
          have HF8 := Lib.hid (HF7.out.grow hb8)
          have HA8 := Lib.hid (HA7.out.keep (TyO.below (B := fun _ => false) hb8) (fun _ _ => rfl) (fun _ _ => rfl))
          have HK8 : Hid (KeepsFrom (w3.heap.size + 3) W4 (extW W7 E9 d9)) := Lib.hid (HK7.out.trans ((keepsOthers_of_below hb8).from _))
          have HER8 : Hid (IntRow (extW W7 E9 d9) (.slice A2 n C2) zb) := Lib.hid ((TyO.below (B := fun _ => false) hb8).introw HER7.out (fun _ _ => rfl))
          have HZI8 := Lib.hid (HZI7.out.below hb8); have HSI8 := Lib.hid (HSI7.out.below hb8)
          generalize extW W7 E9 d9 = W8 at *
          clear hlk1 cf lf HKC HF7 HA7 HK7 HER7 HZI7 HSI7 hb8
          cases kn
          rotate_left
          · have hm : zb ∈ E.map (·.1) := of_decide_eq_true HKN.out
            rw [if_neg (by simp [hm])] at HEND
            have HEND2 := HEND.out W8 HK8.out ⟨_, _, _, _, _, HF8.out, HA8.out⟩
            clear hm
            gi_wp2
            exact HEND2
          · have hm : zb ∉ E.map (·.1) := of_decide_eq_false HKN.out
            rw [if_pos ⟨hzk, hm⟩] at HEND
            have HKZ8 : Hid (∀ E d, Calls Try.prog 15 #[.slice A2 n C2] (extW W8 E d) fun e w' => e = .returned (.int .i64 (keyZ zb)) ∧ Below (extW W8 E d).heap.size (extW W8 E d) w') := Lib.hid (fun E d =>
              key_ok A2 n C2 zb _ (HZI8.out.below (bExtW (Below.refl _ _) (Nat.le_refl _))) (by rw [HNL.out]; exact hn5) (fun x hx => by have := okS_bd hzk x hx; omega))
            have HKS8 : Hid (∀ E d, Calls Try.prog 15 #[.slice A n m] (extW W8 E d) fun e w' => e = .returned (.int .i64 (keyZ s)) ∧ Below (extW W8 E d).heap.size (extW W8 E d) w') := Lib.hid (fun E d =>
              key_ok A n m s _ (HSI8.out.below (bExtW (Below.refl _ _) (Nat.le_refl _))) (by rw [HNL.out]; exact hn5) (fun x hx => by have := okS_bd HME.out.1 x hx; omega))
            obtain ⟨kv2, hlk, hkv⟩ := HF8.out.fm.lookE (k := keyZ s) (by
              have := keyZ_nat s (okS_bd HME.out.1) (by rw [HNN.out, HNL.out]; exact hn5)
              omega)
            have hkd : kv2 = (d : Nat) := by
              have := hkv (E.getD i z) (getD_mem' hEl) (by rw [HEI.out])
              rw [HEI.out] at this
              exact this
            subst hkd
            have hlk2 : ∀ E' d', (Instr.lookup 36 (.map (some (w.heap.size + 1))) (.int .i64 (keyZ s)) false).run Try.prog (extW W8 E' d') = .ok (.int .i64 (d : Nat)) (extW W8 E' d') := fun E' d' =>
              (hlk _ (bExtW (Below.refl _ _) (Nat.le_refl _))).2
            have cf : W8.cell? ⟨w3.heap.size, 0, none⟩ = some (.map (some (w.heap.size + 1))) := HF8.out.fc.cell (i := 0) (by omega)
            have lf : LtW w3.heap.size W8 := HF8.out.fc.lt
            have ca : W8.cell? ⟨ab, 0, none⟩ = some (.slice A n m) := HA8.out.row.cell (i := 0) (by omega)
            have la : LtW ab W8 := HA8.out.row.lt
            have v1 : IntKind.i64.wrap ((d : Int) + 1) = (d : Int) + 1 := IntWalk.i64_in _ (by omega)
            have HMN := Lib.hid hm
            clear hlk hkv hm
            gi_wp2
            (refine region_inRound (by kernel_rfl) (by kernel_rfl) (fun a w h => h) (any_region_ext_tail 8 (by kernel_rfl) (by kernel_rfl) ?_); simp only [List.take_succ_cons, List.take_zero, List.drop_succ_cons, List.drop_zero]; (repeat (first | ((with_reducible refine ext_step (fun K hK => ?_)); go_simp; first | (refine hK _ ?_; clear hK K) | (apply Exists.intro; refine ⟨fun _ _ => ?_, hK _ ?_⟩; (go_at_call 15; first | with_reducible exact extOf (HKZ8.out _ _) | with_reducible exact extOf (HKS8.out _ _)); clear hK K)))); refine wpQuiet_nil ?_; intro E9 d9)
            have hb9 : Below W8.heap.size W8 (extW W8 E9 d9) := bExtW (Below.refl _ _) (Nat.le_refl _)
            have hF9 := HF8.out.grow hb9
            have hA9 := HA8.out.keep (TyO.below (B := fun _ => false) hb9) (fun _ _ => rfl) (fun _ _ => rfl)
            have hK9 : KeepsFrom (w3.heap.size + 3) W4 (extW W8 E9 d9) := HK8.out.trans ((keepsOthers_of_below hb9).from _)
            have hER9 : IntRow (extW W8 E9 d9) (.slice A2 n C2) zb := (TyO.below (B := fun _ => false) hb9).introw HER8.out (fun _ _ => rfl)
            generalize extW W8 E9 d9 = W9 at *
            obtain ⟨W10, hrun, hfm, hg⟩ := hF9.fm.store zb (d + 1) HKZ.out (by omega) (by omega) (fun e he h => by
              have := List.any_eq_false.1 HANYH.out e he
              rw [h] at this
              simp at this)
            have hrun : (Instr.mapUpdate 36 (.map (some (w.heap.size + 1))) (.int .i64 (keyZ zb)) (.int .i64 ((d : Int) + 1))).run Try.prog W9 = .ok () W10 := hrun
            obtain ⟨Q2, hQ2⟩ : ∃ Q2, (E.map (·.1)).drop (i + 1) = Q2 := ⟨_, rfl⟩
            have hQE : ((E ++ [(zb, d + 1)]).map (·.1)).drop (i + 1) = Q2 ++ [zb] := by
              rw [List.map_append, List.drop_append_of_le_length (by rw [List.length_map]; omega), hQ2]
              rfl
            have hQl : Q2.length ≤ 1000000 := by rw [← hQ2, List.length_drop, List.length_map]; omega
            rw [hQE] at HEND
            rw [hQ2] at hF9
            have hF10 := hF9.mapd hg hfm
            obtain ⟨D9, ⟨es9, cl9, h9, _⟩, _⟩ := hF9.fm
            have hty : TyO Bmap W9 W10 := TyO.grown hg h9 rfl
            have hF11 := hF10.grow (w' := W10.alloc (.cells #[.slice A2 n C2] 22)) (by repeat (first | exact Below.refl _ _ | refine Below.drew ?_ | refine below_drewN ?_ _ | refine Below.alloc ?_ (by first | exact Nat.le_refl _ | (simp; done) | (simp; omega) | omega) _ | refine Below.setCell ?_ (by first | exact Nat.le_refl _ | (simp; done) | (simp; omega) | omega) _ | refine bExtW ?_ (by first | exact Nat.le_refl _ | (simp; done) | (simp; omega) | omega) | refine Below.trans ?_ (Below.mono (by assumption) (by first | exact Nat.le_refl _ | (simp; done) | (simp; omega) | omega))))
            have hA11 := (hA9.keep hty (fun _ _ => rfl) (fun _ _ => rfl)).keep (TyO.below (B := fun _ => false) (show Below W10.heap.size W10 (W10.alloc (.cells #[.slice A2 n C2] 22)) from (by repeat (first | exact Below.refl _ _ | refine Below.drew ?_ | refine below_drewN ?_ _ | refine Below.alloc ?_ (by first | exact Nat.le_refl _ | (simp; done) | (simp; omega) | omega) _ | refine Below.setCell ?_ (by first | exact Nat.le_refl _ | (simp; done) | (simp; omega) | omega) _ | refine bExtW ?_ (by first | exact Nat.le_refl _ | (simp; done) | (simp; omega) | omega) | refine Below.trans ?_ (Below.mono (by assumption) (by first | exact Nat.le_refl _ | (simp; done) | (simp; omega) | omega)))))) (fun _ _ => rfl) (fun _ _ => rfl)
            have hK11 : KeepsFrom (w3.heap.size + 3) W4 (W10.alloc (.cells #[.slice A2 n C2] 22)) := (hK9.trans (KeepsFrom.of_grownBy hg (fun j e => by injection e with e; omega))).trans ((KeepsOthers.alloc _ _).from _)
            have hER11 : EL w (W10.alloc (.cells #[.slice A2 n C2] 22)) (.slice A2 n C2) zb := .inr ((TyO.below (B := fun _ => false) (show Below W10.heap.size W10 (W10.alloc (.cells #[.slice A2 n C2] 22)) from (by repeat (first | exact Below.refl _ _ | refine Below.drew ?_ | refine below_drewN ?_ _ | refine Below.alloc ?_ (by first | exact Nat.le_refl _ | (simp; done) | (simp; omega) | omega) _ | refine Below.setCell ?_ (by first | exact Nat.le_refl _ | (simp; done) | (simp; omega) | omega) _ | refine bExtW ?_ (by first | exact Nat.le_refl _ | (simp; done) | (simp; omega) | omega) | refine Below.trans ?_ (Below.mono (by assumption) (by first | exact Nat.le_refl _ | (simp; done) | (simp; omega) | omega)))))).introw (hty.introw hER9 (fun _ _ => rfl)) (fun _ _ => rfl))
            have cx : (W10.alloc (.cells #[.slice A2 n C2] 22)).cell? ⟨W10.heap.size, 0, none⟩ = some (.slice A2 n C2) := (row_one W10 (.slice A2 n C2) 22).cell (i := 0) (by omega)
            have cq : W10.cell? ⟨w3.heap.size + 1 + 1, 0, none⟩ = some (.slice (some ⟨g2, o2, none⟩) Q2.length c2) := hF10.qc.cell (i := 0) (by omega)
            have lq : LtW (w3.heap.size + 1 + 1) W10 := hF10.qc.lt
            have HF11 := Lib.hid hF11; have HA11 := Lib.hid hA11; have HK11 := Lib.hid hK11; have HER11 := Lib.hid hER11; have HCX := Lib.hid cx; have HQL := Lib.hid hQl
            clear hb9 hF9 hA9 hK9 hER9 hfm hg hQ2 hQE hF10 h9 hty hF11 hA11 hK11 hER11 cx hlk2 cf lf ca la v1 hQl
            go_wp2_with fail
            gi_wp2_with (gi_at_builtin; refine wpAppQ rfl (.tmp 59) (.tmp 61) rfl HF11.out HER11.out rfl rfl HCX.out HQL.out HA11.out ?_)
            intro g9 o9 c9 cur9 vs9 W12 hfi hat hqc hqf hql hko
            have HE := Lib.hid (HEND.out _ ((HK11.out.trans (hko.from _)).trans ((KeepsOthers.setCell _ _ _).from _)) ⟨_, _, _, _, _, hfi, hat⟩)
            clear hfi hat
            gi_wp2
            exact HE.out
        · rw [decide_eq_false hzk]
          rw [if_neg (by simp [hzk])] at HEND
          have HEND2 := HEND.out W7 HK7.out ⟨_, _, _, _, _, HF7.out, HA7.out⟩
          gi_wp2
          exact HEND2
      case done =>
        rintro D ys W6 hD rfl ⟨g2, o2, c2, cur2, vs2, hF, hAT, hMk⟩ hDd
        have hbn := HBN.out
        rw [HPL.out, ← HNN.out, HME.out.2, ← hbn] at hF
        have hM2 : Marks (w3.heap.size + 3) (D :: Ds) W6 := ⟨fun D' hD' => by
            rcases List.mem_cons.1 hD' with rfl | h
            · exact hDd
            · exact hMk.df D' h, List.nodup_cons.2 ⟨fun h => by have := HDL.out D h; omega, hMk.nd⟩, fun D' hD' => by
            rcases List.mem_cons.1 hD' with rfl | h
            · omega
            · exact hMk.lo D' h⟩
        have hsz6 : w3.heap.size + 3 ≤ W6.heap.size := by have := (Array.getElem?_eq_some_iff.1 hDd).1; omega
        have hlen : i + 1 ≤ (bfs to sl (i + 1)).length := by
          rw [hbn]
          have := (In.rnd (PL to.length) (bfs to sl i) (HIN.out i hib) hi (fun p hp => mem_PL.1 hp)).2.1
          rw [HS0.out, HD.out] at this
          omega
        have HF6 := Lib.hid hF; have HM6 := Lib.hid hM2
        clear hF hAT hMk hM2 hbn hDd
        go_wp2
        refine Handed.intro (nn - 1) (by omega) (HJ.out _ _ _ ?_)
        exact ⟨i + 1, D :: Ds, g2, o2, c2, cur2, vs2, _, _, _, _, _, _, _, _, _, _, _, _, rfl, by omega, hlen, HF6, HM6, hsz6⟩
      case stop => rintro D cc pre W4 _ _ h _; exact h.elim
    · have hie : i = (bfs to sl i).length := by omega
      have HIE := Lib.hid hie
      have hF := HF.out
      rw [List.drop_eq_nil_of_le (by rw [List.length_map]; omega)] at hF
      have c0 : wr.cell? ⟨w3.heap.size + 1 + 1, 0, none⟩ = some (.slice (some ⟨g, o, none⟩) 0 c) := hF.qc.cell (i := 0) (by omega)
      have cf : wr.cell? ⟨w3.heap.size, 0, none⟩ = some (.map (some (w.heap.size + 1))) := hF.fc.cell (i := 0) (by omega)
      have HF2 := Lib.hid hF
      clear HF hF HJ hie
      go_wp2
      refine leaves_marks (n0 := w3.heap.size + 3) Ds wr HM.out ?_ hsz
      intro w9 h1 h2
      refine ⟨.map (some (w.heap.size + 1)), by simp [results, Try.f14, go_sem], w.heap.size + 1, i, rfl, HIE.out, HF2.out.fm.keep h1 (fun _ _ => rfl), HF2.out.bel.trans (h2.mono (by omega)), by omega⟩
end Go.Proofs.Ytoooihoaapfjeaa
