/- Lemmas on which the law of this seat rests; each states its own conditions. -/
import Derived.Test.YtajdoobkfbdgoaaDoorC14
set_option linter.unusedVariables false
set_option linter.unusedSimpArgs false
namespace Go.Proofs.YtajdoobkfbdgoaaDoor
section
open Go.RowKit
open Go.Proofs.YtajdoobkfbdgoaaDoor.Z Go.Maps
theorem RW.of {mb r n : Nat} {D : DataW Unit} {E : List (Nat × Bool × Bool)} {left : Lit → Bool} {cnt : Nat} {w w' : World} (h : RW mb r n D E left cnt w) (h1 : w'.heap[mb]? = w.heap[mb]?) (h2 : w'.heap[r]? = w.heap[r]?) : RW mb r n D E left cnt w' := by
 refine ⟨?_, h.at_, h.lf⟩
 obtain ⟨es, clock, since, seen, c0, k1, k2, k3, k4, k5, k6⟩ := h.rg
 exact ⟨es, clock, since, seen, c0, h1.trans k1, k2, k3, k4, h2.trans k5, k6⟩
theorem RW.below {mb r n : Nat} {D : DataW Unit} {E : List (Nat × Bool × Bool)} {left : Lit → Bool} {cnt : Nat} {w w' : World} (h : RW mb r n D E left cnt w) (hb : Below w.heap.size w w') : RW mb r n D E left cnt w' :=
 h.of (hb.block mb h.rg.owns.lt) (hb.block r h.rg.lt)
theorem own_blk {w w' : World} {base e size n : Nat} {v : Value} {xs : List Value} (h : w.ownsRow base e size v n xs) (hb : ∀ k, v.ownBlock = some k → w'.heap[k]? = w.heap[k]?) : w'.ownsRow base e size v n xs := by
 refine ⟨h.1, ?_⟩
 rcases h.2 with h2 | ⟨g, cap, cur, e1, e2, e3, e4⟩
 ·exact .inl h2
 ·exact .inr ⟨g, cap, cur, e1, e2, by rw [hb g (by rw [e1]; rfl)]; exact e3, e4⟩
theorem ptK_get (L : List Pt) (j : Nat) (h : j < L.length) : (kptK L)[j * 2]? = some (.int .i64 (L.getD j (0, 0)).1) ∧ (kptK L)[j * 2 + 1]? = some (.int .i64 (L.getD j (0, 0)).2) := by
 induction L generalizing j with
 | nil => simp at h
 | cons p L ih =>
  have e : kptK (p :: L) = .int .i64 p.1 :: .int .i64 p.2 :: kptK L := rfl
  rw [e]
  cases j with
  | zero => exact ⟨rfl, rfl⟩
  | succ j =>
   have := ih j (by simpa using h)
   simp only [List.getD_cons_succ]
   rw [show (j + 1) * 2 = j * 2 + 1 + 1 by omega]
   simp only [List.getElem?_cons_succ]
   exact this
theorem lfKd90 {P : Prop} (h : P := by
 have HB7 := Lib.hid (HB6.out.trans hb7)
 clear hown7 hb7 z0 z1 lz
 go_wp2
 go_roundw
 case rel => exact ⟨i + 1, by omega, by have := HX.out; simp only [Value.int.injEq, true_and]; omega, by rw [HNX2.out], by rw [HNX2.out]; exact HO7, HB7⟩
 case measure => have := HX.out; simp [intOf]; try omega) : P := h
theorem lfKd91 {P : Prop} (h : P := by
 go_wp2_with (at_builtin; go_loud (refine wpApp okPtK rfl (.tmp 55) (.tmp 57) rfl w1.heap.size _ (([] : List Pt)).length (kptK (([] : List Pt))) #[.int .i64 (0), .int .i64 (Y)] rfl (HNIL.out) rfl rfl ?_ (by omega) (by first | omega | simp) HB6.out.size ?_))
 ·simp [Value.oneCell']
 intro v' w7 hown7 hb7
 have HO7 : Hid (w7.ownsRow w1.heap.size 52 2 v' ((([] : List Pt)) ++ [(0, Y)]).length (kptK ((([] : List Pt)) ++ [(0, Y)]))) := Lib.hid (by
  rw [List.length_append, ptK_snoc]
  exact hown7)
 exact lfKd90) : P := h
theorem lfKd92 {P : Prop} (h : P := by
 go_wp2_with (at_builtin; go_loud (refine wpApp okPtK rfl (.tmp 55) (.tmp 57) rfl w1.heap.size _ (([] : List Pt)).length (kptK (([] : List Pt))) #[.int .i64 (X), .int .i64 (Y)] rfl (HNIL.out) rfl rfl ?_ (by omega) (by first | omega | simp) HB6.out.size ?_))
 ·simp [Value.oneCell']
 intro v' w7 hown7 hb7
 have HO7 : Hid (w7.ownsRow w1.heap.size 52 2 v' ((([] : List Pt)) ++ [(X, Y)]).length (kptK ((([] : List Pt)) ++ [(X, Y)]))) := Lib.hid (by
  rw [List.length_append, ptK_snoc]
  exact hown7)
 exact lfKd90) : P := h
theorem lfKd93 {P : Prop} (h : P := by
 have HNX2 : Hid (kshL g sa ub uc (j * 145 + (i + 1)) = (bt, L0)) := Lib.hid (by
  rw [HNX.out]
  unfold kbst
  rw [if_pos (.inr hlt)])
 clear hlt
 go_wp2
 go_roundw
 case rel => exact ⟨i + 1, by omega, by have := HX.out; simp only [Value.int.injEq, true_and]; omega, by rw [HNX2.out], by rw [HNX2.out]; exact HO5, HB5⟩
 case measure => have := HX.out; simp [intOf]; try omega) : P := h
theorem lfKd94 {P : Prop} (h : P := by
 have d2 : (n == bt) = false := by simpa using hnb2
 clear hb0 hb1 hb2 hnb2
 go_wp2
 go_roundw
 case rel => exact ⟨i + 1, by omega, by have := HX.out; simp only [Value.int.injEq, true_and]; omega, by rw [HNX2.out], by rw [HNX2.out]; exact HO6, HB6⟩
 case measure => have := HX.out; simp [intOf]; try omega) : P := h
theorem lfKd95 {P : Prop} (h : P := by
 go_wp2
 go_roundw
 case rel => exact ⟨i + 1, by omega, by go_num, HN2, HR6, HO6, HB6⟩
 case measure => simp [intOf]; omega) : P := h
set_option maxRecDepth 100000 in
set_option maxHeartbeats 8000000 in
theorem along_any (t g : Int) (mb sa uc ub : Nat) (E : List (Nat × Bool × Bool)) (w : World) (hg : g = 4 ∨ g = 6) (hf : FW mb E w) (ht : ∀ e ∈ E, e.1 < g.toNat) (ha : 0 < sa ∧ sa ≤ 24) (hb : 0 < ub ∧ ub ≤ 24) (hc : uc ≤ 24) :
  Calls Tryd.prog 51 #[sightV t mb sa uc ub, .int .i64 (g)] w fun e w' => e = .returned (.bool (alongB g sa ub uc E)) ∧ Below w.heap.size w w' := by
 have HF := Lib.hid hf; have HTT := Lib.hid ht
 clear hf ht
 unfold sightV
 have hAB : alongB g sa ub uc E = E.any fun e => (kshL g sa ub uc 21025).2.any fun z => decide (rf g e.1 z = z) := rfl
 obtain ⟨R, hR⟩ : ∃ R, alongB g sa ub uc E = R := ⟨_, rfl⟩
 rw [hR] at hAB ⊢
 have HAB := Lib.hid hAB
 clear hAB hR
 go_enter Tryd.func51, Tryd.ntmps51
 go_wp2_with fail
 have hr0 := row6 w (.int .i64 t) (.map (some mb)) (.int .i64 (sa : Nat)) (.int .i64 0) (.int .i64 (uc : Nat)) (.int .i64 (ub : Nat)) 119
 have hb0 : Below w.heap.size w (w.alloc (.cells #[.int .i64 t, .map (some mb), .int .i64 (sa : Nat), .int .i64 0, .int .i64 (uc : Nat), .int .i64 (ub : Nat)] 119)) := blw
 have hf1 := HF.out.kept (hb0.block mb HF.out.lt)
 have HR1 := Lib.hid hr0; have HB1 := Lib.hid hb0; have HF1 := Lib.hid hf1
 clear hr0 hb0 hf1 HF
 generalize w.alloc (.cells #[.int .i64 t, .map (some mb), .int .i64 (sa : Nat), .int .i64 0, .int .i64 (uc : Nat), .int .i64 (ub : Nat)] 119) = w1 at *
 have hgG : Z.G g := hg
 go_loopw [5, 6, 7] (fun bv sv yv wr => ∃ j : Nat, j ≤ 145 ∧ yv = .int .i64 ((j : Int) - 72) ∧ bv = .int .i64 ((kshL g sa ub uc (j * 145)).1) ∧ Hid (wr.ownsRow w1.heap.size 52 2 sv (kshL g sa ub uc (j * 145)).2.length (kptK (kshL g sa ub uc (j * 145)).2)) ∧ Hid (Below w1.heap.size w1 wr)) (fun _ _ yv _ => (73 - intOf yv).toNat)
 case atStart => exact ⟨0, by omega, by go_num, rfl, Lib.hid ⟨rfl, .inl ⟨rfl, rfl⟩⟩, Lib.hid (Below.refl _ _)⟩
 case round =>
  obtain ⟨j, hj, rfl, rfl, HO, HB⟩ := hrel
  by_cases hj145 : j < 145
  ·obtain ⟨Y, hY⟩ : ∃ Y : Int, (j : Int) - 72 = Y := ⟨_, rfl⟩
   have HY := Lib.hid hY
   rw [hY]
   have hYb : -72 ≤ Y ∧ Y ≤ 72 := by omega
   have dy : decide (Y ≤ 72) = true := by simp; omega
   have dy2 : ¬ 72 < Y := by omega
   obtain ⟨AS, CS, rfl⟩ := own_form HO.out
   clear hY
   go_wp2_with fail
   obtain ⟨wo, rfl⟩ : ∃ wo : World, wo = wr := ⟨_, rfl⟩
   go_loopw [5, 6, 8] (fun bv sv xv wr => ∃ i : Nat, i ≤ 145 ∧ xv = .int .i64 ((i : Int) - 72) ∧ bv = .int .i64 ((kshL g sa ub uc (j * 145 + i)).1) ∧ Hid (wr.ownsRow w1.heap.size 52 2 sv (kshL g sa ub uc (j * 145 + i)).2.length (kptK (kshL g sa ub uc (j * 145 + i)).2)) ∧ Hid (Below w1.heap.size w1 wr)) (fun _ _ xv _ => (73 - intOf xv).toNat)
   case atStart => exact ⟨0, by omega, by go_num, rfl, HO, HB⟩
   case round =>
    clear HO HB
    obtain ⟨i, hi, rfl, rfl, HO, HB⟩ := hrel
    by_cases hi145 : i < 145
    ·obtain ⟨X, hX⟩ : ∃ X : Int, (i : Int) - 72 = X := ⟨_, rfl⟩
     have HX := Lib.hid hX
     rw [hX]
     have hXb : -72 ≤ X ∧ X ≤ 72 := by omega
     have dx : decide (X ≤ 72) = true := by simp; omega
     have dx2 : ¬ 72 < X := by omega
     have HNX : Hid (kshL g sa ub uc (j * 145 + (i + 1)) = kbst g sa ub uc (kshL g sa ub uc (j * 145 + i)) (X, Y)) := Lib.hid (by
      rw [← Nat.add_assoc, kshL_succ, kwpt_at hi145, hX, HY.out])
     obtain ⟨s0, s1, s2, s3⟩ := kshL_bd hgG (sa : Int) ub uc (j * 145 + i) (by omega)
     obtain ⟨⟨bt, L0⟩, hS⟩ : ∃ S, kshL g sa ub uc (j * 145 + i) = S := ⟨_, rfl⟩
     rw [hS] at HO HNX s0 s1 s2 ⊢
     simp only at HO s0 s1 s2 ⊢
     clear hS s3 hX
     have hb2 : Below wr.heap.size wr (wr.alloc (.cells #[.int .i64 (X), .int .i64 (Y)] 52)) := blw
     have HO2 := Lib.hid (ownBelow HO.out hb2)
     have HB2 := Lib.hid (HB.out.trans (hb2.mono HB.out.size))
     have hz := row2 wr (.int .i64 (X)) (.int .i64 (Y)) 52
     have HZ := Lib.hid hz
     have hr1 := rowBelow HR1.out HB.out HR1.out.lt
     have HRR := Lib.hid hr1
     obtain ⟨AS, CS, rfl⟩ := own_form HO.out
     clear hb2 hz hr1 HO HB
     by_cases h00 : X = 0 ∧ Y = 0
     ·obtain ⟨rfl, rfl⟩ := h00
      have HNX2 : Hid (kshL g sa ub uc (j * 145 + (i + 1)) = (bt, L0)) := Lib.hid (by
       rw [HNX.out]
       unfold kbst
       rw [if_pos (.inl rfl)])
      clear HNX
      have HNX := HNX2
      go_wp2
      go_roundw
      case rel => exact ⟨i + 1, by omega, by have := HX.out; simp only [Value.int.injEq, true_and]; omega, by rw [HNX2.out], by rw [HNX2.out]; exact HO2, HB2⟩
      case measure => have := HX.out; simp [intOf]; try omega
     ·have HRZ := Lib.hid (show ¬ ((X, Y) : Pt) = (0, 0) from fun h => h00 ⟨congrArg Prod.fst h, congrArg Prod.snd h⟩)
      by_cases hx0 : X = 0
      ·subst hx0
       have hy0 : ¬ (Y = 0) := fun h2 => h00 ⟨rfl, h2⟩
       clear h00
       have p0 : wr.cell? ⟨w.heap.size, 2, none⟩ = some (.int .i64 (sa : Nat)) := HRR.out.cell (i := 2) (by omega)
       have p1 : wr.cell? ⟨w.heap.size, 3, none⟩ = some (.int .i64 0) := HRR.out.cell (i := 3) (by omega)
       have p2 : wr.cell? ⟨w.heap.size, 4, none⟩ = some (.int .i64 (uc : Nat)) := HRR.out.cell (i := 4) (by omega)
       have p3 : wr.cell? ⟨w.heap.size, 5, none⟩ = some (.int .i64 (ub : Nat)) := HRR.out.cell (i := 5) (by omega)
       have lp : LtW w.heap.size wr := HRR.out.lt
       go_wp2_with fail
       clear p0 p1 p2 p3 lp
       refine (khas_any sa ub uc (0) Y _ ha hb hc (by omega) (by omega)).mono ?_
       rintro r w5 ⟨rfl, hb5⟩
       have HO5 := Lib.hid (ownBelow HO2.out hb5)
       have HB5 := Lib.hid (HB2.out.trans (hb5.mono HB2.out.size))
       have HZ5 := Lib.hid (rowBelow HZ.out hb5 HZ.out.lt)
       obtain ⟨zb, hzb⟩ : ∃ zb, wr.heap.size = zb := ⟨_, rfl⟩
       rw [hzb] at HZ5 ⊢
       clear hb5 HO2 HB2 HZ hzb
       cases hlt : latB (sa : Int) (ub : Int) (uc : Int) (0, Y) with
       | false =>
        exact lfKd93
       | true =>
        obtain ⟨n, hn⟩ : ∃ n, Z.nrm g (0, Y) = n := ⟨_, rfl⟩
        have HNX3 : Hid (kshL g sa ub uc (j * 145 + (i + 1)) = if bt = 0 ∨ n < bt then (n, [(0, Y)]) else if n = bt then (bt, L0 ++ [(0, Y)]) else (bt, L0)) := Lib.hid (by
         rw [HNX.out]
         unfold kbst
         rw [if_neg (by
          rintro (h | h)
          ·exact HRZ.out h
          ·rw [hlt] at h; cases h), hn])
        have hnb := Z.nrm_bd hgG (a := (0, Y)) (B := 72) (by simp only; omega) (by simp only; omega)
        have hn0 := Z.nrm_nonneg hgG (0, Y)
        have HNR := Lib.hid (fun w9 => knorm g (0) Y w9 hg (by omega) (by omega))
        rw [hn] at HNR hnb hn0
        have z0 : w5.cell? ⟨zb, 0, none⟩ = some (.int .i64 (0)) := HZ5.out.cell (i := 0) (by omega)
        have z1 : w5.cell? ⟨zb, 1, none⟩ = some (.int .i64 (Y)) := HZ5.out.cell (i := 1) (by omega)
        have lz : LtW zb w5 := HZ5.out.lt
        clear hlt hn HNX
        go_wp2_with fail
        obtain ⟨qe, hqe⟩ := HNR.out w5
        refine hqe.mono ?_
        rintro r w6 ⟨rfl, hb6⟩
        have HO6 := Lib.hid (ownBelow HO5.out hb6)
        have HB6 := Lib.hid (HB5.out.trans (hb6.mono HB5.out.size))
        have HZ6 := Lib.hid (rowBelow HZ5.out hb6 HZ5.out.lt)
        clear z0 z1 lz hqe hb6 HNR HO5 HB5 HZ5
        have z0 : w6.cell? ⟨zb, 0, none⟩ = some (.int .i64 (0)) := HZ6.out.cell (i := 0) (by omega)
        have z1 : w6.cell? ⟨zb, 1, none⟩ = some (.int .i64 (Y)) := HZ6.out.cell (i := 1) (by omega)
        have lz : LtW zb w6 := HZ6.out.lt
        by_cases hb0 : bt = 0 ∨ n < bt
        ·have HNX2 : Hid (kshL g sa ub uc (j * 145 + (i + 1)) = (n, [(0, Y)])) := Lib.hid (HNX3.out.trans (if_pos hb0))
         have enn : (n == n) = true := by simp
         have hnil : w6.ownsRow w1.heap.size 52 2 (.slice none 0 0) ([] : List Pt).length (kptK []) := ⟨rfl, .inl ⟨rfl, rfl⟩⟩
         have HNIL := Lib.hid hnil
         clear hnil
         rcases hb0 with h | h
         ·subst h
          exact lfKd91
         ·have d1 : decide (n < bt) = true := by simpa using h
          by_cases hbz : bt = 0
          ·subst hbz
           omega
          ·have d0 : (bt == 0) = false := by simpa using hbz
           clear h hbz
           exact lfKd91
        ·have hb1 : ¬ bt = 0 := fun h => hb0 (.inl h)
         have hb2 : ¬ n < bt := fun h => hb0 (.inr h)
         have d0 : (bt == 0) = false := by simpa using hb1
         have d1 : decide (n < bt) = false := by simpa using hb2
         by_cases hnb2 : n = bt
         ·subst hnb2
          have HNX2 : Hid (kshL g sa ub uc (j * 145 + (i + 1)) = (n, L0 ++ [(0, Y)])) := Lib.hid (HNX3.out.trans ((if_neg hb0).trans (if_pos rfl)))
          have enn : (n == n) = true := by simp
          clear hb0 hb1 hb2
          go_wp2_with (at_builtin; go_loud (refine wpApp okPtK rfl (.tmp 55) (.tmp 57) rfl w1.heap.size _ (L0).length (kptK (L0)) #[.int .i64 (0), .int .i64 (Y)] rfl (HO6.out) rfl rfl ?_ (by omega) (by first | omega | simp) HB6.out.size ?_))
          ·simp [Value.oneCell']
          intro v' w7 hown7 hb7
          have HO7 : Hid (w7.ownsRow w1.heap.size 52 2 v' ((L0) ++ [(0, Y)]).length (kptK ((L0) ++ [(0, Y)]))) := Lib.hid (by
           rw [List.length_append, ptK_snoc]
           exact hown7)
          exact lfKd90
         ·have HNX2 : Hid (kshL g sa ub uc (j * 145 + (i + 1)) = (bt, L0)) := Lib.hid (HNX3.out.trans ((if_neg hb0).trans (if_neg hnb2)))
          exact lfKd94
      ·clear h00
       have p0 : wr.cell? ⟨w.heap.size, 2, none⟩ = some (.int .i64 (sa : Nat)) := HRR.out.cell (i := 2) (by omega)
       have p1 : wr.cell? ⟨w.heap.size, 3, none⟩ = some (.int .i64 0) := HRR.out.cell (i := 3) (by omega)
       have p2 : wr.cell? ⟨w.heap.size, 4, none⟩ = some (.int .i64 (uc : Nat)) := HRR.out.cell (i := 4) (by omega)
       have p3 : wr.cell? ⟨w.heap.size, 5, none⟩ = some (.int .i64 (ub : Nat)) := HRR.out.cell (i := 5) (by omega)
       have lp : LtW w.heap.size wr := HRR.out.lt
       go_wp2_with fail
       clear p0 p1 p2 p3 lp
       refine (khas_any sa ub uc (X) Y _ ha hb hc (by omega) (by omega)).mono ?_
       rintro r w5 ⟨rfl, hb5⟩
       have HO5 := Lib.hid (ownBelow HO2.out hb5)
       have HB5 := Lib.hid (HB2.out.trans (hb5.mono HB2.out.size))
       have HZ5 := Lib.hid (rowBelow HZ.out hb5 HZ.out.lt)
       obtain ⟨zb, hzb⟩ : ∃ zb, wr.heap.size = zb := ⟨_, rfl⟩
       rw [hzb] at HZ5 ⊢
       clear hb5 HO2 HB2 HZ hzb
       cases hlt : latB (sa : Int) (ub : Int) (uc : Int) (X, Y) with
       | false =>
        exact lfKd93
       | true =>
        obtain ⟨n, hn⟩ : ∃ n, Z.nrm g (X, Y) = n := ⟨_, rfl⟩
        have HNX3 : Hid (kshL g sa ub uc (j * 145 + (i + 1)) = if bt = 0 ∨ n < bt then (n, [(X, Y)]) else if n = bt then (bt, L0 ++ [(X, Y)]) else (bt, L0)) := Lib.hid (by
         rw [HNX.out]
         unfold kbst
         rw [if_neg (by
          rintro (h | h)
          ·exact HRZ.out h
          ·rw [hlt] at h; cases h), hn])
        have hnb := Z.nrm_bd hgG (a := (X, Y)) (B := 72) (by simp only; omega) (by simp only; omega)
        have hn0 := Z.nrm_nonneg hgG (X, Y)
        have HNR := Lib.hid (fun w9 => knorm g (X) Y w9 hg (by omega) (by omega))
        rw [hn] at HNR hnb hn0
        have z0 : w5.cell? ⟨zb, 0, none⟩ = some (.int .i64 (X)) := HZ5.out.cell (i := 0) (by omega)
        have z1 : w5.cell? ⟨zb, 1, none⟩ = some (.int .i64 (Y)) := HZ5.out.cell (i := 1) (by omega)
        have lz : LtW zb w5 := HZ5.out.lt
        clear hlt hn HNX
        go_wp2_with fail
        obtain ⟨qe, hqe⟩ := HNR.out w5
        refine hqe.mono ?_
        rintro r w6 ⟨rfl, hb6⟩
        have HO6 := Lib.hid (ownBelow HO5.out hb6)
        have HB6 := Lib.hid (HB5.out.trans (hb6.mono HB5.out.size))
        have HZ6 := Lib.hid (rowBelow HZ5.out hb6 HZ5.out.lt)
        clear z0 z1 lz hqe hb6 HNR HO5 HB5 HZ5
        have z0 : w6.cell? ⟨zb, 0, none⟩ = some (.int .i64 (X)) := HZ6.out.cell (i := 0) (by omega)
        have z1 : w6.cell? ⟨zb, 1, none⟩ = some (.int .i64 (Y)) := HZ6.out.cell (i := 1) (by omega)
        have lz : LtW zb w6 := HZ6.out.lt
        by_cases hb0 : bt = 0 ∨ n < bt
        ·have HNX2 : Hid (kshL g sa ub uc (j * 145 + (i + 1)) = (n, [(X, Y)])) := Lib.hid (HNX3.out.trans (if_pos hb0))
         have enn : (n == n) = true := by simp
         have hnil : w6.ownsRow w1.heap.size 52 2 (.slice none 0 0) ([] : List Pt).length (kptK []) := ⟨rfl, .inl ⟨rfl, rfl⟩⟩
         have HNIL := Lib.hid hnil
         clear hnil
         rcases hb0 with h | h
         ·subst h
          exact lfKd92
         ·have d1 : decide (n < bt) = true := by simpa using h
          by_cases hbz : bt = 0
          ·subst hbz
           omega
          ·have d0 : (bt == 0) = false := by simpa using hbz
           clear h hbz
           exact lfKd92
        ·have hb1 : ¬ bt = 0 := fun h => hb0 (.inl h)
         have hb2 : ¬ n < bt := fun h => hb0 (.inr h)
         have d0 : (bt == 0) = false := by simpa using hb1
         have d1 : decide (n < bt) = false := by simpa using hb2
         by_cases hnb2 : n = bt
         ·subst hnb2
          have HNX2 : Hid (kshL g sa ub uc (j * 145 + (i + 1)) = (n, L0 ++ [(X, Y)])) := Lib.hid (HNX3.out.trans ((if_neg hb0).trans (if_pos rfl)))
          have enn : (n == n) = true := by simp
          clear hb0 hb1 hb2
          go_wp2_with (at_builtin; go_loud (refine wpApp okPtK rfl (.tmp 55) (.tmp 57) rfl w1.heap.size _ (L0).length (kptK (L0)) #[.int .i64 (X), .int .i64 (Y)] rfl (HO6.out) rfl rfl ?_ (by omega) (by first | omega | simp) HB6.out.size ?_))
          ·simp [Value.oneCell']
          intro v' w7 hown7 hb7
          have HO7 : Hid (w7.ownsRow w1.heap.size 52 2 v' ((L0) ++ [(X, Y)]).length (kptK ((L0) ++ [(X, Y)]))) := Lib.hid (by
           rw [List.length_append, ptK_snoc]
           exact hown7)
          exact lfKd90
         ·have HNX2 : Hid (kshL g sa ub uc (j * 145 + (i + 1)) = (bt, L0)) := Lib.hid (HNX3.out.trans ((if_neg hb0).trans (if_neg hnb2)))
          exact lfKd94
    ·obtain rfl : i = 145 := by omega
     have HJ1 : Hid ((j + 1) * 145 = j * 145 + 145) := Lib.hid (by omega)
     obtain ⟨AS, CS, rfl⟩ := own_form HO.out
     go_wp2
     go_roundw
     case rel => exact ⟨j + 1, by omega, by have := HY.out; simp only [Value.int.injEq, true_and]; omega, by rw [HJ1.out], by rw [HJ1.out]; exact HO, HB⟩
     case measure => have := HY.out; simp [intOf]; try omega
  ·obtain rfl : j = 145 := by omega
   have dy : decide (((145 : Nat) : Int) - 72 ≤ 72) = false := by decide
   have HO1 : Hid (wr.ownsRow w1.heap.size 52 2 u6 (kshL g sa ub uc 21025).2.length (kptK (kshL g sa ub uc 21025).2)) := HO
   have HSB := Lib.hid (kshL_bd hgG (sa : Int) ub uc 21025 (by omega))
   clear HO
   obtain ⟨S, hS⟩ : ∃ S, (kshL g sa ub uc 21025).2 = S := ⟨_, rfl⟩
   rw [hS] at HO1 HAB HSB
   obtain ⟨bb, hbb⟩ : ∃ bb, (kshL g sa ub uc (145 * 145)).1 = bb := ⟨_, rfl⟩
   rw [hbb]
   have hS21 : S.length ≤ 21025 := HSB.out.2.2.1
   clear hS hbb
   obtain ⟨AS, CS, rfl⟩ := own_form HO1.out
   have hrb := rowBelow HR1.out HB.out HR1.out.lt
   have p1 : wr.cell? ⟨w.heap.size, 1, none⟩ = some (.map (some mb)) := hrb.cell (i := 1) (by omega)
   have lp : LtW w.heap.size wr := hrb.lt
   have hfw := HF1.out.kept (HB.out.block mb HF1.out.lt)
   obtain ⟨D, hown, hrw⟩ := hfw.rounds
   have HRW := Lib.hid hrw
   clear hrb hfw hrw
   go_wp2_with (at_range; go_loud (refine wpList_range_own _ rfl _ 115 rfl 3 124 lawKI Tryd.underlying115 wayR mb E.length D rfl hown ?_))
   intro w2 hrg2 hg2 hs2
   obtain ⟨hR2, hE2⟩ := HRW.out w2 _ hrg2
   obtain ⟨rb, hrb⟩ : ∃ rb, wr.heap.size = rb := ⟨_, rfl⟩
   have hOL : ∀ k, (Value.slice AS S.length CS).ownBlock = some k → k < rb := fun k hk => by rw [← hrb]; exact (HO1.out.lt k hk).2
   have ho2 := own_blk HO1.out (fun k hk => hg2.block k (HO1.out.lt k hk).2 (by simp))
   have hB2 := HB.out.grown hg2 HB.out.size (fun k e => by cases e)
   have hrb1 : w1.heap.size ≤ rb := by rw [← hrb]; exact HB.out.size
   rw [hrb] at hR2 ⊢
   have HR2 := Lib.hid hR2; have HE2 := Lib.hid hE2; have HO2 := Lib.hid ho2; have HB2 := Lib.hid hB2; have HOL := Lib.hid hOL; have HRB := Lib.hid hrb1
   clear hR2 hE2 ho2 hB2 hOL hrb1 hrb hrg2 hg2 hs2 HRW HO1 HB hown p1 lp dy
   go_wp2_with fail
   go_loopw [] (fun wr => ∃ (left : Lit → Bool) (cnt : Nat), Hid (RW mb rb E.length D E left cnt wr) ∧ Hid (∀ e ∈ E, left (.int .i64 ((e.1 : Nat) : Int)) = true ∨ (S.any fun z => decide (rf g e.1 z = z)) = false) ∧ Hid (wr.ownsRow w1.heap.size 52 2 (.slice AS S.length CS) S.length (kptK S)) ∧ Hid (Below w1.heap.size w1 wr)) (fun wr => wr.rangeLeft mb rb)
   case atStart => exact ⟨_, _, HR2, Lib.hid (fun e he => .inl (HE2.out e he)), HO2, HB2⟩
   case round =>
    clear HR2 HE2 HO2 HB2
    obtain ⟨left, cnt, HR, HL, HO, HB⟩ := hrel
    have hrg := HR.out.rg
    go_wp2_with (at_next; go_loud (refine wpList_next_ranges _ rfl _ rfl 3 lawKI wayR (Value.int .i64) mkV invKI invVW mb rb E.length D left cnt rfl hrg ?_ ?_))
    ·intro hc0 hl0
     have HV : Hid (R = false) := Lib.hid (by
      rw [HAB.out]
      refine List.any_eq_false.2 fun e he => ?_
      rw [(HL.out e he).resolve_left (by rw [hl0]; simp)]
      simp)
     clear hrg hc0 hl0
     go_wp2
     go_ret
     exact ⟨by rw [HV.out]; rfl, HB1.out.trans (HB.out.mono HB1.out.size)⟩
    ·intro x c kl ya yb w3 cnt2 hkey hlk hv hat hrg2 hlt hg2 hs2 hen
     obtain ⟨⟨c1, c2⟩⟩ := c
     obtain ⟨rfl, ⟨t9, rfl, hmem⟩, hR2⟩ := HR.out.next hkey hlk hv hat hrg2
     unfold mkV mkW at hen ⊢
     simp only at hen ⊢
     have ho2 := own_blk HO.out (fun k hk => hg2.block k (HO.out.lt k hk).2 (by intro e; injection e with e; have := HOL.out k hk; omega))
     have hB2 := HB.out.grown hg2 HB.out.size (fun k e => by injection e with e; have := HRB.out; omega)
     have ht9 := HTT.out _ hmem
     simp only at ht9
     have HMEM := Lib.hid hmem
     have HME : Hid (wr.rangeLeft mb rb = cnt ∧ cnt2 < cnt) := Lib.hid ⟨hrg.left_eq, hlt⟩
     have HL3 : Hid ((S.any fun z => decide (rf g t9 z = z)) = false → ∀ e ∈ E, (left (.int .i64 ((e.1 : Nat) : Int)) && !(Lit.int .i64 ((e.1 : Nat) : Int)).sameKey (.int .i64 (t9 : Int))) = true ∨ (S.any fun z => decide (rf g e.1 z = z)) = false) := Lib.hid (fun hcp e he => by
      rcases HL.out e he with h | h
      ·by_cases hk : e.1 = t9
       ·right
        rw [hk]
        exact hcp
       ·left
        rw [h, Bool.true_and, sameKey_ne (by intro e2; injection e2 with _ e2; exact hk (by omega))]
        rfl
      ·exact .inr h)
     have HR3 := Lib.hid hR2; have HO3 := Lib.hid ho2; have HB3 := Lib.hid hB2
     clear hR2 ho2 hB2 hmem hrg hkey hlk hv hat hrg2 hlt hg2 hs2 HR HO HB HL
     go_wp2_with fail
     obtain ⟨wo9, hwo9⟩ : ∃ wo : World, wo = w3 := ⟨_, rfl⟩
     rw [← hwo9] at HR3 HO3 HB3 hen ⊢
     clear hwo9
     go_loopw [68] (fun iv wr => ∃ i : Nat, i ≤ S.length ∧ iv = .int .i64 (i) ∧ Hid (∀ i', i' < i → rf g t9 (S.getD i' (0, 0)) ≠ S.getD i' (0, 0)) ∧ Hid (RW mb rb E.length D E (fun z => left z && !z.sameKey (.int .i64 (t9 : Int))) cnt2 wr) ∧ Hid (wr.ownsRow w1.heap.size 52 2 (.slice AS S.length CS) S.length (kptK S)) ∧ Hid (Below w1.heap.size w1 wr)) (fun iv _ => S.length - (intOf iv).toNat)
     case atStart => exact ⟨0, by omega, rfl, Lib.hid (fun i h => absurd h (by omega)), HR3, HO3, HB3⟩
     case round =>
      clear HR3 HO3 HB3
      obtain ⟨i, hi, rfl, HN, HR, HO, HB⟩ := hrel
      by_cases hil : i < S.length
      ·obtain ⟨gB, rfl, hgl, hcs⟩ := own_pts (by omega) HO.out
       obtain ⟨e0, e1⟩ := ptK_get S i hil
       have c0 := hcs (i * 2) _ (by omega) e0
       have c1 := hcs (i * 2 + 1) _ (by omega) e1
       have lg : LtW gB wr := hgl
       have hzb := HSB.out.2.2.2 (S.getD i (0, 0)) (by rw [List.getD_eq_getElem?_getD, List.getElem?_eq_getElem hil]; exact List.getElem_mem hil)
       have HMS : Hid (S.getD i (0, 0) ∈ S) := Lib.hid (by rw [List.getD_eq_getElem?_getD, List.getElem?_eq_getElem hil]; exact List.getElem_mem hil)
       have HNX : Hid (rf g t9 (S.getD i (0, 0)) ≠ S.getD i (0, 0) → ∀ i', i' < i + 1 → rf g t9 (S.getD i' (0, 0)) ≠ S.getD i' (0, 0)) := Lib.hid (fun h i' h2 => by
        by_cases e : i' = i
        ·subst e; exact h
        ·exact HN.out i' (by omega))
       have di : decide ((i : Int) < (S.length : Int)) = true := by simp; omega
       have di' : decide (i < S.length) = true := by simpa using hil
       clear hcs e0 e1 hgl HN
       obtain ⟨⟨X, Y⟩, hXY⟩ : ∃ z, S.getD i (0, 0) = z := ⟨_, rfl⟩
       rw [hXY] at c0 c1 hzb HMS HNX
       simp only at c0 c1 hzb
       have HAP := Lib.hid (fun w9 => kapply2 g t9 X Y w9 hg ht9 (by omega) (by omega))
       have hrb := Z.rf_bd hgG ht9 (x := X) (y := Y) (B := 72) (by omega)
       obtain ⟨⟨p, q⟩, hpq⟩ : ∃ z, rf g t9 (X, Y) = z := ⟨_, rfl⟩
       rw [hpq] at HAP HNX hrb
       simp only at hrb
       have HPQ := Lib.hid hpq
       clear hXY hpq
       have hb2 : Below wr.heap.size wr (wr.alloc (.cells #[.int .i64 (X), .int .i64 (Y)] 52)) := blw
       have HR2 := Lib.hid (HR.out.below hb2)
       have HO2 := Lib.hid (ownBelow HO.out hb2)
       have HB2 := Lib.hid (HB.out.trans (hb2.mono HB.out.size))
       have HZ := Lib.hid (row2 wr (.int .i64 (X)) (.int .i64 (Y)) 52)
       clear hb2 HR HO HB
       go_wp2_with fail
       obtain ⟨qe, hqe⟩ := HAP.out (wr.alloc (.cells #[.int .i64 (X), .int .i64 (Y)] 52))
       refine hqe.mono ?_
       rintro r w5 ⟨rfl, hb5⟩
       have HR5 := Lib.hid (HR2.out.below hb5)
       have HO5 := Lib.hid (ownBelow HO2.out hb5)
       have HB5 := Lib.hid (HB2.out.trans (hb5.mono HB2.out.size))
       have HZ5 := Lib.hid (rowBelow HZ.out hb5 HZ.out.lt)
       obtain ⟨zb, hzb9⟩ : ∃ zb, wr.heap.size = zb := ⟨_, rfl⟩
       rw [hzb9] at HZ5 ⊢
       clear hqe hb5 HR2 HO2 HB2 HZ hzb9 HAP c0 c1 lg
       have z0 : w5.cell? ⟨zb, 0, none⟩ = some (.int .i64 (X)) := HZ5.out.cell (i := 0) (by omega)
       have z1 : w5.cell? ⟨zb, 1, none⟩ = some (.int .i64 (Y)) := HZ5.out.cell (i := 1) (by omega)
       have lz : LtW zb w5 := HZ5.out.lt
       have lzn : ¬ zb = w5.heap.size := by unfold LtW at lz; omega
       have hb6 : Below w5.heap.size w5 (w5.alloc (.cells #[.int .i64 (p), .int .i64 (q)] 52)) := blw
       have HR6 := Lib.hid (HR5.out.below hb6)
       have HO6 := Lib.hid (ownBelow HO5.out hb6)
       have HB6 := Lib.hid (HB5.out.trans (hb6.mono HB5.out.size))
       clear hb6 HR5 HO5 HB5 HZ5
       by_cases hpx : p = X
       ·by_cases hqy : q = Y
        ·have e1 : (p == X) = true := by simpa using hpx
         have e2 : (q == Y) = true := by simpa using hqy
         have HV : Hid (R = true) := Lib.hid (by
          rw [HAB.out]
          exact List.any_eq_true.2 ⟨_, HMEM.out, List.any_eq_true.2 ⟨(X, Y), HMS.out, by
           rw [decide_eq_true_eq]
           exact HPQ.out.trans (by rw [hpx, hqy])⟩⟩)
         clear hpx hqy
         go_wp2
         go_ret
         exact ⟨by rw [HV.out]; rfl, HB1.out.trans (HB6.out.mono HB1.out.size)⟩
        ·have e1 : (p == X) = true := by simpa using hpx
         have e2 : (q == Y) = false := by simpa using hqy
         have HN2 := Lib.hid (HNX.out (fun h => hqy (congrArg Prod.snd h)))
         clear hpx hqy
         exact lfKd95
       ·have e1 : (p == X) = false := by simpa using hpx
        have HN2 := Lib.hid (HNX.out (fun h => hpx (congrArg Prod.fst h)))
        clear hpx
        exact lfKd95
      ·obtain rfl : i = S.length := by omega
       have di : decide ((S.length : Int) < (S.length : Int)) = false := by simp
       have HNS : Hid ((S.any fun z => decide (rf g t9 z = z)) = false) := Lib.hid (by
        refine List.any_eq_false.2 fun z hz h => ?_
        obtain ⟨i', hi', rfl⟩ := List.getElem_of_mem hz
        have := HN.out i' hi'
        rw [List.getD_eq_getElem?_getD, List.getElem?_eq_getElem hi'] at this
        exact this (by simpa using h))
       have HL4 := Lib.hid (HL3.out HNS.out)
       have HM4 := Lib.hid HR.out.rg.left_eq
       go_wp2
       go_roundw
       case rel => exact ⟨_, cnt2, HR, HL4, HO, HB⟩
       case measure =>
        have h1 := HME.out
        have h2 := HM4.out
        omega
end
end Go.Proofs.YtajdoobkfbdgoaaDoor
