/- Lemmas on which the law of this seat rests; each states its own conditions. -/
import Derived.Test.YtajdoobkfbdgoaaDoorC11
import Derived.Test.YtajdoobkfbdgoaaDoorC07
import Derived.Test.YtajdoobkfbdgoaaDoorC09
set_option linter.unusedVariables false
set_option linter.unusedSimpArgs false
namespace Go.Proofs.YtajdoobkfbdgoaaDoor
section
open Go.RowKit
open Go.Proofs.YtajdoobkfbdgoaaDoor.Z
theorem latG_alloc (w : World) (a c b : Int) : (w.alloc (.cells #[.int .i64 a, .int .i64 0, .int .i64 c, .int .i64 b] 117)).rowIs w.heap.size 117 4 (fun j => if j = 0 then .int .i64 a else if j = 1 then .int .i64 0 else if j = 2 then .int .i64 c else .int .i64 b) :=
 World.rowIs_alloc w #[.int .i64 a, .int .i64 0, .int .i64 c, .int .i64 b] 117 _ (by
  intro i hi
  have hi2 : i = 0 ∨ i = 1 ∨ i = 2 ∨ i = 3 := by simp at hi; omega
  rcases hi2 with rfl | rfl | rfl | rfl <;> rfl)
structure SH (lb rb vb : Nat) (a c b : Nat) (x y : Int) (w0 w : World) : Prop where
 l : w.rowIs lb 117 4 (fun j => if j = 0 then .int .i64 (a : Nat) else if j = 1 then .int .i64 0 else if j = 2 then .int .i64 (c : Nat) else .int .i64 (b : Nat))
 r : w.rowIs rb 52 2 (ptG 0 0)
 v : w.rowIs vb 52 2 (ptG x y)
 bel : Below w0.heap.size w0 w
theorem SH.grow {lb rb vb a c b : Nat} {x y : Int} {w0 w w' : World} (h : SH lb rb vb a c b x y w0 w) (hb : Below w.heap.size w w') : SH lb rb vb a c b x y w0 w' :=
 ⟨rowBelow h.l hb h.l.lt, rowBelow h.r hb h.r.lt, rowBelow h.v hb h.v.lt, h.bel.trans (hb.mono h.bel.size)⟩
theorem SH.start (w : World) (a c b : Nat) (x y : Int) : SH w.heap.size (w.heap.size + 1) (w.heap.size + 1 + 1) a c b x y w ((((w.alloc (.cells #[.int .i64 (a : Nat), .int .i64 0, .int .i64 (c : Nat), .int .i64 (b : Nat)] 117)).alloc (.cells #[.int .i64 0, .int .i64 0] 52)).alloc (.cells #[.int .i64 (x), .int .i64 (y)] 52))) := by
 have h1 := ((latG_alloc w (a : Nat) (c : Nat) (b : Nat)).alloc (.cells #[.int .i64 0, .int .i64 0] 52)).alloc (.cells #[.int .i64 x, .int .i64 y] 52)
 have h2 := (ptG_alloc (w.alloc (.cells #[.int .i64 (a : Nat), .int .i64 0, .int .i64 (c : Nat), .int .i64 (b : Nat)] 117)) 0 0).alloc (.cells #[.int .i64 x, .int .i64 y] 52)
 have h3 := ptG_alloc ((w.alloc (.cells #[.int .i64 (a : Nat), .int .i64 0, .int .i64 (c : Nat), .int .i64 (b : Nat)] 117)).alloc (.cells #[.int .i64 0, .int .i64 0] 52)) x y
 rw [World.size_alloc] at h2 h3
 rw [World.size_alloc] at h3
 exact ⟨h1, h2, h3, blw⟩
theorem shoN_step {a b c : Int} {v : Pt} {n : Nat} (h : dvN a b c v (n + 1) = false) : shoN a b c v (n + 1) = shoN a b c v n := by rw [shoN, if_neg (by simp [h])]
theorem shoN_here {a b c : Int} {v : Pt} {n : Nat} (h : dvN a b c v (n + 1) = true) : shoN a b c v (n + 1) = n + 1 := by rw [shoN, if_pos h]
set_option maxRecDepth 100000 in
theorem lfKd20 {P : Prop} (h : P := by
 have HEX := Lib.hid ex; have HEY := Lib.hid ey
 have HDL : Hid (dvN (a : Int) (b : Int) (c : Int) V (j + 1) = latB (a : Int) (b : Int) (c : Int) (qx, qy)) := Lib.hid (by
  rw [HDV.out, decide_eq_true (Int.emod_eq_zero_of_dvd (Int.dvd_of_tmod_eq_zero hmx)), decide_eq_true (Int.emod_eq_zero_of_dvd (Int.dvd_of_tmod_eq_zero hmy)), ex, ey]
  rfl)
 clear ex ey hmx hmy
 go_wp2_with fail
 (refine wp_region_ext_alloc 9 52 (some 7) _ (by kernel_rfl) (by kernel_rfl) rfl allocPt ?_; simp only [List.take_succ_cons, List.take_zero, List.drop_succ_cons, List.drop_zero]; (repeat (first | ((with_reducible refine wpV_step (fun K hK => ?_)); go_simp; first | (refine hK _ ?_; clear hK K) | (apply Exists.intro; refine ⟨fun _ _ => ?_, hK _ ?_⟩; fail; clear hK K)))); refine wpV_nil ?_; intro E d E' d'; go_simp)
 have hbL := built_below wr E d (.cells #[.int .i64 qx, .int .i64 qy] 52) E' d'
 have HS4 := Lib.hid (HS.out.grow hbL)
 have q0 : wr.cell? ⟨w.heap.size, 0, none⟩ = some (.int .i64 (a : Nat)) := HS.out.l.cell (i := 0) (by omega)
 have q1 : wr.cell? ⟨w.heap.size, 1, none⟩ = some (.int .i64 0) := HS.out.l.cell (i := 1) (by omega)
 have q2 : wr.cell? ⟨w.heap.size, 2, none⟩ = some (.int .i64 (c : Nat)) := HS.out.l.cell (i := 2) (by omega)
 have q3 : wr.cell? ⟨w.heap.size, 3, none⟩ = some (.int .i64 (b : Nat)) := HS.out.l.cell (i := 3) (by omega)
 have lq : LtW w.heap.size wr := HS.out.l.lt
 have hz := ptG_alloc (extW wr E d) qx qy
 have hz2 := rowBelow hz (bExtW (Below.refl _ _) (Nat.le_refl _) : Below _ _ (extW ((extW wr E d).alloc (.cells #[.int .i64 qx, .int .i64 qy] 52)) E' d')) hz.lt
 rw [size_extW] at hz2
 have HZ := Lib.hid hz2
 clear hbL hz hz2
 go_wp2_with fail
 generalize extW ((extW wr E d).alloc (.cells #[.int .i64 qx, .int .i64 qy] 52)) E' d' = w4 at *
 obtain ⟨zb, hzb⟩ : ∃ zb, wr.heap.size + E.size = zb := ⟨_, rfl⟩
 rw [hzb] at HZ ⊢
 clear q0 q1 q2 q3 lq p0 p1 lv hzb HS
 refine (khas_any a b c qx qy w4 ha hb hc (by omega) (by omega)).mono ?_
 rintro r w5 ⟨rfl, hb5⟩
 have HS5 := Lib.hid (HS4.out.grow hb5)
 have HZ5 := Lib.hid (rowBelow HZ.out hb5 HZ.out.lt)
 clear hb5 HZ HS4
 cases hlt : latB (a : Int) (b : Int) (c : Int) (qx, qy) with
 | false =>
  have HE2 : Hid (shoN (a : Int) (b : Int) (c : Int) V (szP V) = shoN (a : Int) (b : Int) (c : Int) V j) := Lib.hid (by rw [HE.out, shoN_step (HDL.out.trans hlt)])
  clear hlt
  go_wp2
  go_roundw
  case rel => exact ⟨j, by omega, by have := HD.out; push_cast at this; go_num; try omega, HE2, HS5⟩
  case measure => have := HD.out; push_cast at this; simp [intOf]; omega
 | true =>
  have HRS : Hid (shoP (a : Int) (b : Int) (c : Int) V = (qx, qy)) := Lib.hid (by
   rw [HSX.out, HE.out, shoN_here (HDL.out.trans hlt), HD.out, HEX.out, HEY.out, ← hV])
  have r0 : w5.cell? ⟨w.heap.size + 1, 0, none⟩ = some (.int .i64 (0)) := HS5.out.r.cell (i := 0) (by omega)
  have r1 : w5.cell? ⟨w.heap.size + 1, 1, none⟩ = some (.int .i64 (0)) := HS5.out.r.cell (i := 1) (by omega)
  have f0 := HS5.out.r.frozen 0
  have f1 := HS5.out.r.frozen 1
  have lr : LtW (w.heap.size + 1) w5 := HS5.out.r.lt
  have z0 : w5.cell? ⟨zb, 0, none⟩ = some (.int .i64 (qx)) := HZ5.out.cell (i := 0) (by omega)
  have z1 : w5.cell? ⟨zb, 1, none⟩ = some (.int .i64 (qy)) := HZ5.out.cell (i := 1) (by omega)
  have lz : LtW zb w5 := HZ5.out.lt
  clear hlt
  go_wp2
  have hrs := (HS5.out.r.set 0 (.int .i64 (qx))).set 1 (.int .i64 (qy))
  generalize hw8 : (w5.setCell ⟨w.heap.size + 1, 0, none⟩ (.int .i64 (qx))).setCell ⟨w.heap.size + 1, 1, none⟩ (.int .i64 (qy)) = w8 at *
  have q0 : w8.cell? ⟨w.heap.size + 1, 0, none⟩ = some (.int .i64 (qx)) := by
   have := hrs.cell (i := 0) (by omega)
   simpa using this
  have q1 : w8.cell? ⟨w.heap.size + 1, 1, none⟩ = some (.int .i64 (qy)) := by
   have := hrs.cell (i := 1) (by omega)
   simpa using this
  have lq : LtW (w.heap.size + 1) w8 := hrs.lt
  have HB8 : Hid (Below w.heap.size w w8) := Lib.hid (by
   rw [← hw8]
   exact (HS5.out.bel.setCell (by simp) _).setCell (by simp) _)
  clear hw8 r0 r1 f0 f1 lr hrs z0 z1 lz HS5 HZ5
  refine bodyPost_ret (v := .agg #[.int .i64 (qx), .int .i64 (qy)]) (by simp [results, Tryd.results86, go_sem, q0, q1]) rfl ⟨?_, HB8.out⟩
  rw [HRS.out]) : P := h
set_option maxRecDepth 100000 in
theorem lfKd21 {P : Prop} (h : P := by
 go_wp2_with fail
 (refine wp_region_ext_alloc 9 52 (some 7) _ (by kernel_rfl) (by kernel_rfl) rfl allocPt ?_; simp only [List.take_succ_cons, List.take_zero, List.drop_succ_cons, List.drop_zero]; (repeat (first | ((with_reducible refine wpV_step (fun K hK => ?_)); go_simp; first | (refine hK _ ?_; clear hK K) | (apply Exists.intro; refine ⟨fun _ _ => ?_, hK _ ?_⟩; fail; clear hK K)))); refine wpV_nil ?_; intro E d E' d'; go_simp)
 have hbL := built_below wr E d (.cells #[.int .i64 qx, .int .i64 qy] 52) E' d'
 have HS4 := Lib.hid (HS.out.grow hbL)
 have HE2 : Hid (shoN (a : Int) (b : Int) (c : Int) V (szP V) = shoN (a : Int) (b : Int) (c : Int) V j) := Lib.hid (by rw [HE.out, shoN_step HDF.out])
 clear hbL
 go_wp2
 go_roundw
 case rel => exact ⟨j, by omega, by have := HD.out; push_cast at this; go_num; try omega, HE2, HS4⟩
 case measure => have := HD.out; push_cast at this; simp [intOf]; try omega) : P := h
theorem lfKd22 {P : Prop} (h : P := by
 have m4 : ¬ (y0) % D = 0 := fun h => hmy (Int.tmod_eq_zero_of_dvd (Int.dvd_of_emod_eq_zero h))
 have HDF : Hid (dvN (a : Int) (b : Int) (c : Int) V (j + 1) = false) := Lib.hid (by
  rw [HDV.out, decide_eq_false (p := (y0) % D = 0) (fun h => hmy (Int.tmod_eq_zero_of_dvd (Int.dvd_of_emod_eq_zero h))), Bool.and_false, Bool.false_and])
 clear hmx hmy
 exact lfKd21) : P := h
theorem lfKd23 {P : Prop} (h : P := by
 have := HSP.out.1
 rw [HE.out] at this
 exact absurd this (by simp [shoN])) : P := h
set_option maxRecDepth 100000 in
set_option maxHeartbeats 8000000 in
theorem shortest_any (a c b : Nat) (x0 y0 x1 y1 : Int) (B cap : Nat) (w : World) (ha : 0 < a ∧ a ≤ 24) (hb : 0 < b ∧ b ≤ 24) (hc : c ≤ 24) (h0 : (-200 ≤ x0 ∧ x0 ≤ 200) ∧ (-200 ≤ y0 ∧ y0 ≤ 200)) (h1 : (-200 ≤ x1 ∧ x1 ≤ 200) ∧ (-200 ≤ y1 ∧ y1 ≤ 200))
  (c0 : w.cell? ⟨B, 0, none⟩ = some (.int .i64 (x0))) (c1 : w.cell? ⟨B, 1, none⟩ = some (.int .i64 (y0))) (c2 : w.cell? ⟨B, 2, none⟩ = some (.int .i64 (x1))) (c3 : w.cell? ⟨B, 3, none⟩ = some (.int .i64 (y1)))
  (V : Pt) (hV : (if (x0, y0) = ((0, 0) : Pt) then (x1, y1) else (x0, y0)) = V) (hv : V ≠ (0, 0)) (hh : latB (a : Int) (b : Int) (c : Int) V = true) :
  Calls Tryd.prog 86 #[.agg #[.int .i64 (a), .int .i64 0, .int .i64 (c), .int .i64 (b)], .slice (some ⟨B, 0, none⟩) 2 cap] w fun e w' => e = .returned (.agg #[.int .i64 ((shoP (a : Int) (b : Int) (c : Int) V).1), .int .i64 ((shoP (a : Int) (b : Int) (c : Int) V).2)]) ∧ Below w.heap.size w w' := by
 have HV := Lib.hid hv; have HH := Lib.hid hh
 have lB : LtW B w := World.block_lt_of_cell? _ _ c0
 have HSP := Lib.hid (shoN_spec (dvN_one hh) (szP V) (szP_pos hv))
 clear hv hh
 go_enter Tryd.func86, Tryd.ntmps86
 by_cases hx : x0 = 0
 ·subst hx
  by_cases hy : y0 = 0
  ·subst hy
   replace hV : (x1, y1) = V := by rw [if_pos rfl] at hV; exact hV
   go_wp2_with fail
   all_goals
    have HS := Lib.hid (SH.start w a c b (x1) (y1))
    generalize (((w.alloc (.cells #[.int .i64 (a : Nat), .int .i64 0, .int .i64 (c : Nat), .int .i64 (b : Nat)] 117)).alloc (.cells #[.int .i64 0, .int .i64 0] 52)).alloc (.cells #[.int .i64 (x1), .int .i64 (y1)] 52)) = w3 at *
    clear c0 c1 c2 c3 lB
    go_loopw [6] (fun nv wr => ∃ n : Nat, n ≤ szP V ∧ nv = .int .i64 (n) ∧ Hid (shoN (a : Int) (b : Int) (c : Int) V (szP V) = shoN (a : Int) (b : Int) (c : Int) V n) ∧ Hid (SH w.heap.size (w.heap.size + 1) (w.heap.size + 1 + 1) a c b (x1) (y1) w wr)) (fun nv _ => (intOf nv).toNat)
    case atStart => exact ⟨szP V, Nat.le_refl _, by subst hV; unfold szP; go_num; try omega, Lib.hid rfl, HS⟩
    case round =>
     clear HS
     obtain ⟨n, hn, rfl, HE, HS⟩ := hrel
     cases n with
     | zero =>
      exact lfKd23
     | succ j =>
      have hj9 : j ≤ 1000 := by subst hV; unfold szP at hn; simp only at hn; omega
      obtain ⟨D, hD⟩ : ∃ D : Int, ((j + 1 : Nat) : Int) = D := ⟨_, rfl⟩
      have HD := Lib.hid hD
      have hDj : ((j : Int) + 1) = D := by rw [← hD]; push_cast; rfl
      rw [hD]
      have hD1 : 1 ≤ D ∧ D ≤ 1001 := by omega
      have HDV : Hid (dvN (a : Int) (b : Int) (c : Int) V (j + 1) = (decide ((x1) % D = 0) && decide ((y1) % D = 0) && latB (a : Int) (b : Int) (c : Int) ((x1) / D, (y1) / D))) := Lib.hid (by rw [← hV, ← hD]; rfl)
      have HSX : Hid (shoP (a : Int) (b : Int) (c : Int) V = (V.1 / (((shoN (a : Int) (b : Int) (c : Int) V (szP V)) : Nat) : Int), V.2 / (((shoN (a : Int) (b : Int) (c : Int) V (szP V)) : Nat) : Int))) := Lib.hid rfl
      obtain ⟨qx, hqx⟩ : ∃ qx, Int.tdiv (x1) D = qx := ⟨_, rfl⟩
      obtain ⟨qy, hqy⟩ : ∃ qy, Int.tdiv (y1) D = qy := ⟨_, rfl⟩
      have bx : -200 ≤ qx ∧ qx ≤ 200 := by rw [← hqx]; exact tdiv_bdK (by omega)
      have by9 : -200 ≤ qy ∧ qy ≤ 200 := by rw [← hqy]; exact tdiv_bdK (by omega)
      have HQX := Lib.hid hqx; have HQY := Lib.hid hqy
      have v1 : IntKind.i64.wrap qx = qx := IntWalk.i64_in _ (by omega)
      have v2 : IntKind.i64.wrap qy = qy := IntWalk.i64_in _ (by omega)
      have j0 : ¬ (D = 0) := by omega
      have j1 : (D == 0) = false := by simp; omega
      have vD : IntKind.i64.wrap (D - 1) = D - 1 := IntWalk.i64_in _ (by omega)
      clear hD hDj
      have p0 : wr.cell? ⟨w.heap.size + 1 + 1, 0, none⟩ = some (.int .i64 (x1)) := HS.out.v.cell (i := 0) (by omega)
      have p1 : wr.cell? ⟨w.heap.size + 1 + 1, 1, none⟩ = some (.int .i64 (y1)) := HS.out.v.cell (i := 1) (by omega)
      have lv : LtW (w.heap.size + 1 + 1) wr := HS.out.v.lt
      by_cases hmx : Int.tmod (x1) D = 0
      ·by_cases hmy : Int.tmod (y1) D = 0
       ·have m1 : (Int.tmod (x1) D == 0) = true := by first | (simp; done) | simpa using hmx
        have m2 : (Int.tmod (y1) D == 0) = true := by simpa using hmy
        have m3 : (x1) % D = 0 := Int.emod_eq_zero_of_dvd (Int.dvd_of_tmod_eq_zero hmx)
        have m4 : (y1) % D = 0 := Int.emod_eq_zero_of_dvd (Int.dvd_of_tmod_eq_zero hmy)
        have ex : qx = (x1) / D := by rw [← hqx]; exact Int.tdiv_eq_ediv_of_dvd (Int.dvd_of_tmod_eq_zero hmx)
        have ey : qy = (y1) / D := by rw [← hqy]; exact Int.tdiv_eq_ediv_of_dvd (Int.dvd_of_tmod_eq_zero hmy)
        exact lfKd20
       ·have m1 : (Int.tmod (x1) D == 0) = true := by first | (simp; done) | simpa using hmx
        have m2 : (Int.tmod (y1) D == 0) = false := by simpa using hmy
        have m3 : (x1) % D = 0 := Int.emod_eq_zero_of_dvd (Int.dvd_of_tmod_eq_zero hmx)
        have m4 : ¬ (y1) % D = 0 := fun h => hmy (Int.tmod_eq_zero_of_dvd (Int.dvd_of_emod_eq_zero h))
        have HDF : Hid (dvN (a : Int) (b : Int) (c : Int) V (j + 1) = false) := Lib.hid (by
         rw [HDV.out, decide_eq_false (p := (y1) % D = 0) (fun h => hmy (Int.tmod_eq_zero_of_dvd (Int.dvd_of_emod_eq_zero h))), Bool.and_false, Bool.false_and])
        clear hmx hmy
        exact lfKd21
      ·try exact absurd (Int.zero_tmod _) hmx
       all_goals
        have m1 : (Int.tmod (x1) D == 0) = false := by simpa using hmx
        have m3 : ¬ (x1) % D = 0 := fun h => hmx (Int.tmod_eq_zero_of_dvd (Int.dvd_of_emod_eq_zero h))
        have HDF : Hid (dvN (a : Int) (b : Int) (c : Int) V (j + 1) = false) := Lib.hid (by
         rw [HDV.out, decide_eq_false (p := (x1) % D = 0) (fun h => hmx (Int.tmod_eq_zero_of_dvd (Int.dvd_of_emod_eq_zero h))), Bool.false_and, Bool.false_and])
        clear hmx
        exact lfKd21
  ·have b1 : (y0 == 0) = false := by simpa using hy
   replace hV : ((0 : Int), y0) = V := by rw [if_neg (by simpa using hy)] at hV; exact hV
   go_wp2_with fail
   all_goals
    have HS := Lib.hid (SH.start w a c b (0) (y0))
    generalize (((w.alloc (.cells #[.int .i64 (a : Nat), .int .i64 0, .int .i64 (c : Nat), .int .i64 (b : Nat)] 117)).alloc (.cells #[.int .i64 0, .int .i64 0] 52)).alloc (.cells #[.int .i64 (0), .int .i64 (y0)] 52)) = w3 at *
    clear c0 c1 c2 c3 lB
    go_loopw [6] (fun nv wr => ∃ n : Nat, n ≤ szP V ∧ nv = .int .i64 (n) ∧ Hid (shoN (a : Int) (b : Int) (c : Int) V (szP V) = shoN (a : Int) (b : Int) (c : Int) V n) ∧ Hid (SH w.heap.size (w.heap.size + 1) (w.heap.size + 1 + 1) a c b (0) (y0) w wr)) (fun nv _ => (intOf nv).toNat)
    case atStart => exact ⟨szP V, Nat.le_refl _, by subst hV; unfold szP; go_num; try omega, Lib.hid rfl, HS⟩
    case round =>
     clear HS
     obtain ⟨n, hn, rfl, HE, HS⟩ := hrel
     cases n with
     | zero =>
      exact lfKd23
     | succ j =>
      have hj9 : j ≤ 1000 := by subst hV; unfold szP at hn; simp only at hn; omega
      obtain ⟨D, hD⟩ : ∃ D : Int, ((j + 1 : Nat) : Int) = D := ⟨_, rfl⟩
      have HD := Lib.hid hD
      have hDj : ((j : Int) + 1) = D := by rw [← hD]; push_cast; rfl
      rw [hD]
      have hD1 : 1 ≤ D ∧ D ≤ 1001 := by omega
      have HDV : Hid (dvN (a : Int) (b : Int) (c : Int) V (j + 1) = (decide ((0) % D = 0) && decide ((y0) % D = 0) && latB (a : Int) (b : Int) (c : Int) ((0) / D, (y0) / D))) := Lib.hid (by rw [← hV, ← hD]; rfl)
      have HSX : Hid (shoP (a : Int) (b : Int) (c : Int) V = (V.1 / (((shoN (a : Int) (b : Int) (c : Int) V (szP V)) : Nat) : Int), V.2 / (((shoN (a : Int) (b : Int) (c : Int) V (szP V)) : Nat) : Int))) := Lib.hid rfl
      obtain ⟨qx, hqx⟩ : ∃ qx, Int.tdiv (0) D = qx := ⟨_, rfl⟩
      obtain ⟨qy, hqy⟩ : ∃ qy, Int.tdiv (y0) D = qy := ⟨_, rfl⟩
      have bx : -200 ≤ qx ∧ qx ≤ 200 := by rw [← hqx]; exact tdiv_bdK (by omega)
      have by9 : -200 ≤ qy ∧ qy ≤ 200 := by rw [← hqy]; exact tdiv_bdK (by omega)
      have HQX := Lib.hid hqx; have HQY := Lib.hid hqy
      have v1 : IntKind.i64.wrap qx = qx := IntWalk.i64_in _ (by omega)
      have v2 : IntKind.i64.wrap qy = qy := IntWalk.i64_in _ (by omega)
      have j0 : ¬ (D = 0) := by omega
      have j1 : (D == 0) = false := by simp; omega
      have vD : IntKind.i64.wrap (D - 1) = D - 1 := IntWalk.i64_in _ (by omega)
      clear hD hDj
      have p0 : wr.cell? ⟨w.heap.size + 1 + 1, 0, none⟩ = some (.int .i64 (0)) := HS.out.v.cell (i := 0) (by omega)
      have p1 : wr.cell? ⟨w.heap.size + 1 + 1, 1, none⟩ = some (.int .i64 (y0)) := HS.out.v.cell (i := 1) (by omega)
      have lv : LtW (w.heap.size + 1 + 1) wr := HS.out.v.lt
      by_cases hmx : Int.tmod (0) D = 0
      ·by_cases hmy : Int.tmod (y0) D = 0
       ·have m1 : (Int.tmod (0) D == 0) = true := by first | (simp; done) | simpa using hmx
        have m2 : (Int.tmod (y0) D == 0) = true := by simpa using hmy
        have m3 : (0) % D = 0 := Int.emod_eq_zero_of_dvd (Int.dvd_of_tmod_eq_zero hmx)
        have m4 : (y0) % D = 0 := Int.emod_eq_zero_of_dvd (Int.dvd_of_tmod_eq_zero hmy)
        have ex : qx = (0) / D := by rw [← hqx]; exact Int.tdiv_eq_ediv_of_dvd (Int.dvd_of_tmod_eq_zero hmx)
        have ey : qy = (y0) / D := by rw [← hqy]; exact Int.tdiv_eq_ediv_of_dvd (Int.dvd_of_tmod_eq_zero hmy)
        exact lfKd20
       ·have m1 : (Int.tmod (0) D == 0) = true := by first | (simp; done) | simpa using hmx
        have m2 : (Int.tmod (y0) D == 0) = false := by simpa using hmy
        have m3 : (0) % D = 0 := Int.emod_eq_zero_of_dvd (Int.dvd_of_tmod_eq_zero hmx)
        exact lfKd22
      ·try exact absurd (Int.zero_tmod _) hmx
       all_goals
        have m1 : (Int.tmod (0) D == 0) = false := by simpa using hmx
        have m3 : ¬ (0) % D = 0 := fun h => hmx (Int.tmod_eq_zero_of_dvd (Int.dvd_of_emod_eq_zero h))
        have HDF : Hid (dvN (a : Int) (b : Int) (c : Int) V (j + 1) = false) := Lib.hid (by
         rw [HDV.out, decide_eq_false (p := (0) % D = 0) (fun h => hmx (Int.tmod_eq_zero_of_dvd (Int.dvd_of_emod_eq_zero h))), Bool.false_and, Bool.false_and])
        clear hmx
        exact lfKd21
 ·have b1 : (x0 == 0) = false := by simpa using hx
  replace hV : (x0, y0) = V := by rw [if_neg (by simpa using fun h => absurd h hx)] at hV; exact hV
  go_wp2_with fail
  all_goals
   have HS := Lib.hid (SH.start w a c b (x0) (y0))
   generalize (((w.alloc (.cells #[.int .i64 (a : Nat), .int .i64 0, .int .i64 (c : Nat), .int .i64 (b : Nat)] 117)).alloc (.cells #[.int .i64 0, .int .i64 0] 52)).alloc (.cells #[.int .i64 (x0), .int .i64 (y0)] 52)) = w3 at *
   clear c0 c1 c2 c3 lB
   go_loopw [6] (fun nv wr => ∃ n : Nat, n ≤ szP V ∧ nv = .int .i64 (n) ∧ Hid (shoN (a : Int) (b : Int) (c : Int) V (szP V) = shoN (a : Int) (b : Int) (c : Int) V n) ∧ Hid (SH w.heap.size (w.heap.size + 1) (w.heap.size + 1 + 1) a c b (x0) (y0) w wr)) (fun nv _ => (intOf nv).toNat)
   case atStart => exact ⟨szP V, Nat.le_refl _, by subst hV; unfold szP; go_num; try omega, Lib.hid rfl, HS⟩
   case round =>
    clear HS
    obtain ⟨n, hn, rfl, HE, HS⟩ := hrel
    cases n with
    | zero =>
     exact lfKd23
    | succ j =>
     have hj9 : j ≤ 1000 := by subst hV; unfold szP at hn; simp only at hn; omega
     obtain ⟨D, hD⟩ : ∃ D : Int, ((j + 1 : Nat) : Int) = D := ⟨_, rfl⟩
     have HD := Lib.hid hD
     have hDj : ((j : Int) + 1) = D := by rw [← hD]; push_cast; rfl
     rw [hD]
     have hD1 : 1 ≤ D ∧ D ≤ 1001 := by omega
     have HDV : Hid (dvN (a : Int) (b : Int) (c : Int) V (j + 1) = (decide ((x0) % D = 0) && decide ((y0) % D = 0) && latB (a : Int) (b : Int) (c : Int) ((x0) / D, (y0) / D))) := Lib.hid (by rw [← hV, ← hD]; rfl)
     have HSX : Hid (shoP (a : Int) (b : Int) (c : Int) V = (V.1 / (((shoN (a : Int) (b : Int) (c : Int) V (szP V)) : Nat) : Int), V.2 / (((shoN (a : Int) (b : Int) (c : Int) V (szP V)) : Nat) : Int))) := Lib.hid rfl
     obtain ⟨qx, hqx⟩ : ∃ qx, Int.tdiv (x0) D = qx := ⟨_, rfl⟩
     obtain ⟨qy, hqy⟩ : ∃ qy, Int.tdiv (y0) D = qy := ⟨_, rfl⟩
     have bx : -200 ≤ qx ∧ qx ≤ 200 := by rw [← hqx]; exact tdiv_bdK (by omega)
     have by9 : -200 ≤ qy ∧ qy ≤ 200 := by rw [← hqy]; exact tdiv_bdK (by omega)
     have HQX := Lib.hid hqx; have HQY := Lib.hid hqy
     have v1 : IntKind.i64.wrap qx = qx := IntWalk.i64_in _ (by omega)
     have v2 : IntKind.i64.wrap qy = qy := IntWalk.i64_in _ (by omega)
     have j0 : ¬ (D = 0) := by omega
     have j1 : (D == 0) = false := by simp; omega
     have vD : IntKind.i64.wrap (D - 1) = D - 1 := IntWalk.i64_in _ (by omega)
     clear hD hDj
     have p0 : wr.cell? ⟨w.heap.size + 1 + 1, 0, none⟩ = some (.int .i64 (x0)) := HS.out.v.cell (i := 0) (by omega)
     have p1 : wr.cell? ⟨w.heap.size + 1 + 1, 1, none⟩ = some (.int .i64 (y0)) := HS.out.v.cell (i := 1) (by omega)
     have lv : LtW (w.heap.size + 1 + 1) wr := HS.out.v.lt
     by_cases hmx : Int.tmod (x0) D = 0
     ·by_cases hmy : Int.tmod (y0) D = 0
      ·have m1 : (Int.tmod (x0) D == 0) = true := by first | (simp; done) | simpa using hmx
       have m2 : (Int.tmod (y0) D == 0) = true := by simpa using hmy
       have m3 : (x0) % D = 0 := Int.emod_eq_zero_of_dvd (Int.dvd_of_tmod_eq_zero hmx)
       have m4 : (y0) % D = 0 := Int.emod_eq_zero_of_dvd (Int.dvd_of_tmod_eq_zero hmy)
       have ex : qx = (x0) / D := by rw [← hqx]; exact Int.tdiv_eq_ediv_of_dvd (Int.dvd_of_tmod_eq_zero hmx)
       have ey : qy = (y0) / D := by rw [← hqy]; exact Int.tdiv_eq_ediv_of_dvd (Int.dvd_of_tmod_eq_zero hmy)
       exact lfKd20
      ·have m1 : (Int.tmod (x0) D == 0) = true := by first | (simp; done) | simpa using hmx
       have m2 : (Int.tmod (y0) D == 0) = false := by simpa using hmy
       have m3 : (x0) % D = 0 := Int.emod_eq_zero_of_dvd (Int.dvd_of_tmod_eq_zero hmx)
       exact lfKd22
     ·try exact absurd (Int.zero_tmod _) hmx
      all_goals
       have m1 : (Int.tmod (x0) D == 0) = false := by simpa using hmx
       have m3 : ¬ (x0) % D = 0 := fun h => hmx (Int.tmod_eq_zero_of_dvd (Int.dvd_of_emod_eq_zero h))
       have HDF : Hid (dvN (a : Int) (b : Int) (c : Int) V (j + 1) = false) := Lib.hid (by
        rw [HDV.out, decide_eq_false (p := (x0) % D = 0) (fun h => hmx (Int.tmod_eq_zero_of_dvd (Int.dvd_of_emod_eq_zero h))), Bool.false_and, Bool.false_and])
       clear hmx
       exact lfKd21
end
section
open Go.RowKit
open Z (torN place pnt Mv To lin okT nrm keepB colP idm md redM both inv)
theorem head_filter {α : Type} {p : α → Bool} {a : α} : ∀ {l : List α}, l[0]? = some a → p a = true → (l.filter p)[0]? = some a
 | [], h, _ => by simp at h
 | x :: l, h, hp => by
  obtain rfl : x = a := by simpa using h
  rw [List.filter_cons, if_pos hp]; rfl
theorem allM_head {g : Int} {n : Nat} (hg : 0 < g.toNat) (hn : 0 < n) : (Z.allM g n)[0]? = some idm := by
 obtain ⟨s, hs⟩ : ∃ s, g.toNat = s + 1 := ⟨g.toNat - 1, by omega⟩
 obtain ⟨r, hr⟩ : ∃ r, n * n = r + 1 := ⟨n * n - 1, by have := Nat.mul_pos hn hn; omega⟩
 have h0 : pnt n 0 = (0, 0) := by unfold pnt; simp
 unfold Z.allM
 rw [hs, hr, List.range_succ_eq_map, List.range_succ_eq_map]
 simp [h0, idm]
theorem moves_head {W H n : Nat} {cs : List Int} {g : Int} (hg : g = 4 ∨ g = 6) (hn : 0 < n) (hW : W ∣ n) (hH : H ∣ n) : (Z.movesL W H cs g n)[0]? = some idm :=
 head_filter (allM_head (by omega) hn) ((Z.keepB_iff hn hW hH).2 (Z.Keep.id g _))
def tb (b : Bool) : Value := .bool b
theorem moves_facts {G W H n N : Nat} {cs : List Int} (h : ChOk G W H n cs) (hN : torN W H = N) (h24 : N ≤ 24) (h0 : 0 < N) :
  Z.Grp (G : Int) (N : Int) (colP W H cs) (Z.movesL W H cs G N) ∧ Z.Per (N : Int) (colP W H cs) ∧ (Z.movesL W H cs G N)[0]? = some idm ∧ (Z.movesL W H cs G N).length ≤ 10000 := by
 have hd := Z.torN_dvd W H
 rw [hN] at hd
 refine ⟨Z.movesL_grp h0 hd.1 hd.2, Z.colP_per cs hd.1 hd.2, moves_head (by have := h.g; omega) h0 hd.1 hd.2, ?_⟩
 refine Nat.le_trans (List.length_filter_le _ _) ?_
 unfold Z.allM
 have hNN : N * N ≤ 576 := Nat.mul_le_mul h24 h24
 simp only [List.flatMap_cons, List.flatMap_nil, List.length_append, List.length_flatMap, List.length_map, List.length_range, List.length_nil, List.map_const', List.sum_replicate_nat, Int.toNat_natCast]
 have : G * (N * N) ≤ 6 * 576 := Nat.mul_le_mul (by have := h.g; omega) hNN
 omega
theorem smB_of {x y : Int} (h : -1048576 ≤ x ∧ x ≤ 1048576 ∧ -1048576 ≤ y ∧ y ≤ 1048576) : smB x y = true := by simp [smB]; omega
theorem mv_wf {m : Mv} {g : Int} (hg : g = 4 ∨ g = 6) (ht : okT g m) : m.t ≤ 6 := by unfold okT at ht; omega
theorem Compose_torus (g : Int) (N : Nat) (f h : Mv) (w : World) (hg : g = 4 ∨ g = 6) (h24 : N ≤ 24) (of : okT g f) (oh : okT g h) (bf : 0 ≤ f.o.1 ∧ f.o.1 < N ∧ 0 ≤ f.o.2 ∧ f.o.2 < N) (bh : 0 ≤ h.o.1 ∧ h.o.1 < N ∧ 0 ≤ h.o.2 ∧ h.o.2 < N) :
  Calls Tryd.prog 88 #[.int .i64 (g), .agg #[.int .i64 (f.t), .bool (f.f), .int .i64 (f.o.1), .int .i64 (f.o.2)], .agg #[.int .i64 (h.t), .bool (h.f), .int .i64 (h.o.1), .int .i64 (h.o.2)]] w fun e w' => e = .returned (.tuple #[mvV (both g f h), .int .i64 (0)]) ∧ Below w.heap.size w w' := by
 have h1 := Compose_any g f.t f.o.1 f.o.2 h.t h.o.1 h.o.2 f.f h.f w (by omega) (by have := mv_wf hg of; omega) (by omega) (by omega) (by have := mv_wf hg oh; omega) (by omega) (by omega)
 have hs := To_small hg f.t f.f (x := h.o.1) (y := h.o.2) (ox := f.o.1) (oy := f.o.2) (by omega) (by omega) (by omega) (by omega)
 have h2 : smB (both g f h).o.1 (both g f h).o.2 = true := smB_of (by
  have e : (both g f h).o = To g ⟨f.t, f.f, (f.o.1, f.o.2)⟩ (h.o.1, h.o.2) := rfl
  rw [e]; omega)
 rw [coV_ok ⟨hg, of, smB_of (by omega)⟩ ⟨hg, oh, smB_of (by omega)⟩, if_neg (by rw [h2]; simp)] at h1
 exact h1
end
end Go.Proofs.YtajdoobkfbdgoaaDoor
