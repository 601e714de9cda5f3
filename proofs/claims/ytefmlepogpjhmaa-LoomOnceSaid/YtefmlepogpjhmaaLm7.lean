/- Chapter 10: a loom is opened. -/
import Derived.Test.YtefmlepogpjhmaaLm6
import Derived.Deep.DeepCutAuto
namespace Go.Proofs.Ytefmlepogpjhmaa
open Go.RowKit
set_option linter.unusedVariables false
set_option linter.unusedSimpArgs false
open Lm
/-- A loom that is opened. -/
def OpenPost (b W H n : Nat) (bs : List Bool) (l : St) (w : World) (r : Ending) (w' : World) : Prop :=
  ∃ a A c, r = .returned (.tuple #[.pointer (some ⟨a, 0, none⟩), .int .i64 (0)]) ∧ LMr a b W H (.slice A n c) l w' ∧ w'.ownsRow w.heap.size 4 1 (.slice A n c) n (bs.map Value.bool) ∧ w.heap.size ≤ a ∧ Below w.heap.size w w'
theorem lm_alloc (w : World) (W H : Nat) (A : Option Addr) (n c b : Nat) : LMr w.heap.size b W H (.slice A n c) ⟨0, 0, false, false⟩ (w.alloc (.cells #[.int .i64 (W), .int .i64 (H), .slice A n c, (.iface 46 (.pointer (some ⟨b, 0, none⟩))), .int .i64 (0), .int .i64 (0), .bool false, .bool false] 73)) := by
  refine World.rowIs_alloc w #[.int .i64 (W), .int .i64 (H), .slice A n c, (.iface 46 (.pointer (some ⟨b, 0, none⟩))), .int .i64 (0), .int .i64 (0), .bool false, .bool false] 73 _ ?_
  intro i hi
  have hi3 : i = 0 ∨ i = 1 ∨ i = 2 ∨ i = 3 ∨ i = 4 ∨ i = 5 ∨ i = 6 ∨ i = 7 := by simp at hi; omega
  rcases hi3 with rfl | rfl | rfl | rfl | rfl | rfl | rfl | rfl <;> rfl
theorem LMr.setB {a b W H : Nat} {bv bv' : Value} {l : St} {w : World} (h : LMr a b W H bv l w) : LMr a b W H bv' l (w.setCell ⟨a, 2, none⟩ bv') :=
  (h.set 2 _).congr fun i hi => by
    have hi3 : i = 0 ∨ i = 1 ∨ i = 2 ∨ i = 3 ∨ i = 4 ∨ i = 5 ∨ i = 6 ∨ i = 7 := by omega
    rcases hi3 with rfl | rfl | rfl | rfl | rfl | rfl | rfl | rfl <;> rfl
set_option maxRecDepth 100000 in
set_option maxHeartbeats 8000000 in
theorem Open_ok (W H : Nat) (A : Option Addr) (n c b g cp : Nat) (bs : List Bool) (D : Dk) (w : World) (h : DK b g cp D w) (hI : IsBools w A n bs) (hw : wrT W H n = 0) (hn0 : n ≠ 0) (h2 : 2 ≤ D.ws.length) (hl : D.ws.length ≤ 9223372036854775807) :
    Calls Try.prog 12 #[.agg #[.int .i64 (W), .int .i64 (H), .slice A n c], (.iface 46 (.pointer (some ⟨b, 0, none⟩)))] w (OpenPost b W H n bs (begin_ H D.ws) w) := by
  obtain ⟨W', H', eW, eH, hW, hH, hn⟩ := wrT_zero hw
  obtain rfl : W = W' := by omega
  obtain rfl : H = H' := by omega
  have hn4 : n ≤ 4096 := by rw [hn]; exact Nat.mul_le_mul hW hH
  have HWR := Lib.hid (fun w => tWrong_any W H A n c w (by omega) (by omega) (by omega))
  rw [hw] at HWR
  have HS := Lib.hid (fun w h => size_ok b g cp D w h)
  have HG0 := Lib.hid (fun w h => get_ok b g cp 0 D w h (by omega) hl)
  have HG1 := Lib.hid (fun w h => get_ok b g cp 1 D w h (by omega) hl)
  have HCL := Lib.hid (fun w hI => cloneB_any A n c bs w hI (by omega))
  have HD := Lib.hid h
  have HI := Lib.hid hI
  have b1 : ((n : Int) == 0) = false := by simp; omega
  have b2 : (n == 0) = false := by simpa using hn0
  have b3 : decide ((D.ws.length : Int) < 2) = false := by simp; omega
  have b4 : decide (D.ws.length < 2) = false := by simp; omega
  have hl2 := hI.1
  have hx0 := h.wf (D.ws.getD 0 0) (by rw [List.getD_eq_getElem?_getD, List.getElem?_eq_getElem (by omega)]; exact List.getElem_mem _)
  obtain ⟨sz, hsz⟩ : ∃ sz, D.ws.length = sz := ⟨_, rfl⟩
  rw [hsz] at HS b3 b4
  obtain ⟨wv, hwv⟩ : ∃ x, wv0 H D.ws = x := ⟨_, rfl⟩
  have hb : begin_ H D.ws = ⟨wv, if wv = H then 6 else if D.ws.getD 1 0 = (wv : Int) + 1 then 5 else 0, false, false⟩ := by unfold begin_; rw [hwv]
  rw [hb]
  have hwe : wv = if 0 < D.ws.getD 0 0 ∧ D.ws.getD 0 0 ≤ H then (D.ws.getD 0 0).toNat else 0 := by rw [← hwv]; rfl
  obtain ⟨x0, hx0e⟩ : ∃ x, D.ws.getD 0 0 = x := ⟨_, rfl⟩
  obtain ⟨x1, hx1e⟩ : ∃ x, D.ws.getD 1 0 = x := ⟨_, rfl⟩
  rw [hx0e] at HG0 hwe hx0
  rw [hx1e] at HG1 ⊢
  obtain ⟨av, hav⟩ : ∃ y, (if wv = H then 6 else if x1 = (wv : Int) + 1 then 5 else 0) = y := ⟨_, rfl⟩
  rw [hav]
  have HAV := Lib.hid hav
  have HWE := Lib.hid hwe
  have HNN := Lib.hid hl2
  clear hb hwv h hI hw hn0 h2 hl eW eH hn hsz hx0e hx1e hwe hl2 hav
  go_enter Try.func12, Try.ntmps12
  (go_wp2_with fail; refine (HWR.out _).mono ?_; rintro r w1 ⟨rfl, hb⟩; obtain ⟨E, d, rfl⟩ := bExt hb; clear hb)
  go_wp2_with fail
  refine (HS.out _ (HD.out.keep (a1 := 0) (by repeat (first | exact Below.refl _ _ | refine Below.drew ?_ | refine below_drewN ?_ _ | refine Below.alloc ?_ (by first | exact Nat.le_refl _ | (simp; done) | (simp; omega) | omega) _ | refine Below.setCell ?_ (by first | exact Nat.le_refl _ | (simp; done) | (simp; omega) | omega) _ | refine bExtW ?_ (by first | exact Nat.le_refl _ | (simp; done) | (simp; omega) | omega) | refine Below.trans ?_ (Below.mono (by assumption) (by first | exact Nat.le_refl _ | (simp; done) | (simp; omega) | omega)))))).mono ?_
  rintro r w1 ⟨rfl, hb⟩
  obtain ⟨E2, d2, rfl⟩ := bExt hb
  clear hb
  go_wp2_with fail
  have hmr := rowBelow (tF_alloc w W H (.slice A n c) rfl) (bExtW (bExtW (Below.refl _ _) (Nat.le_refl _)) (by simp) : Below _ _ (extW (extW (w.alloc (.cells #[.int .i64 (W), .int .i64 (H), .slice A n c] 24)) E d) E2 d2)) (by simp)
  have hsz : (extW (extW (w.alloc (.cells #[.int .i64 (W), .int .i64 (H), .slice A n c] 24)) E d) E2 d2).heap.size = w.heap.size + 1 + E.size + E2.size := by simp
  have hbA : Below w.heap.size w (extW (extW (w.alloc (.cells #[.int .i64 (W), .int .i64 (H), .slice A n c] 24)) E d) E2 d2) := (by repeat (first | exact Below.refl _ _ | refine Below.drew ?_ | refine below_drewN ?_ _ | refine Below.alloc ?_ (by first | exact Nat.le_refl _ | (simp; done) | (simp; omega) | omega) _ | refine Below.setCell ?_ (by first | exact Nat.le_refl _ | (simp; done) | (simp; omega) | omega) _ | refine bExtW ?_ (by first | exact Nat.le_refl _ | (simp; done) | (simp; omega) | omega) | refine Below.trans ?_ (Below.mono (by assumption) (by first | exact Nat.le_refl _ | (simp; done) | (simp; omega) | omega))))
  have hlm := lm_alloc (extW (extW (w.alloc (.cells #[.int .i64 (W), .int .i64 (H), .slice A n c] 24)) E d) E2 d2) W H A n c b
  rw [hsz] at hlm
  have hma : w.heap.size < w.heap.size + 1 + E.size + E2.size := by omega
  generalize extW (extW (w.alloc (.cells #[.int .i64 (W), .int .i64 (H), .slice A n c] 24)) E d) E2 d2 = WA at *
  generalize w.heap.size + 1 + E.size + E2.size = a at *
  have hmr1 := hmr.alloc (.cells #[.int .i64 (W), .int .i64 (H), .slice A n c, (.iface 46 (.pointer (some ⟨b, 0, none⟩))), .int .i64 (0), .int .i64 (0), .bool false, .bool false] 73)
  have hb1 : Below w.heap.size w (WA.alloc (.cells #[.int .i64 (W), .int .i64 (H), .slice A n c, (.iface 46 (.pointer (some ⟨b, 0, none⟩))), .int .i64 (0), .int .i64 (0), .bool false, .bool false] 73)) := (by repeat (first | exact Below.refl _ _ | refine Below.drew ?_ | refine below_drewN ?_ _ | refine Below.alloc ?_ (by first | exact Nat.le_refl _ | (simp; done) | (simp; omega) | omega) _ | refine Below.setCell ?_ (by first | exact Nat.le_refl _ | (simp; done) | (simp; omega) | omega) _ | refine bExtW ?_ (by first | exact Nat.le_refl _ | (simp; done) | (simp; omega) | omega) | refine Below.trans ?_ (Below.mono (by assumption) (by first | exact Nat.le_refl _ | (simp; done) | (simp; omega) | omega))))
  generalize WA.alloc (.cells #[.int .i64 (W), .int .i64 (H), .slice A n c, (.iface 46 (.pointer (some ⟨b, 0, none⟩))), .int .i64 (0), .int .i64 (0), .bool false, .bool false] 73) = W1 at *
  have hd1 := HD.out.keep (a1 := 0) hb1
  have hne := do_ne hlm hd1
  obtain ⟨hab, hag⟩ := hne
  have hmsz : w.heap.size ≤ a := by omega
  have HLM := Lib.hid hlm; have HMR := Lib.hid hmr1; have HD1 := Lib.hid hd1; have HB1 := Lib.hid hb1; have HI1 := Lib.hid (HI.out.below hb1)
  have hmne : w.heap.size ≠ a := by omega
  generalize hmb : w.heap.size = mb at *
  have HMB := Lib.hid hmb
  clear hmr hsz hbA hlm hmr1 hb1 hd1 HD HI HWR HS hma hmb
  refine (HCL.out W1 HI1.out).mono ?_
  rintro r w3 ⟨A3, C3, rfl, ho3, hb3⟩
  have HO3 := Lib.hid (ownsRow_setCell_below ho3 (a := ⟨a, 2, none⟩) HLM.out.lt (.slice A3 bs.length C3))
  have hlm3 : LMr a b W H (.slice A n c) ⟨0, 0, false, false⟩ w3 := rowBelow HLM.out hb3 HLM.out.lt
  have hmr3 := rowBelow HMR.out hb3 HMR.out.lt
  have HM4 : Hid (LMr a b W H (.slice A3 bs.length C3) ⟨0, 0, false, false⟩ (w3.setCell ⟨a, 2, none⟩ (.slice A3 bs.length C3))) := Lib.hid (LMr.setB hlm3)
  have HR4 := Lib.hid (hmr3.of_block (Below.heap_setCell w3 ⟨a, 2, none⟩ (.slice A3 bs.length C3) mb (by simp; omega)))
  have HD4 := Lib.hid ((HD1.out.keep (a1 := 0) hb3).ofSet (i := 2) (v := .slice A3 bs.length C3) hab hag)
  have HB4 := Lib.hid ((HB1.out.trans (hb3.mono (by have := HB1.out.size; have := HMB.out; omega))).setCell (p := ⟨a, 2, none⟩) (by simp; omega) (.slice A3 bs.length C3))
  have hbs := HLM.out.lt
  have la : LtW a w3 := hlm3.lt
  have q2 := hlm3.cell (i := 2) (by omega)
  have q2' : w3.cell? ⟨a, 2, none⟩ = some (.slice A n c) := q2
  have g2 := hlm3.frozen 2
  obtain ⟨base, hbase⟩ : ∃ x, W1.heap.size = x := ⟨_, rfl⟩
  rw [hbase] at HO3 hbs
  clear ho3 hb3 hlm3 hmr3 q2 HLM HMR HD1 HB1 HI1 HCL hbase
  go_wp2_with fail
  generalize w3.setCell ⟨a, 2, none⟩ (.slice A3 bs.length C3) = w4 at *
  clear la q2' g2
  refine (HG0.out w4 HD4.out).mono ?_
  rintro r w5 ⟨rfl, hb5⟩
  have HO5 := Lib.hid (ownBelow HO3.out hb5)
  have HM5 : Hid (LMr a b W H (.slice A3 bs.length C3) ⟨0, 0, false, false⟩ w5) := Lib.hid (rowBelow HM4.out hb5 HM4.out.lt)
  have HR5 := Lib.hid (rowBelow HR4.out hb5 HR4.out.lt)
  have HD5 := Lib.hid (HD4.out.keep (a1 := 0) hb5)
  have HB5 := Lib.hid (HB4.out.trans (hb5.mono (by have := HB4.out.size; have := HMB.out; omega)))
  clear hb5 HO3 HM4 HR4 HD4 HB4 HG0
  have mH : w5.cell? ⟨mb, 1, none⟩ = some (.int .i64 (H)) := HR5.out.cell (i := 1) (by omega)
  have lmb : LtW mb w5 := HR5.out.lt
  by_cases hp : 0 < x0 ∧ x0 ≤ H
  · have t1 : decide (x0 > 0) = true := by simp; omega
    have t2 : decide (0 < x0) = true := by simp; omega
    have t3 : decide (x0 ≤ (H : Int)) = true := by simp; omega
    have hwv : wv = x0.toNat := by rw [HWE.out, if_pos hp]
    obtain ⟨k, rfl⟩ : ∃ k : Nat, x0 = k := ⟨x0.toNat, by omega⟩
    obtain rfl : wv = k := by omega
    have HWL : Hid (wv ≤ 64) := Lib.hid (by omega)
    have t4 : decide (wv ≤ H) = true := by simp; omega
    have t5 : decide (0 < wv) = true := by simp; omega
    have m4 : w5.cell? ⟨a, 4, none⟩ = some (.int .i64 (0)) := HM5.out.cell (i := 4) (by omega)
    have fm4 := HM5.out.frozen 4
    have la : LtW a w5 := HM5.out.lt
    have HM6 : Hid (LMr a b W H (.slice A3 bs.length C3) ⟨wv, 0, false, false⟩ (w5.setCell ⟨a, 4, none⟩ (.int .i64 ((wv : Int))))) := Lib.hid (LMr.setW HM5.out wv)
    have HO6 := Lib.hid (ownsRow_setCell_below HO5.out (a := ⟨a, 4, none⟩) hbs (.int .i64 ((wv : Int))))
    have HR6 := Lib.hid (HR5.out.of_block (Below.heap_setCell w5 ⟨a, 4, none⟩ (.int .i64 ((wv : Int))) mb (by simp; omega)))
    have HD6 := Lib.hid (HD5.out.ofSet (i := 4) (v := .int .i64 ((wv : Int))) hab hag)
    have HB6 := Lib.hid (HB5.out.setCell (p := ⟨a, 4, none⟩) (by simp; omega) (.int .i64 ((wv : Int))))
    clear HM5 HO5 HR5 HD5 HB5 hp hwv HWE
    go_upto_region 13 with fail
    generalize w5.setCell ⟨a, 4, none⟩ (.int .i64 ((wv : Int))) = w6 at *
    clear m4 fm4 la mH lmb t1 t2 t3 t4 t5
    have mH : w6.cell? ⟨mb, 1, none⟩ = some (.int .i64 (H)) := HR6.out.cell (i := 1) (by omega)
    have lmb : LtW mb w6 := HR6.out.lt
    have m4 : w6.cell? ⟨a, 4, none⟩ = some (.int .i64 ((wv : Int))) := HM6.out.cell (i := 4) (by omega)
    have m5 : w6.cell? ⟨a, 5, none⟩ = some (.int .i64 (0)) := HM6.out.cell (i := 5) (by omega)
    have fm5 := HM6.out.frozen 5
    have la : LtW a w6 := HM6.out.lt
    by_cases hwH : wv = H
    · have z1 : (((wv : Nat) : Int) == (H : Int)) = true := by simp; omega
      have z2 : ((wv : Int) == (H : Int)) = true := by simp; omega
      have z3 : (wv == H) = true := by simp; omega
      have HA6 : Hid (av = 6) := Lib.hid (by rw [← HAV.out, if_pos hwH])
      clear hwH
      go_wp2_with fail
      (refine wp_region_ext (by kernel_rfl) (by kernel_rfl) ?_; (repeat (first | ((with_reducible refine ext_step (fun K hK => ?_)); go_simp; first | (refine hK _ ?_; clear hK K) | (apply Exists.intro; refine ⟨fun _ _ => ?_, hK _ ?_⟩; fail; clear hK K)))); refine wpQuiet_nil ?_; intro E d)
      go_wp2
      go_ret2
      have HO7 := ownBelow (ownsRow_setCell_below HO6.out (a := ⟨a, 5, none⟩) hbs (.int .i64 (6))) (bExtW (Below.refl _ _) (Nat.le_refl _) : Below _ _ (extW (w6.setCell ⟨a, 5, none⟩ (.int .i64 (6))) E d))
      rw [HA6.out]
      refine ⟨a, A3, C3, rfl, ?_, ?_, ?_, ?_⟩
      · rw [← HNN.out]; exact LMk (LMr.setA HM6.out 6) (bExtW (Below.refl _ _) (Nat.le_refl _))
      · rw [HMB.out, ← HNN.out]; exact own_lower HO7 (by omega)
      · rw [HMB.out]; omega
      · rw [HMB.out]; exact bExtW (HB6.out.setCell (by simp; omega) _) (by rw [World.size_setCell]; have := HB6.out.size; have := HMB.out; omega)
    · have z1 : (((wv : Nat) : Int) == (H : Int)) = false := by simp; omega
      have z2 : ((wv : Int) == (H : Int)) = false := by simp; omega
      have z3 : (wv == H) = false := by simp; omega
      have vw : IntKind.i64.wrap (1 : Int) = 1 := IntWalk.i64_in _ (by omega)
      have vv : IntKind.i64.wrap ((wv : Int) + 1) = (wv : Int) + 1 := IntWalk.i64_in _ (by have hwl := HWL.out; omega)
      by_cases hx : x1 = (wv : Int) + 1
      · have z4 : (x1 == (wv : Int) + 1) = true := by simpa using hx
        have z5 := z4
        first | (simp only [Int.zero_add] at z5) | clear z5
        have HA6 : Hid (av = 5) := Lib.hid (by rw [← HAV.out, if_neg hwH, if_pos (by first | exact hx | (simpa using hx))])
        clear hwH hx
        go_wp2_with fail
        (refine wp_region_ext (by kernel_rfl) (by kernel_rfl) ?_; (repeat (first | ((with_reducible refine ext_step (fun K hK => ?_)); go_simp; first | (refine hK _ ?_; clear hK K) | (apply Exists.intro; refine ⟨fun _ _ => ?_, hK _ ?_⟩; fail; clear hK K)))); refine wpQuiet_nil ?_; intro E d)
        obtain ⟨E1, hE1⟩ : ∃ x, x = E := ⟨_, rfl⟩
        rw [← hE1]
        clear hE1
        go_wp2_with fail
        (refine wp_region_ext (by kernel_rfl) (by kernel_rfl) ?_; (repeat (first | ((with_reducible refine ext_step (fun K hK => ?_)); go_simp; first | (refine hK _ ?_; clear hK K) | (apply Exists.intro; refine ⟨fun _ _ => ?_, hK _ ?_⟩; (go_invoke; go_simp; (go_at_call 47; exact extOf (HG1.out _ (HD6.out.keep (a1 := 0) (by repeat (first | exact Below.refl _ _ | refine Below.drew ?_ | refine below_drewN ?_ _ | refine Below.alloc ?_ (by first | exact Nat.le_refl _ | (simp; done) | (simp; omega) | omega) _ | refine Below.setCell ?_ (by first | exact Nat.le_refl _ | (simp; done) | (simp; omega) | omega) _ | refine bExtW ?_ (by first | exact Nat.le_refl _ | (simp; done) | (simp; omega) | omega) | refine Below.trans ?_ (Below.mono (by assumption) (by first | exact Nat.le_refl _ | (simp; done) | (simp; omega) | omega)))))))); clear hK K)))); refine wpQuiet_nil ?_; intro E d)
        rw [extW_extW]
        generalize E1 ++ E = EZ at *
        go_wp2
        go_ret2
        have HO7 := ownBelow (ownsRow_setCell_below HO6.out (a := ⟨a, 5, none⟩) hbs (.int .i64 (5))) (bExtW (Below.refl _ _) (Nat.le_refl _) : Below _ _ (extW (w6.setCell ⟨a, 5, none⟩ (.int .i64 (5))) EZ d))
        rw [HA6.out]
        refine ⟨a, A3, C3, rfl, ?_, ?_, ?_, ?_⟩
        · rw [← HNN.out]; exact LMk (LMr.setA HM6.out 5) (bExtW (Below.refl _ _) (Nat.le_refl _))
        · rw [HMB.out, ← HNN.out]; exact own_lower HO7 (by omega)
        · rw [HMB.out]; omega
        · rw [HMB.out]; exact bExtW (HB6.out.setCell (by simp; omega) _) (by rw [World.size_setCell]; have := HB6.out.size; have := HMB.out; omega)
      · have z4 : (x1 == (wv : Int) + 1) = false := by simpa using hx
        have z5 := z4
        first | (simp only [Int.zero_add] at z5) | clear z5
        have HA6 : Hid (av = 0) := Lib.hid (by rw [← HAV.out, if_neg hwH, if_neg (by first | exact hx | (simpa using hx))])
        clear hwH hx
        go_wp2_with fail
        (refine wp_region_ext (by kernel_rfl) (by kernel_rfl) ?_; (repeat (first | ((with_reducible refine ext_step (fun K hK => ?_)); go_simp; first | (refine hK _ ?_; clear hK K) | (apply Exists.intro; refine ⟨fun _ _ => ?_, hK _ ?_⟩; fail; clear hK K)))); refine wpQuiet_nil ?_; intro E d)
        obtain ⟨E1, hE1⟩ : ∃ x, x = E := ⟨_, rfl⟩
        rw [← hE1]
        clear hE1
        go_wp2_with fail
        (refine wp_region_ext (by kernel_rfl) (by kernel_rfl) ?_; (repeat (first | ((with_reducible refine ext_step (fun K hK => ?_)); go_simp; first | (refine hK _ ?_; clear hK K) | (apply Exists.intro; refine ⟨fun _ _ => ?_, hK _ ?_⟩; (go_invoke; go_simp; (go_at_call 47; exact extOf (HG1.out _ (HD6.out.keep (a1 := 0) (by repeat (first | exact Below.refl _ _ | refine Below.drew ?_ | refine below_drewN ?_ _ | refine Below.alloc ?_ (by first | exact Nat.le_refl _ | (simp; done) | (simp; omega) | omega) _ | refine Below.setCell ?_ (by first | exact Nat.le_refl _ | (simp; done) | (simp; omega) | omega) _ | refine bExtW ?_ (by first | exact Nat.le_refl _ | (simp; done) | (simp; omega) | omega) | refine Below.trans ?_ (Below.mono (by assumption) (by first | exact Nat.le_refl _ | (simp; done) | (simp; omega) | omega)))))))); clear hK K)))); refine wpQuiet_nil ?_; intro E d)
        rw [extW_extW]
        generalize E1 ++ E = EZ at *
        go_wp2
        go_ret2
        have HO7 := ownBelow HO6.out (bExtW (Below.refl _ _) (Nat.le_refl _) : Below _ _ (extW w6 EZ d))
        rw [HA6.out]
        refine ⟨a, A3, C3, rfl, ?_, ?_, ?_, ?_⟩
        · rw [← HNN.out]; exact LMk HM6.out (bExtW (Below.refl _ _) (Nat.le_refl _))
        · rw [HMB.out, ← HNN.out]; exact own_lower HO7 (by omega)
        · rw [HMB.out]; omega
        · rw [HMB.out]; exact bExtW HB6.out (by have := HB6.out.size; have := HMB.out; omega)
  · have hwv : wv = 0 := by rw [HWE.out, if_neg hp]
    subst hwv
    have HWL : Hid (0 ≤ 64) := Lib.hid (by omega)
    have HM6 := HM5; have HO6 := HO5; have HR6 := HR5; have HD6 := HD5; have HB6 := HB5
    clear HM5 HO5 HR5 HD5 HB5
    obtain ⟨w6, rfl⟩ : ∃ x : World, x = w5 := ⟨_, rfl⟩
    by_cases hp0 : 0 < x0
    · have t1 : decide (x0 > 0) = true := by simp; omega
      have t2 : decide (0 < x0) = true := by simp; omega
      have t3 : decide (x0 ≤ (H : Int)) = false := by simp; omega
      clear hp hp0 HWE
      go_upto_region 13 with fail
      clear mH lmb t1 t2 t3
      have mH : w6.cell? ⟨mb, 1, none⟩ = some (.int .i64 (H)) := HR6.out.cell (i := 1) (by omega)
      have lmb : LtW mb w6 := HR6.out.lt
      have m4 : w6.cell? ⟨a, 4, none⟩ = some (.int .i64 ((0 : Int))) := HM6.out.cell (i := 4) (by omega)
      have m5 : w6.cell? ⟨a, 5, none⟩ = some (.int .i64 (0)) := HM6.out.cell (i := 5) (by omega)
      have fm5 := HM6.out.frozen 5
      have la : LtW a w6 := HM6.out.lt
      by_cases hwH : 0 = H
      · have z1 : (((0 : Nat) : Int) == (H : Int)) = true := by simp; omega
        have z2 : ((0 : Int) == (H : Int)) = true := by simp; omega
        have z3 : (0 == H) = true := by simp; omega
        have HA6 : Hid (av = 6) := Lib.hid (by rw [← HAV.out, if_pos hwH])
        clear hwH
        go_wp2_with fail
        (refine wp_region_ext (by kernel_rfl) (by kernel_rfl) ?_; (repeat (first | ((with_reducible refine ext_step (fun K hK => ?_)); go_simp; first | (refine hK _ ?_; clear hK K) | (apply Exists.intro; refine ⟨fun _ _ => ?_, hK _ ?_⟩; fail; clear hK K)))); refine wpQuiet_nil ?_; intro E d)
        go_wp2
        go_ret2
        have HO7 := ownBelow (ownsRow_setCell_below HO6.out (a := ⟨a, 5, none⟩) hbs (.int .i64 (6))) (bExtW (Below.refl _ _) (Nat.le_refl _) : Below _ _ (extW (w6.setCell ⟨a, 5, none⟩ (.int .i64 (6))) E d))
        rw [HA6.out]
        refine ⟨a, A3, C3, rfl, ?_, ?_, ?_, ?_⟩
        · rw [← HNN.out]; exact LMk (LMr.setA HM6.out 6) (bExtW (Below.refl _ _) (Nat.le_refl _))
        · rw [HMB.out, ← HNN.out]; exact own_lower HO7 (by omega)
        · rw [HMB.out]; omega
        · rw [HMB.out]; exact bExtW (HB6.out.setCell (by simp; omega) _) (by rw [World.size_setCell]; have := HB6.out.size; have := HMB.out; omega)
      · have z1 : (((0 : Nat) : Int) == (H : Int)) = false := by simp; omega
        have z2 : ((0 : Int) == (H : Int)) = false := by simp; omega
        have z3 : (0 == H) = false := by simp; omega
        have vw : IntKind.i64.wrap (1 : Int) = 1 := IntWalk.i64_in _ (by omega)
        have vv : IntKind.i64.wrap ((0 : Int) + 1) = (0 : Int) + 1 := IntWalk.i64_in _ (by have hwl := HWL.out; omega)
        by_cases hx : x1 = (0 : Int) + 1
        · have z4 : (x1 == (0 : Int) + 1) = true := by simpa using hx
          have z5 := z4
          first | (simp only [Int.zero_add] at z5) | clear z5
          have HA6 : Hid (av = 5) := Lib.hid (by rw [← HAV.out, if_neg hwH, if_pos (by first | exact hx | (simpa using hx))])
          clear hwH hx
          go_wp2_with fail
          (refine wp_region_ext (by kernel_rfl) (by kernel_rfl) ?_; (repeat (first | ((with_reducible refine ext_step (fun K hK => ?_)); go_simp; first | (refine hK _ ?_; clear hK K) | (apply Exists.intro; refine ⟨fun _ _ => ?_, hK _ ?_⟩; fail; clear hK K)))); refine wpQuiet_nil ?_; intro E d)
          obtain ⟨E1, hE1⟩ : ∃ x, x = E := ⟨_, rfl⟩
          rw [← hE1]
          clear hE1
          go_wp2_with fail
          (refine wp_region_ext (by kernel_rfl) (by kernel_rfl) ?_; (repeat (first | ((with_reducible refine ext_step (fun K hK => ?_)); go_simp; first | (refine hK _ ?_; clear hK K) | (apply Exists.intro; refine ⟨fun _ _ => ?_, hK _ ?_⟩; (go_invoke; go_simp; (go_at_call 47; exact extOf (HG1.out _ (HD6.out.keep (a1 := 0) (by repeat (first | exact Below.refl _ _ | refine Below.drew ?_ | refine below_drewN ?_ _ | refine Below.alloc ?_ (by first | exact Nat.le_refl _ | (simp; done) | (simp; omega) | omega) _ | refine Below.setCell ?_ (by first | exact Nat.le_refl _ | (simp; done) | (simp; omega) | omega) _ | refine bExtW ?_ (by first | exact Nat.le_refl _ | (simp; done) | (simp; omega) | omega) | refine Below.trans ?_ (Below.mono (by assumption) (by first | exact Nat.le_refl _ | (simp; done) | (simp; omega) | omega)))))))); clear hK K)))); refine wpQuiet_nil ?_; intro E d)
          rw [extW_extW]
          generalize E1 ++ E = EZ at *
          go_wp2
          go_ret2
          have HO7 := ownBelow (ownsRow_setCell_below HO6.out (a := ⟨a, 5, none⟩) hbs (.int .i64 (5))) (bExtW (Below.refl _ _) (Nat.le_refl _) : Below _ _ (extW (w6.setCell ⟨a, 5, none⟩ (.int .i64 (5))) EZ d))
          rw [HA6.out]
          refine ⟨a, A3, C3, rfl, ?_, ?_, ?_, ?_⟩
          · rw [← HNN.out]; exact LMk (LMr.setA HM6.out 5) (bExtW (Below.refl _ _) (Nat.le_refl _))
          · rw [HMB.out, ← HNN.out]; exact own_lower HO7 (by omega)
          · rw [HMB.out]; omega
          · rw [HMB.out]; exact bExtW (HB6.out.setCell (by simp; omega) _) (by rw [World.size_setCell]; have := HB6.out.size; have := HMB.out; omega)
        · have z4 : (x1 == (0 : Int) + 1) = false := by simpa using hx
          have z5 := z4
          first | (simp only [Int.zero_add] at z5) | clear z5
          have HA6 : Hid (av = 0) := Lib.hid (by rw [← HAV.out, if_neg hwH, if_neg (by first | exact hx | (simpa using hx))])
          clear hwH hx
          go_wp2_with fail
          (refine wp_region_ext (by kernel_rfl) (by kernel_rfl) ?_; (repeat (first | ((with_reducible refine ext_step (fun K hK => ?_)); go_simp; first | (refine hK _ ?_; clear hK K) | (apply Exists.intro; refine ⟨fun _ _ => ?_, hK _ ?_⟩; fail; clear hK K)))); refine wpQuiet_nil ?_; intro E d)
          obtain ⟨E1, hE1⟩ : ∃ x, x = E := ⟨_, rfl⟩
          rw [← hE1]
          clear hE1
          go_wp2_with fail
          (refine wp_region_ext (by kernel_rfl) (by kernel_rfl) ?_; (repeat (first | ((with_reducible refine ext_step (fun K hK => ?_)); go_simp; first | (refine hK _ ?_; clear hK K) | (apply Exists.intro; refine ⟨fun _ _ => ?_, hK _ ?_⟩; (go_invoke; go_simp; (go_at_call 47; exact extOf (HG1.out _ (HD6.out.keep (a1 := 0) (by repeat (first | exact Below.refl _ _ | refine Below.drew ?_ | refine below_drewN ?_ _ | refine Below.alloc ?_ (by first | exact Nat.le_refl _ | (simp; done) | (simp; omega) | omega) _ | refine Below.setCell ?_ (by first | exact Nat.le_refl _ | (simp; done) | (simp; omega) | omega) _ | refine bExtW ?_ (by first | exact Nat.le_refl _ | (simp; done) | (simp; omega) | omega) | refine Below.trans ?_ (Below.mono (by assumption) (by first | exact Nat.le_refl _ | (simp; done) | (simp; omega) | omega)))))))); clear hK K)))); refine wpQuiet_nil ?_; intro E d)
          rw [extW_extW]
          generalize E1 ++ E = EZ at *
          go_wp2
          go_ret2
          have HO7 := ownBelow HO6.out (bExtW (Below.refl _ _) (Nat.le_refl _) : Below _ _ (extW w6 EZ d))
          rw [HA6.out]
          refine ⟨a, A3, C3, rfl, ?_, ?_, ?_, ?_⟩
          · rw [← HNN.out]; exact LMk HM6.out (bExtW (Below.refl _ _) (Nat.le_refl _))
          · rw [HMB.out, ← HNN.out]; exact own_lower HO7 (by omega)
          · rw [HMB.out]; omega
          · rw [HMB.out]; exact bExtW HB6.out (by have := HB6.out.size; have := HMB.out; omega)
    · have t1 : decide (x0 > 0) = false := by simp; omega
      have t2 : decide (0 < x0) = false := by simp; omega
      clear hp hp0 HWE
      go_upto_region 13 with fail
      clear mH lmb t1 t2
      have mH : w6.cell? ⟨mb, 1, none⟩ = some (.int .i64 (H)) := HR6.out.cell (i := 1) (by omega)
      have lmb : LtW mb w6 := HR6.out.lt
      have m4 : w6.cell? ⟨a, 4, none⟩ = some (.int .i64 ((0 : Int))) := HM6.out.cell (i := 4) (by omega)
      have m5 : w6.cell? ⟨a, 5, none⟩ = some (.int .i64 (0)) := HM6.out.cell (i := 5) (by omega)
      have fm5 := HM6.out.frozen 5
      have la : LtW a w6 := HM6.out.lt
      by_cases hwH : 0 = H
      · have z1 : (((0 : Nat) : Int) == (H : Int)) = true := by simp; omega
        have z2 : ((0 : Int) == (H : Int)) = true := by simp; omega
        have z3 : (0 == H) = true := by simp; omega
        have HA6 : Hid (av = 6) := Lib.hid (by rw [← HAV.out, if_pos hwH])
        clear hwH
        go_wp2_with fail
        (refine wp_region_ext (by kernel_rfl) (by kernel_rfl) ?_; (repeat (first | ((with_reducible refine ext_step (fun K hK => ?_)); go_simp; first | (refine hK _ ?_; clear hK K) | (apply Exists.intro; refine ⟨fun _ _ => ?_, hK _ ?_⟩; fail; clear hK K)))); refine wpQuiet_nil ?_; intro E d)
        go_wp2
        go_ret2
        have HO7 := ownBelow (ownsRow_setCell_below HO6.out (a := ⟨a, 5, none⟩) hbs (.int .i64 (6))) (bExtW (Below.refl _ _) (Nat.le_refl _) : Below _ _ (extW (w6.setCell ⟨a, 5, none⟩ (.int .i64 (6))) E d))
        rw [HA6.out]
        refine ⟨a, A3, C3, rfl, ?_, ?_, ?_, ?_⟩
        · rw [← HNN.out]; exact LMk (LMr.setA HM6.out 6) (bExtW (Below.refl _ _) (Nat.le_refl _))
        · rw [HMB.out, ← HNN.out]; exact own_lower HO7 (by omega)
        · rw [HMB.out]; omega
        · rw [HMB.out]; exact bExtW (HB6.out.setCell (by simp; omega) _) (by rw [World.size_setCell]; have := HB6.out.size; have := HMB.out; omega)
      · have z1 : (((0 : Nat) : Int) == (H : Int)) = false := by simp; omega
        have z2 : ((0 : Int) == (H : Int)) = false := by simp; omega
        have z3 : (0 == H) = false := by simp; omega
        have vw : IntKind.i64.wrap (1 : Int) = 1 := IntWalk.i64_in _ (by omega)
        have vv : IntKind.i64.wrap ((0 : Int) + 1) = (0 : Int) + 1 := IntWalk.i64_in _ (by have hwl := HWL.out; omega)
        by_cases hx : x1 = (0 : Int) + 1
        · have z4 : (x1 == (0 : Int) + 1) = true := by simpa using hx
          have z5 := z4
          first | (simp only [Int.zero_add] at z5) | clear z5
          have HA6 : Hid (av = 5) := Lib.hid (by rw [← HAV.out, if_neg hwH, if_pos (by first | exact hx | (simpa using hx))])
          clear hwH hx
          go_wp2_with fail
          (refine wp_region_ext (by kernel_rfl) (by kernel_rfl) ?_; (repeat (first | ((with_reducible refine ext_step (fun K hK => ?_)); go_simp; first | (refine hK _ ?_; clear hK K) | (apply Exists.intro; refine ⟨fun _ _ => ?_, hK _ ?_⟩; fail; clear hK K)))); refine wpQuiet_nil ?_; intro E d)
          obtain ⟨E1, hE1⟩ : ∃ x, x = E := ⟨_, rfl⟩
          rw [← hE1]
          clear hE1
          go_wp2_with fail
          (refine wp_region_ext (by kernel_rfl) (by kernel_rfl) ?_; (repeat (first | ((with_reducible refine ext_step (fun K hK => ?_)); go_simp; first | (refine hK _ ?_; clear hK K) | (apply Exists.intro; refine ⟨fun _ _ => ?_, hK _ ?_⟩; (go_invoke; go_simp; (go_at_call 47; exact extOf (HG1.out _ (HD6.out.keep (a1 := 0) (by repeat (first | exact Below.refl _ _ | refine Below.drew ?_ | refine below_drewN ?_ _ | refine Below.alloc ?_ (by first | exact Nat.le_refl _ | (simp; done) | (simp; omega) | omega) _ | refine Below.setCell ?_ (by first | exact Nat.le_refl _ | (simp; done) | (simp; omega) | omega) _ | refine bExtW ?_ (by first | exact Nat.le_refl _ | (simp; done) | (simp; omega) | omega) | refine Below.trans ?_ (Below.mono (by assumption) (by first | exact Nat.le_refl _ | (simp; done) | (simp; omega) | omega)))))))); clear hK K)))); refine wpQuiet_nil ?_; intro E d)
          rw [extW_extW]
          generalize E1 ++ E = EZ at *
          go_wp2
          go_ret2
          have HO7 := ownBelow (ownsRow_setCell_below HO6.out (a := ⟨a, 5, none⟩) hbs (.int .i64 (5))) (bExtW (Below.refl _ _) (Nat.le_refl _) : Below _ _ (extW (w6.setCell ⟨a, 5, none⟩ (.int .i64 (5))) EZ d))
          rw [HA6.out]
          refine ⟨a, A3, C3, rfl, ?_, ?_, ?_, ?_⟩
          · rw [← HNN.out]; exact LMk (LMr.setA HM6.out 5) (bExtW (Below.refl _ _) (Nat.le_refl _))
          · rw [HMB.out, ← HNN.out]; exact own_lower HO7 (by omega)
          · rw [HMB.out]; omega
          · rw [HMB.out]; exact bExtW (HB6.out.setCell (by simp; omega) _) (by rw [World.size_setCell]; have := HB6.out.size; have := HMB.out; omega)
        · have z4 : (x1 == (0 : Int) + 1) = false := by simpa using hx
          have z5 := z4
          first | (simp only [Int.zero_add] at z5) | clear z5
          have HA6 : Hid (av = 0) := Lib.hid (by rw [← HAV.out, if_neg hwH, if_neg (by first | exact hx | (simpa using hx))])
          clear hwH hx
          go_wp2_with fail
          (refine wp_region_ext (by kernel_rfl) (by kernel_rfl) ?_; (repeat (first | ((with_reducible refine ext_step (fun K hK => ?_)); go_simp; first | (refine hK _ ?_; clear hK K) | (apply Exists.intro; refine ⟨fun _ _ => ?_, hK _ ?_⟩; fail; clear hK K)))); refine wpQuiet_nil ?_; intro E d)
          obtain ⟨E1, hE1⟩ : ∃ x, x = E := ⟨_, rfl⟩
          rw [← hE1]
          clear hE1
          go_wp2_with fail
          (refine wp_region_ext (by kernel_rfl) (by kernel_rfl) ?_; (repeat (first | ((with_reducible refine ext_step (fun K hK => ?_)); go_simp; first | (refine hK _ ?_; clear hK K) | (apply Exists.intro; refine ⟨fun _ _ => ?_, hK _ ?_⟩; (go_invoke; go_simp; (go_at_call 47; exact extOf (HG1.out _ (HD6.out.keep (a1 := 0) (by repeat (first | exact Below.refl _ _ | refine Below.drew ?_ | refine below_drewN ?_ _ | refine Below.alloc ?_ (by first | exact Nat.le_refl _ | (simp; done) | (simp; omega) | omega) _ | refine Below.setCell ?_ (by first | exact Nat.le_refl _ | (simp; done) | (simp; omega) | omega) _ | refine bExtW ?_ (by first | exact Nat.le_refl _ | (simp; done) | (simp; omega) | omega) | refine Below.trans ?_ (Below.mono (by assumption) (by first | exact Nat.le_refl _ | (simp; done) | (simp; omega) | omega)))))))); clear hK K)))); refine wpQuiet_nil ?_; intro E d)
          rw [extW_extW]
          generalize E1 ++ E = EZ at *
          go_wp2
          go_ret2
          have HO7 := ownBelow HO6.out (bExtW (Below.refl _ _) (Nat.le_refl _) : Below _ _ (extW w6 EZ d))
          rw [HA6.out]
          refine ⟨a, A3, C3, rfl, ?_, ?_, ?_, ?_⟩
          · rw [← HNN.out]; exact LMk HM6.out (bExtW (Below.refl _ _) (Nat.le_refl _))
          · rw [HMB.out, ← HNN.out]; exact own_lower HO7 (by omega)
          · rw [HMB.out]; omega
          · rw [HMB.out]; exact bExtW HB6.out (by have := HB6.out.size; have := HMB.out; omega)
end Go.Proofs.Ytefmlepogpjhmaa
