/- Chapter 10: what happens next in a workshop. -/
import Derived.Test.YtefmlepogpjhmaaOn4
namespace Go.Proofs.Ytefmlepogpjhmaa
open Go.RowKit
set_option linter.unusedVariables false
set_option linter.unusedSimpArgs false
open Lm
section
variable {bd g cp a wb base : Nat} {W H : Nat} {A' : Option Addr} {n c' : Nat} {bs : List Bool} {x : WS} {rv v : Value} {EX : World → Prop} {w0 w w' : World}
theorem LW.isbools (h : LW bd g cp a wb base W H A' n c' bs x rv v EX w0 w) (hl : bs.length = n) : IsBools w A' n bs := by
  obtain ⟨q, r, e, hb⟩ := h.bits.bools
  rw [hl] at e hb
  injection e with e1 _ _
  subst e1
  exact hb
set_option maxRecDepth 100000 in
set_option maxHeartbeats 8000000 in
theorem next_ok (h : LW bd g cp a wb base W H A' n c' bs x rv v EX w0 w) (hl : bs.length = n) (hn : n = W * H) (hW : W ≤ 64) (hH : H ≤ 64) (h6 : x.l.at_ ≤ 6) (hlt : x.l.at_ ≤ 5 → x.l.wv < H) (hw : x.l.wv ≤ 64) (hr : x.rows.length ≤ 1000) (hd : x.d.ws.length = 2) (hb : base = w0.heap.size) :
    Calls Try.prog 24 #[.pointer (some ⟨wb, 0, none⟩)] w fun e w' => e = .returned (.tuple #[]) ∧ ∃ rv' v', LW bd g cp a wb base W H A' n c' bs (nextW W H bs x) rv' v' EX w0 w' := by
  have HN := Lib.hid hn; have HBL := Lib.hid hl; have HLT := Lib.hid hlt
  have HH := Lib.hid h
  obtain ⟨T, hT⟩ : ∃ T, nextW W H bs x = T := ⟨_, rfl⟩
  rw [hT]
  have HT := Lib.hid hT
  clear hT
  have k0 : (w).cell? ⟨wb, 0, none⟩ = some (.pointer (some ⟨a, 0, none⟩)) := (h).ws.cell (i := 0) (by omega)
  have k1 : (w).cell? ⟨wb, 1, none⟩ = some (.int .i64 ((x).todo)) := (h).ws.cell (i := 1) (by omega)
  have k2 : (w).cell? ⟨wb, 2, none⟩ = some (.bool (x).up) := (h).ws.cell (i := 2) (by omega)
  have k3 : (w).cell? ⟨wb, 3, none⟩ = some (.bool (x).thr) := (h).ws.cell (i := 3) (by omega)
  have k4 : (w).cell? ⟨wb, 4, none⟩ = some (rv) := (h).ws.cell (i := 4) (by omega)
  have k5 : (w).cell? ⟨wb, 5, none⟩ = some v := (h).ws.cell (i := 5) (by omega)
  have k6 : (w).cell? ⟨wb, 6, none⟩ = some (.bool (x).bad) := (h).ws.cell (i := 6) (by omega)
  have fk0 := (h).ws.frozen 0
  have fk1 := (h).ws.frozen 1
  have fk2 := (h).ws.frozen 2
  have fk3 := (h).ws.frozen 3
  have fk4 := (h).ws.frozen 4
  have fk5 := (h).ws.frozen 5
  have fk6 := (h).ws.frozen 6
  have lwb : LtW wb w := (h).ws.lt
  clear h hn hl hlt
  go_enter Try.func24, Try.ntmps24
  go_wp2_with fail
  refine (state_ok a bd W H (.slice A' n c') x.l w HH.out.lm).mono ?_
  rintro r w1 ⟨rfl, hb1⟩
  have h1 := HH.out.grow hb1
  have HX1 := Lib.hid h1
  clear hb1 HH k0 k1 k2 k3 k4 k5 k6 fk0 fk1 fk2 fk3 fk4 fk5 fk6 lwb
  have k0 : (w1).cell? ⟨wb, 0, none⟩ = some (.pointer (some ⟨a, 0, none⟩)) := (h1).ws.cell (i := 0) (by omega)
  have k1 : (w1).cell? ⟨wb, 1, none⟩ = some (.int .i64 ((x).todo)) := (h1).ws.cell (i := 1) (by omega)
  have k2 : (w1).cell? ⟨wb, 2, none⟩ = some (.bool (x).up) := (h1).ws.cell (i := 2) (by omega)
  have k3 : (w1).cell? ⟨wb, 3, none⟩ = some (.bool (x).thr) := (h1).ws.cell (i := 3) (by omega)
  have k4 : (w1).cell? ⟨wb, 4, none⟩ = some (rv) := (h1).ws.cell (i := 4) (by omega)
  have k5 : (w1).cell? ⟨wb, 5, none⟩ = some v := (h1).ws.cell (i := 5) (by omega)
  have k6 : (w1).cell? ⟨wb, 6, none⟩ = some (.bool (x).bad) := (h1).ws.cell (i := 6) (by omega)
  have fk0 := (h1).ws.frozen 0
  have fk1 := (h1).ws.frozen 1
  have fk2 := (h1).ws.frozen 2
  have fk3 := (h1).ws.frozen 3
  have fk4 := (h1).ws.frozen 4
  have fk5 := (h1).ws.frozen 5
  have fk6 := (h1).ws.frozen 6
  have lwb : LtW wb w1 := (h1).ws.lt
  clear h1
  have hc : x.l.at_ = 0 ∨ x.l.at_ = 1 ∨ x.l.at_ = 2 ∨ x.l.at_ = 3 ∨ x.l.at_ = 4 ∨ x.l.at_ = 5 ∨ x.l.at_ = 6 := by omega
  rcases hc with hc | hc | hc | hc | hc | hc | hc
  · have HE : Hid (nextW W H bs x = tellW H 1 x) := Lib.hid (by unfold nextW; rw [if_pos hc])
    rw [hc]
    go_wp2_with fail
    refine (tell_ok (HX1.out) 1 (by first | omega | (simp only; omega)) (by first | omega | (simp only; omega)) (by first | omega | (simp only; omega))).mono ?_
    rintro r w9 ⟨rfl, h9⟩
    have H9 := Lib.hid h9
    clear h9
    go_wp2
    go_end0
    refine ⟨rfl, rv, v, ?_⟩
    rw [← HT.out, HE.out]
    exact H9.out
  · have HE : Hid (nextW W H bs x = tellW H 2 { x with row := rowOf W bs x.l, up := true }) := Lib.hid (by unfold nextW; rw [if_neg (by omega), if_pos hc])
    rw [hc]
    go_wp2_with fail
    refine (Row_any a bd W H A' n c' bs x.l w1 HX1.out.lm (HX1.out.isbools HBL.out) HX1.out.cc HN.out hW hH HLT.out).mono ?_
    generalize (if 1 ≤ x.l.at_ ∧ x.l.at_ ≤ 4 then (0 : Int) else 9) = er
    rintro r w2 ⟨RA, RC, rfl, ho2, hb2⟩
    have h2 := HX1.out.grow hb2
    have HX2 := Lib.hid h2; have HBR := Lib.hid (BoolRow.of_own ho2)
    clear hb2 ho2 HX1 k0 k1 k2 k3 k4 k5 k6 fk0 fk1 fk2 fk3 fk4 fk5 fk6 lwb
    have k0 : (w2).cell? ⟨wb, 0, none⟩ = some (.pointer (some ⟨a, 0, none⟩)) := (h2).ws.cell (i := 0) (by omega)
    have k1 : (w2).cell? ⟨wb, 1, none⟩ = some (.int .i64 ((x).todo)) := (h2).ws.cell (i := 1) (by omega)
    have k2 : (w2).cell? ⟨wb, 2, none⟩ = some (.bool (x).up) := (h2).ws.cell (i := 2) (by omega)
    have k3 : (w2).cell? ⟨wb, 3, none⟩ = some (.bool (x).thr) := (h2).ws.cell (i := 3) (by omega)
    have k4 : (w2).cell? ⟨wb, 4, none⟩ = some (rv) := (h2).ws.cell (i := 4) (by omega)
    have k5 : (w2).cell? ⟨wb, 5, none⟩ = some v := (h2).ws.cell (i := 5) (by omega)
    have k6 : (w2).cell? ⟨wb, 6, none⟩ = some (.bool (x).bad) := (h2).ws.cell (i := 6) (by omega)
    have fk0 := (h2).ws.frozen 0
    have fk1 := (h2).ws.frozen 1
    have fk2 := (h2).ws.frozen 2
    have fk3 := (h2).ws.frozen 3
    have fk4 := (h2).ws.frozen 4
    have fk5 := (h2).ws.frozen 5
    have fk6 := (h2).ws.frozen 6
    have lwb : LtW wb w2 := (h2).ws.lt
    clear h2
    obtain ⟨ROW, hROW⟩ : ∃ R, rowOf W bs x.l = R := ⟨_, rfl⟩
    rw [hROW] at HE HBR ⊢
    clear hROW
    have HX3 := Lib.hid ((HX2.out.store (i := 4) (u := .slice RA ROW.length RC) (rv' := .slice RA ROW.length RC) (x' := { x with row := ROW }) (wk7 rfl rfl rfl rfl rfl rfl rfl) rfl rfl HBR.out rfl).store1 2 (.bool true) { x with row := ROW, up := true } (wk7 rfl rfl rfl rfl rfl rfl rfl) rfl rfl rfl rfl)
    go_wp2_with fail
    refine (tell_ok (HX3.out) 2 (by first | omega | (simp only; omega)) (by first | omega | (simp only; omega)) (by first | omega | (simp only; omega))).mono ?_
    rintro r w9 ⟨rfl, h9⟩
    have H9 := Lib.hid h9
    clear h9
    go_wp2
    go_end0
    refine ⟨rfl, .slice RA ROW.length RC, v, ?_⟩
    rw [← HT.out, HE.out]
    exact H9.out
  · have HE : Hid (nextW W H bs x = tellW H 3 { x with thr := true }) := Lib.hid (by unfold nextW; rw [if_neg (by omega), if_neg (by omega), if_pos hc])
    rw [hc]
    have HX3 := Lib.hid (HX1.out.store1 3 (.bool true) { x with thr := true } (wk7 rfl rfl rfl rfl rfl rfl rfl) rfl rfl rfl rfl)
    go_wp2_with fail
    refine (tell_ok (HX3.out) 3 (by first | omega | (simp only; omega)) (by first | omega | (simp only; omega)) (by first | omega | (simp only; omega))).mono ?_
    rintro r w9 ⟨rfl, h9⟩
    have H9 := Lib.hid h9
    clear h9
    go_wp2
    go_end0
    refine ⟨rfl, rv, v, ?_⟩
    rw [← HT.out, HE.out]
    exact H9.out
  · have HE : Hid (nextW W H bs x = tellW H 5 x) := Lib.hid (by unfold nextW; rw [if_neg (by omega), if_neg (by omega), if_neg (by omega), if_pos hc])
    rw [hc]
    go_wp2_with fail
    refine (tell_ok (HX1.out) 5 (by first | omega | (simp only; omega)) (by first | omega | (simp only; omega)) (by first | omega | (simp only; omega))).mono ?_
    rintro r w9 ⟨rfl, h9⟩
    have H9 := Lib.hid h9
    clear h9
    go_wp2
    go_end0
    refine ⟨rfl, rv, v, ?_⟩
    rw [← HT.out, HE.out]
    exact H9.out
  · rw [hc]
    by_cases ht : x.todo = 3
    · have HE : Hid (nextW W H bs x = tellW H 6 { x with rows := x.rows ++ [x.row], todo := 0 }) := Lib.hid (by unfold nextW; rw [if_neg (by omega), if_neg (by omega), if_neg (by omega), if_neg (by omega), if_pos hc, if_pos ht])
      rw [ht] at k1
      go_wp2_with fail
      refine (beat_ok HX1.out (by omega) (by rw [hb]; exact HX1.out.bel.size)).mono ?_
      rintro r w2 ⟨rfl, v', h2⟩
      have HX2 := Lib.hid h2
      clear HX1 k0 k1 k2 k3 k4 k5 k6 fk0 fk1 fk2 fk3 fk4 fk5 fk6 lwb
      have fk1 := h2.ws.frozen 1
      have k1 := h2.ws.cell (i := 1) (by omega)
      have lwb : LtW wb w2 := h2.ws.lt
      have k1 : w2.cell? ⟨wb, 1, none⟩ = some (.int .i64 (x.todo)) := k1
      clear h2
      have HX3 := Lib.hid (HX2.out.store1 1 (.int .i64 (0)) { x with rows := x.rows ++ [x.row], todo := 0 } (wk7 rfl rfl rfl rfl rfl rfl rfl) rfl rfl rfl rfl)
      go_wp2_with fail
      refine (tell_ok (HX3.out) 6 (by first | omega | (simp only; omega)) (by first | omega | (simp only; omega)) (by first | omega | (simp only; omega))).mono ?_
      rintro r w9 ⟨rfl, h9⟩
      have H9 := Lib.hid h9
      clear h9
      go_wp2
      go_end0
      refine ⟨rfl, rv, v', ?_⟩
      rw [← HT.out, HE.out]
      exact H9.out
    · have HE : Hid (nextW W H bs x = tellW H 6 x) := Lib.hid (by unfold nextW; rw [if_neg (by omega), if_neg (by omega), if_neg (by omega), if_neg (by omega), if_pos hc, if_neg ht])
      have b3 : (x.todo == 3) = false := by simpa using ht
      clear ht
      go_wp2_with fail
      refine (tell_ok (HX1.out) 6 (by first | omega | (simp only; omega)) (by first | omega | (simp only; omega)) (by first | omega | (simp only; omega))).mono ?_
      rintro r w9 ⟨rfl, h9⟩
      have H9 := Lib.hid h9
      clear h9
      go_wp2
      go_end0
      refine ⟨rfl, rv, v, ?_⟩
      rw [← HT.out, HE.out]
      exact H9.out
  · rw [hc]
    obtain ⟨VA, VC, rfl⟩ := HX1.out.rows.form
    have HWV := Lib.hid (fun w' (hbw : Below w1.heap.size w1 w') => woven_ok a bd W H (.slice A' n c') x.l w' (HX1.out.grow hbw).lm)
    obtain ⟨RL, hRL⟩ : ∃ r, x.rows.length = r := ⟨_, rfl⟩
    have HRL := Lib.hid hRL
    rw [hRL] at k5 hr
    obtain ⟨WV, hWV⟩ : ∃ r, x.l.wv = r := ⟨_, rfl⟩
    have HWE := Lib.hid hWV
    rw [hWV] at HWV
    clear hRL hWV
    by_cases hlt : WV < RL
    · have HE : Hid (nextW W H bs x = tellW H 8 x) := Lib.hid (by unfold nextW; rw [if_neg (by omega), if_neg (by omega), if_neg (by omega), if_neg (by omega), if_neg (by omega), if_pos hc, if_pos (by rw [HWE.out, HRL.out]; exact hlt)])
      have d0 : decide ((WV : Int) < (RL : Int)) = true := by simpa using hlt
      have d1 : decide (WV < RL) = true := by simpa using hlt
      clear hlt
      go_wp2_with fail
      (refine wp_region_ext (by kernel_rfl) (by kernel_rfl) ?_; (repeat (first | ((with_reducible refine ext_step (fun K hK => ?_)); go_simp; first | (refine hK _ ?_; clear hK K) | (apply Exists.intro; refine ⟨fun _ _ => ?_, hK _ ?_⟩; (go_at_call 15; exact extOf (HWV.out _ (by repeat (first | exact Below.refl _ _ | refine Below.drew ?_ | refine below_drewN ?_ _ | refine Below.alloc ?_ (by first | exact Nat.le_refl _ | (simp; done) | (simp; omega) | omega) _ | refine Below.setCell ?_ (by first | exact Nat.le_refl _ | (simp; done) | (simp; omega) | omega) _ | refine bExtW ?_ (by first | exact Nat.le_refl _ | (simp; done) | (simp; omega) | omega) | refine Below.trans ?_ (Below.mono (by assumption) (by first | exact Nat.le_refl _ | (simp; done) | (simp; omega) | omega)))))); clear hK K)))); refine wpQuiet_nil ?_; intro E d)
      have HX5 := Lib.hid (HX1.out.grow (show Below w1.heap.size w1 (extW w1 E d) from bExtW (Below.refl _ _) (Nat.le_refl _)))
      clear k0 k1 k2 k3 k4 k5 k6 fk0 fk1 fk2 fk3 fk4 fk5 fk6 lwb
      generalize extW w1 E d = w5 at *
      go_wp2_with fail
      refine (tell_ok (HX5.out) 8 (by first | omega | (simp only; omega)) (by first | omega | (simp only; omega)) (by first | omega | (simp only; omega))).mono ?_
      rintro r w9 ⟨rfl, h9⟩
      have H9 := Lib.hid h9
      clear h9
      go_wp2
      go_end0
      refine ⟨rfl, rv, .slice VA x.rows.length VC, ?_⟩
      rw [← HT.out, HE.out]
      exact H9.out
    · have HE : Hid (nextW W H bs x = tellW H 9 x) := Lib.hid (by unfold nextW; rw [if_neg (by omega), if_neg (by omega), if_neg (by omega), if_neg (by omega), if_neg (by omega), if_pos hc, if_neg (by rw [HWE.out, HRL.out]; exact hlt)])
      have d0 : decide ((WV : Int) < (RL : Int)) = false := by simpa using hlt
      have d1 : decide (WV < RL) = false := by simpa using hlt
      clear hlt
      go_wp2_with fail
      (refine wp_region_ext (by kernel_rfl) (by kernel_rfl) ?_; (repeat (first | ((with_reducible refine ext_step (fun K hK => ?_)); go_simp; first | (refine hK _ ?_; clear hK K) | (apply Exists.intro; refine ⟨fun _ _ => ?_, hK _ ?_⟩; (go_at_call 15; exact extOf (HWV.out _ (by repeat (first | exact Below.refl _ _ | refine Below.drew ?_ | refine below_drewN ?_ _ | refine Below.alloc ?_ (by first | exact Nat.le_refl _ | (simp; done) | (simp; omega) | omega) _ | refine Below.setCell ?_ (by first | exact Nat.le_refl _ | (simp; done) | (simp; omega) | omega) _ | refine bExtW ?_ (by first | exact Nat.le_refl _ | (simp; done) | (simp; omega) | omega) | refine Below.trans ?_ (Below.mono (by assumption) (by first | exact Nat.le_refl _ | (simp; done) | (simp; omega) | omega)))))); clear hK K)))); refine wpQuiet_nil ?_; intro E d)
      have HX5 := Lib.hid (HX1.out.grow (show Below w1.heap.size w1 (extW w1 E d) from bExtW (Below.refl _ _) (Nat.le_refl _)))
      clear k0 k1 k2 k3 k4 k5 k6 fk0 fk1 fk2 fk3 fk4 fk5 fk6 lwb
      generalize extW w1 E d = w5 at *
      go_wp2_with fail
      refine (tell_ok (HX5.out) 9 (by first | omega | (simp only; omega)) (by first | omega | (simp only; omega)) (by first | omega | (simp only; omega))).mono ?_
      rintro r w9 ⟨rfl, h9⟩
      have H9 := Lib.hid h9
      clear h9
      go_wp2
      go_end0
      refine ⟨rfl, rv, .slice VA x.rows.length VC, ?_⟩
      rw [← HT.out, HE.out]
      exact H9.out
  · have HE : Hid (nextW W H bs x = x) := Lib.hid (by unfold nextW; rw [if_neg (by omega), if_neg (by omega), if_neg (by omega), if_neg (by omega), if_neg (by omega), if_neg (by omega)])
    rw [hc]
    go_wp2
    go_end0
    refine ⟨rfl, rv, v, ?_⟩
    rw [← HT.out, HE.out]
    exact HX1.out
end
end Go.Proofs.Ytefmlepogpjhmaa
