/- Chapter 10: a loom is told an event. -/
import Derived.Test.YtefmlepogpjhmaaLm2
import Derived.Test.YtefmlepogpjhmaaScF
namespace Go.Proofs.Ytefmlepogpjhmaa
open Go.RowKit
set_option linter.unusedVariables false
set_option linter.unusedSimpArgs false
open Lm
/-- What comes behind a pick that is counted. -/
def next2 (H : Nat) (l : St) : Int × St :=
  if l.wv = H then (4, { l with at_ := 6 })
  else if l.stop = true ∨ l.at_ = 5 then (4, { l with at_ := 0, stop := false })
  else (1, { l with at_ := 1 })
theorem next_eq (H : Nat) (l : St) : Lm.next H l = next2 H { l with wv := l.wv + 1 } := rfl
/-- Nothing else than block a is changed (whatever b and g are). -/
def KeepA (a b g : Nat) (w w' : World) : Prop := Keep3 a b g w w' ∧ Keep3 a a a w w'
theorem KeepA.rowIs0 {a b g r t n : Nat} {f : Nat → Value} {W w : World} (h : KeepA a b g W w) (hr : W.rowIs r t n f) (h1 : a ≠ r) : w.rowIs r t n f := h.2.rowIs hr (Ne.symm h1) (Ne.symm h1) (Ne.symm h1)
theorem KeepA.block0 {a b g k : Nat} {W w : World} (h : KeepA a b g W w) (hk : k < W.heap.size) (h1 : a ≠ k) : w.heap[k]? = W.heap[k]? := h.2.block k hk (Ne.symm h1) (Ne.symm h1) (Ne.symm h1)
theorem KeepA.mk1 {a b g : Nat} {w w' : World} (h : Keep3 a a a w w') : KeepA a b g w w' := ⟨h.mono (.inl rfl) (.inl rfl) (.inl rfl), h⟩
def NextPost (a b g W H : Nat) (bv : Value) (R : Int × St) (w : World) (e : Ending) (w' : World) : Prop := e = .returned (.int .i64 (R.1)) ∧ LMr a b W H bv R.2 w' ∧ KeepA a b g w w'
set_option maxRecDepth 100000 in
set_option maxHeartbeats 8000000 in
theorem lnext_ok (a b g W H : Nat) (bv : Value) (l : St) (w : World) (hm : LMr a b W H bv l w) :
    Calls Try.prog 29 #[.pointer (some ⟨a, 0, none⟩)] w (NextPost a b g W H bv (next2 H l) w) := by
  obtain ⟨m0, m1, m2, m3, m4, m5, m6, m7⟩ := LMr.cells hm
  have lm := (hm).lt
  have fm4 := (hm).frozen 4; have fm5 := (hm).frozen 5; have fm6 := (hm).frozen 6; have fm7 := (hm).frozen 7
  have lm2 : LtW a w := lm
  have HM := Lib.hid hm
  clear hm lm
  by_cases h1 : l.wv = H
  · have hv : next2 H l = (4, { l with at_ := 6 }) := by unfold next2; rw [if_pos h1]
    have b1 : ((l.wv : Int) == (H : Int)) = true := by simp; omega
    have b2 : (l.wv == H) = true := by simpa using h1
    rw [hv]
    clear hv
    obtain ⟨x, hx⟩ : ∃ x, l.wv = x := ⟨_, rfl⟩
    rw [hx] at m4 b1 b2 h1
    clear hx h1
    go_enter Try.func29, Try.ntmps29
    go_wp2_with fail
    (refine wp_region_ext (by kernel_rfl) (by kernel_rfl) ?_; (repeat (first | ((with_reducible refine ext_step (fun K hK => ?_)); go_simp; first | (refine hK _ ?_; clear hK K) | (apply Exists.intro; refine ⟨fun _ _ => ?_, hK _ ?_⟩; fail; clear hK K)))); refine wpQuiet_nil ?_; intro E d)
    go_wp2
    go_ret
    have hE : LMr a b W H bv { l with at_ := 6 } (extW (w.setCell ⟨a, 5, none⟩ (.int .i64 (6))) E d) := rowBelow (LMr.setA HM.out 6) (bExtW (Below.refl _ _) (Nat.le_refl _)) (by rw [World.size_setCell]; exact lm2)
    exact ⟨rfl, hE, KeepA.mk1 (((Keep3.refl a a a w).set _ _ _ (.inl rfl)).trans (Keep3.below (bExtW (Below.refl _ _) (Nat.le_refl _))))⟩
  · have b1 : ((l.wv : Int) == (H : Int)) = false := by simp; omega
    have b2 : (l.wv == H) = false := by simpa using h1
    by_cases hs : l.stop = true
    · have hv : next2 H l = (4, { l with at_ := 0, stop := false }) := by unfold next2; rw [if_neg h1, if_pos (.inl hs)]
      rw [hv]
      rw [hs] at m6
      clear hv hs h1
      go_enter Try.func29, Try.ntmps29
      go_wp2_with fail
      (refine wp_region_ext (by kernel_rfl) (by kernel_rfl) ?_; (repeat (first | ((with_reducible refine ext_step (fun K hK => ?_)); go_simp; first | (refine hK _ ?_; clear hK K) | (apply Exists.intro; refine ⟨fun _ _ => ?_, hK _ ?_⟩; fail; clear hK K)))); refine wpQuiet_nil ?_; intro E d)
      go_wp2
      go_ret
      have hE : LMr a b W H bv { l with at_ := 0, stop := false } (extW ((w.setCell ⟨a, 5, none⟩ (.int .i64 (0))).setCell ⟨a, 6, none⟩ (.bool false)) E d) := rowBelow (LMr.setS (LMr.setA HM.out 0) false) (bExtW (Below.refl _ _) (Nat.le_refl _)) (by rw [World.size_setCell, World.size_setCell]; exact lm2)
      exact ⟨rfl, hE, KeepA.mk1 ((((Keep3.refl a a a w).set _ _ _ (.inl rfl)).set _ _ _ (.inl rfl)).trans (Keep3.below (bExtW (Below.refl _ _) (Nat.le_refl _))))⟩
    · have hs' : l.stop = false := by simpa using hs
      rw [hs'] at m6
      by_cases h5 : l.at_ = 5
      · have hv : next2 H l = (4, { l with at_ := 0, stop := false }) := by unfold next2; rw [if_neg h1, if_pos (.inr h5)]
        have b3 : ((l.at_ : Int) == 5) = true := by simp; omega
        have b4 : (l.at_ == 5) = true := by simpa using h5
        rw [hv]
        clear hv hs hs' h1 h5
        go_enter Try.func29, Try.ntmps29
        go_wp2_with fail
        (refine wp_region_ext (by kernel_rfl) (by kernel_rfl) ?_; (repeat (first | ((with_reducible refine ext_step (fun K hK => ?_)); go_simp; first | (refine hK _ ?_; clear hK K) | (apply Exists.intro; refine ⟨fun _ _ => ?_, hK _ ?_⟩; fail; clear hK K)))); refine wpQuiet_nil ?_; intro E d)
        go_wp2
        go_ret
        have hE : LMr a b W H bv { l with at_ := 0, stop := false } (extW ((w.setCell ⟨a, 5, none⟩ (.int .i64 (0))).setCell ⟨a, 6, none⟩ (.bool false)) E d) := rowBelow (LMr.setS (LMr.setA HM.out 0) false) (bExtW (Below.refl _ _) (Nat.le_refl _)) (by rw [World.size_setCell, World.size_setCell]; exact lm2)
        exact ⟨rfl, hE, KeepA.mk1 ((((Keep3.refl a a a w).set _ _ _ (.inl rfl)).set _ _ _ (.inl rfl)).trans (Keep3.below (bExtW (Below.refl _ _) (Nat.le_refl _))))⟩
      · have hv : next2 H l = (1, { l with at_ := 1 }) := by unfold next2; rw [if_neg h1, if_neg (by rintro (e | e); exact hs e; exact h5 e)]
        have b3 : ((l.at_ : Int) == 5) = false := by simp; omega
        have b4 : (l.at_ == 5) = false := by simpa using h5
        rw [hv]
        clear hv hs hs' h1 h5
        go_enter Try.func29, Try.ntmps29
        go_wp2_with fail
        (refine wp_region_ext (by kernel_rfl) (by kernel_rfl) ?_; (repeat (first | ((with_reducible refine ext_step (fun K hK => ?_)); go_simp; first | (refine hK _ ?_; clear hK K) | (apply Exists.intro; refine ⟨fun _ _ => ?_, hK _ ?_⟩; fail; clear hK K)))); refine wpQuiet_nil ?_; intro E d)
        go_wp2
        go_ret
        have hE : LMr a b W H bv { l with at_ := 1 } (extW (w.setCell ⟨a, 5, none⟩ (.int .i64 (1))) E d) := rowBelow (LMr.setA HM.out 1) (bExtW (Below.refl _ _) (Nat.le_refl _)) (by rw [World.size_setCell]; exact lm2)
        exact ⟨rfl, hE, KeepA.mk1 (((Keep3.refl a a a w).set _ _ _ (.inl rfl)).trans (Keep3.below (bExtW (Below.refl _ _) (Nat.le_refl _))))⟩
/-- What an event's telling leaves. -/
def DoPost (a b g cp W H : Nat) (bv : Value) (R : Int × Int × St × Dk) (w : World) (e : Ending) (w' : World) : Prop :=
  e = .returned (.tuple #[.int .i64 (R.1), .int .i64 (R.2.1)]) ∧ LMr a b W H bv R.2.2.1 w' ∧ DK b g cp R.2.2.2 w' ∧ Keep3 a b g w w'
theorem do_ne {a b g cp W H : Nat} {bv : Value} {l : St} {d : Dk} {w : World} (hm : LMr a b W H bv l w) (h : DK b g cp d w) : a ≠ b ∧ a ≠ g := by
  constructor
  · intro e
    subst e
    obtain ⟨c1, e1, _⟩ := hm
    obtain ⟨c2, e2, _⟩ := h.row
    rw [e1] at e2
    injection e2 with e2
    injection e2 with _ e3
    exact absurd e3 (by decide)
  · intro e
    subst e
    obtain ⟨c1, e1, _⟩ := hm
    obtain ⟨_, _, _, _, cur, e2, _⟩ := own_parts h.own
    rw [e1] at e2
    injection e2 with e2
    injection e2 with _ e3
    exact absurd e3 (by decide)
theorem LMk {a b W H : Nat} {bv : Value} {l : St} {w w' : World} (h : LMr a b W H bv l w) (hb : Below w.heap.size w w') : LMr a b W H bv l w' := rowBelow h hb h.lt
theorem tell_bad {H : Nat} {ev : Int} {l : St} {d : Dk} (h : 1 ≤ ev ∧ ev ≤ 9) (hm : l.dead = true ∨ may ev l.at_ = false) : tell H ev l d = (0, 9, l, d) := by
  unfold tell; rw [if_neg (by omega), if_pos hm]
theorem tell_in {H : Nat} {ev : Int} {l : St} {d : Dk} (h : 1 ≤ ev ∧ ev ≤ 9) (hd : l.dead = false) (hm : may ev l.at_ = true) : tell H ev l d =
  ((if ev = 1 then (1, 0, { l with at_ := 1 }, d)
  else if ev = 2 then (2, 0, { l with at_ := 2 }, d)
  else if ev = 4 then (4, 0, { l with at_ := 3 }, d)
  else if ev = 5 then (1, 0, { l with at_ := 1 }, d)
  else if ev = 7 then (0, 0, { l with stop := true }, d)
  else if ev = 3 then match put d 1 ((l.wv : Int) + 1) with
    | none => (0, 11, { l with dead := true }, d)
    | some d' => (3, 0, { l with at_ := 4 }, d')
  else if ev = 9 then match put d 1 0 with
    | none => (0, 11, { l with dead := true }, d)
    | some d' => (0, 0, { l with at_ := 0 }, d')
  else match put d 0 ((l.wv : Int) + 1) with
    | none => (0, 11, { l with dead := true }, d)
    | some d' => ((Lm.next H l).1, 0, (Lm.next H l).2, d')) : Int × Int × St × Dk) := by
  unfold tell; rw [if_neg (by omega), if_neg (by rw [hd, hm]; simp)]; rfl
set_option maxRecDepth 100000 in
set_option maxHeartbeats 8000000 in
theorem Do_plain (a b g cp W H : Nat) (bv : Value) (ev : Int) (l : St) (D : Dk) (w : World) (hm : LMr a b W H bv l w) (h : DK b g cp D w) (hd : l.dead = false) (hev : ev = 1 ∨ ev = 2 ∨ ev = 4 ∨ ev = 5) :
    Calls Try.prog 13 #[.pointer (some ⟨a, 0, none⟩), .int .i64 (ev)] w (DoPost a b g cp W H bv (tell H ev l D) w) := by
  obtain ⟨hab, hag⟩ := do_ne hm h
  obtain ⟨m0, m1, m2, m3, m4, m5, m6, m7⟩ := LMr.cells hm
  have lm := (hm).lt
  have fm4 := (hm).frozen 4; have fm5 := (hm).frozen 5; have fm6 := (hm).frozen 6; have fm7 := (hm).frozen 7
  have lm2 : LtW a w := lm
  have HM := Lib.hid hm
  have HD := Lib.hid h
  rw [hd] at m7
  clear hm lm h
  rcases hev with rfl | rfl | rfl | rfl
  · skip
    by_cases hat : l.at_ = 0
    · have hv : tell H 1 l D = (1, 0, { l with at_ := 1 }, D) := by rw [tell_in (by omega) hd (by unfold may; simp [hat])]; simp
      have b1 : ((l.at_ : Int) != 0) = false := by simp; omega
      have b2 : (l.at_ != 0) = false := by simp; omega
      rw [hv]
      rw [hat] at m5
      have HP := Lib.hid (fun w => plain_ok 1 w)
      clear hv hat hd
      go_enter Try.func13, Try.ntmps13
      go_wp2
      refine wp_scope_fwd ?_
      go_wp2_with fail
      refine (HP.out _).mono ?_
      rintro r w1 ⟨rfl, hb⟩
      obtain ⟨E, dd, rfl⟩ := bExt hb
      clear hb
      simp only [plainV]
      go_wp2_with fail
      (refine wp_region_ext (by kernel_rfl) (by kernel_rfl) ?_; (repeat (first | ((with_reducible refine ext_step (fun K hK => ?_)); go_simp; first | (refine hK _ ?_; clear hK K) | (apply Exists.intro; refine ⟨fun _ _ => ?_, hK _ ?_⟩; fail; clear hK K)))); refine wpQuiet_nil ?_; intro E d)
      go_wp2
      go_ret2
      have hA : LMr a b W H bv { l with at_ := 1 } (w.setCell ⟨a, 5, none⟩ (.int .i64 (1))) := LMr.setA HM.out 1
      have hB : DK b g cp D (w.setCell ⟨a, 5, none⟩ (.int .i64 (1))) := DK.ofSet HD.out hab hag
      have hC : Keep3 a b g w (w.setCell ⟨a, 5, none⟩ (.int .i64 (1))) := (Keep3.refl a b g w).set _ _ _ (.inl rfl)
      exact ⟨rfl, LMk hA (by repeat (first | exact Below.refl _ _ | refine Below.drew ?_ | refine below_drewN ?_ _ | refine Below.alloc ?_ (by first | exact Nat.le_refl _ | (simp; done) | (simp; omega) | omega) _ | refine Below.setCell ?_ (by first | exact Nat.le_refl _ | (simp; done) | (simp; omega) | omega) _ | refine bExtW ?_ (by first | exact Nat.le_refl _ | (simp; done) | (simp; omega) | omega) | refine Below.trans ?_ (Below.mono (by assumption) (by first | exact Nat.le_refl _ | (simp; done) | (simp; omega) | omega)))), hB.keep (a1 := 0) (by repeat (first | exact Below.refl _ _ | refine Below.drew ?_ | refine below_drewN ?_ _ | refine Below.alloc ?_ (by first | exact Nat.le_refl _ | (simp; done) | (simp; omega) | omega) _ | refine Below.setCell ?_ (by first | exact Nat.le_refl _ | (simp; done) | (simp; omega) | omega) _ | refine bExtW ?_ (by first | exact Nat.le_refl _ | (simp; done) | (simp; omega) | omega) | refine Below.trans ?_ (Below.mono (by assumption) (by first | exact Nat.le_refl _ | (simp; done) | (simp; omega) | omega)))), hC.trans (Keep3.below (by repeat (first | exact Below.refl _ _ | refine Below.drew ?_ | refine below_drewN ?_ _ | refine Below.alloc ?_ (by first | exact Nat.le_refl _ | (simp; done) | (simp; omega) | omega) _ | refine Below.setCell ?_ (by first | exact Nat.le_refl _ | (simp; done) | (simp; omega) | omega) _ | refine bExtW ?_ (by first | exact Nat.le_refl _ | (simp; done) | (simp; omega) | omega) | refine Below.trans ?_ (Below.mono (by assumption) (by first | exact Nat.le_refl _ | (simp; done) | (simp; omega) | omega)))))⟩
    · have hv : tell H 1 l D = (0, 9, l, D) := tell_bad (by omega) (.inr (by unfold may; simp [hat]))
      have b1 : ((l.at_ : Int) != 0) = true := by simp; omega
      have b2 : (l.at_ != 0) = true := by simp; omega
      rw [hv]
      have HP := Lib.hid (fun w => plain_ok 1 w)
      clear hv hat hd
      go_enter Try.func13, Try.ntmps13
      go_wp2
      refine wp_scope_fwd ?_
      go_wp2_with fail
      refine (HP.out _).mono ?_
      rintro r w1 ⟨rfl, hb⟩
      obtain ⟨E, dd, rfl⟩ := bExt hb
      clear hb
      simp only [plainV]
      go_wp2_with fail
      (refine wp_region_ext (by kernel_rfl) (by kernel_rfl) ?_; (repeat (first | ((with_reducible refine ext_step (fun K hK => ?_)); go_simp; first | (refine hK _ ?_; clear hK K) | (apply Exists.intro; refine ⟨fun _ _ => ?_, hK _ ?_⟩; fail; clear hK K)))); refine wpQuiet_nil ?_; intro E d)
      go_wp2
      apply wp_goto
      refine ⟨_, rfl, ?_⟩
      go_wp2
      rw [Exit.noGoto_ret]
      go_ret2
      exact ⟨rfl, LMk HM.out (by repeat (first | exact Below.refl _ _ | refine Below.drew ?_ | refine below_drewN ?_ _ | refine Below.alloc ?_ (by first | exact Nat.le_refl _ | (simp; done) | (simp; omega) | omega) _ | refine Below.setCell ?_ (by first | exact Nat.le_refl _ | (simp; done) | (simp; omega) | omega) _ | refine bExtW ?_ (by first | exact Nat.le_refl _ | (simp; done) | (simp; omega) | omega) | refine Below.trans ?_ (Below.mono (by assumption) (by first | exact Nat.le_refl _ | (simp; done) | (simp; omega) | omega)))), HD.out.keep (a1 := 0) (by repeat (first | exact Below.refl _ _ | refine Below.drew ?_ | refine below_drewN ?_ _ | refine Below.alloc ?_ (by first | exact Nat.le_refl _ | (simp; done) | (simp; omega) | omega) _ | refine Below.setCell ?_ (by first | exact Nat.le_refl _ | (simp; done) | (simp; omega) | omega) _ | refine bExtW ?_ (by first | exact Nat.le_refl _ | (simp; done) | (simp; omega) | omega) | refine Below.trans ?_ (Below.mono (by assumption) (by first | exact Nat.le_refl _ | (simp; done) | (simp; omega) | omega)))), Keep3.below (by repeat (first | exact Below.refl _ _ | refine Below.drew ?_ | refine below_drewN ?_ _ | refine Below.alloc ?_ (by first | exact Nat.le_refl _ | (simp; done) | (simp; omega) | omega) _ | refine Below.setCell ?_ (by first | exact Nat.le_refl _ | (simp; done) | (simp; omega) | omega) _ | refine bExtW ?_ (by first | exact Nat.le_refl _ | (simp; done) | (simp; omega) | omega) | refine Below.trans ?_ (Below.mono (by assumption) (by first | exact Nat.le_refl _ | (simp; done) | (simp; omega) | omega))))⟩
  · skip
    by_cases hat : l.at_ = 1
    · have hv : tell H 2 l D = (2, 0, { l with at_ := 2 }, D) := by rw [tell_in (by omega) hd (by unfold may; simp [hat])]; simp
      have b1 : ((l.at_ : Int) != 1) = false := by simp; omega
      have b2 : (l.at_ != 1) = false := by simp; omega
      rw [hv]
      rw [hat] at m5
      have HP := Lib.hid (fun w => plain_ok 2 w)
      clear hv hat hd
      go_enter Try.func13, Try.ntmps13
      go_wp2
      refine wp_scope_fwd ?_
      go_wp2_with fail
      refine (HP.out _).mono ?_
      rintro r w1 ⟨rfl, hb⟩
      obtain ⟨E, dd, rfl⟩ := bExt hb
      clear hb
      simp only [plainV]
      go_wp2_with fail
      (refine wp_region_ext (by kernel_rfl) (by kernel_rfl) ?_; (repeat (first | ((with_reducible refine ext_step (fun K hK => ?_)); go_simp; first | (refine hK _ ?_; clear hK K) | (apply Exists.intro; refine ⟨fun _ _ => ?_, hK _ ?_⟩; fail; clear hK K)))); refine wpQuiet_nil ?_; intro E d)
      go_wp2
      go_ret2
      have hA : LMr a b W H bv { l with at_ := 2 } (w.setCell ⟨a, 5, none⟩ (.int .i64 (2))) := LMr.setA HM.out 2
      have hB : DK b g cp D (w.setCell ⟨a, 5, none⟩ (.int .i64 (2))) := DK.ofSet HD.out hab hag
      have hC : Keep3 a b g w (w.setCell ⟨a, 5, none⟩ (.int .i64 (2))) := (Keep3.refl a b g w).set _ _ _ (.inl rfl)
      exact ⟨rfl, LMk hA (by repeat (first | exact Below.refl _ _ | refine Below.drew ?_ | refine below_drewN ?_ _ | refine Below.alloc ?_ (by first | exact Nat.le_refl _ | (simp; done) | (simp; omega) | omega) _ | refine Below.setCell ?_ (by first | exact Nat.le_refl _ | (simp; done) | (simp; omega) | omega) _ | refine bExtW ?_ (by first | exact Nat.le_refl _ | (simp; done) | (simp; omega) | omega) | refine Below.trans ?_ (Below.mono (by assumption) (by first | exact Nat.le_refl _ | (simp; done) | (simp; omega) | omega)))), hB.keep (a1 := 0) (by repeat (first | exact Below.refl _ _ | refine Below.drew ?_ | refine below_drewN ?_ _ | refine Below.alloc ?_ (by first | exact Nat.le_refl _ | (simp; done) | (simp; omega) | omega) _ | refine Below.setCell ?_ (by first | exact Nat.le_refl _ | (simp; done) | (simp; omega) | omega) _ | refine bExtW ?_ (by first | exact Nat.le_refl _ | (simp; done) | (simp; omega) | omega) | refine Below.trans ?_ (Below.mono (by assumption) (by first | exact Nat.le_refl _ | (simp; done) | (simp; omega) | omega)))), hC.trans (Keep3.below (by repeat (first | exact Below.refl _ _ | refine Below.drew ?_ | refine below_drewN ?_ _ | refine Below.alloc ?_ (by first | exact Nat.le_refl _ | (simp; done) | (simp; omega) | omega) _ | refine Below.setCell ?_ (by first | exact Nat.le_refl _ | (simp; done) | (simp; omega) | omega) _ | refine bExtW ?_ (by first | exact Nat.le_refl _ | (simp; done) | (simp; omega) | omega) | refine Below.trans ?_ (Below.mono (by assumption) (by first | exact Nat.le_refl _ | (simp; done) | (simp; omega) | omega)))))⟩
    · have hv : tell H 2 l D = (0, 9, l, D) := tell_bad (by omega) (.inr (by unfold may; simp [hat]))
      have b1 : ((l.at_ : Int) != 1) = true := by simp; omega
      have b2 : (l.at_ != 1) = true := by simp; omega
      rw [hv]
      have HP := Lib.hid (fun w => plain_ok 2 w)
      clear hv hat hd
      go_enter Try.func13, Try.ntmps13
      go_wp2
      refine wp_scope_fwd ?_
      go_wp2_with fail
      refine (HP.out _).mono ?_
      rintro r w1 ⟨rfl, hb⟩
      obtain ⟨E, dd, rfl⟩ := bExt hb
      clear hb
      simp only [plainV]
      go_wp2_with fail
      (refine wp_region_ext (by kernel_rfl) (by kernel_rfl) ?_; (repeat (first | ((with_reducible refine ext_step (fun K hK => ?_)); go_simp; first | (refine hK _ ?_; clear hK K) | (apply Exists.intro; refine ⟨fun _ _ => ?_, hK _ ?_⟩; fail; clear hK K)))); refine wpQuiet_nil ?_; intro E d)
      go_wp2
      apply wp_goto
      refine ⟨_, rfl, ?_⟩
      go_wp2
      rw [Exit.noGoto_ret]
      go_ret2
      exact ⟨rfl, LMk HM.out (by repeat (first | exact Below.refl _ _ | refine Below.drew ?_ | refine below_drewN ?_ _ | refine Below.alloc ?_ (by first | exact Nat.le_refl _ | (simp; done) | (simp; omega) | omega) _ | refine Below.setCell ?_ (by first | exact Nat.le_refl _ | (simp; done) | (simp; omega) | omega) _ | refine bExtW ?_ (by first | exact Nat.le_refl _ | (simp; done) | (simp; omega) | omega) | refine Below.trans ?_ (Below.mono (by assumption) (by first | exact Nat.le_refl _ | (simp; done) | (simp; omega) | omega)))), HD.out.keep (a1 := 0) (by repeat (first | exact Below.refl _ _ | refine Below.drew ?_ | refine below_drewN ?_ _ | refine Below.alloc ?_ (by first | exact Nat.le_refl _ | (simp; done) | (simp; omega) | omega) _ | refine Below.setCell ?_ (by first | exact Nat.le_refl _ | (simp; done) | (simp; omega) | omega) _ | refine bExtW ?_ (by first | exact Nat.le_refl _ | (simp; done) | (simp; omega) | omega) | refine Below.trans ?_ (Below.mono (by assumption) (by first | exact Nat.le_refl _ | (simp; done) | (simp; omega) | omega)))), Keep3.below (by repeat (first | exact Below.refl _ _ | refine Below.drew ?_ | refine below_drewN ?_ _ | refine Below.alloc ?_ (by first | exact Nat.le_refl _ | (simp; done) | (simp; omega) | omega) _ | refine Below.setCell ?_ (by first | exact Nat.le_refl _ | (simp; done) | (simp; omega) | omega) _ | refine bExtW ?_ (by first | exact Nat.le_refl _ | (simp; done) | (simp; omega) | omega) | refine Below.trans ?_ (Below.mono (by assumption) (by first | exact Nat.le_refl _ | (simp; done) | (simp; omega) | omega))))⟩
  · skip
    by_cases hat : l.at_ = 2
    · have hv : tell H 4 l D = (4, 0, { l with at_ := 3 }, D) := by rw [tell_in (by omega) hd (by unfold may; simp [hat])]; simp
      have b1 : ((l.at_ : Int) != 2) = false := by simp; omega
      have b2 : (l.at_ != 2) = false := by simp; omega
      rw [hv]
      rw [hat] at m5
      have HP := Lib.hid (fun w => plain_ok 4 w)
      clear hv hat hd
      go_enter Try.func13, Try.ntmps13
      go_wp2
      refine wp_scope_fwd ?_
      go_wp2_with fail
      refine (HP.out _).mono ?_
      rintro r w1 ⟨rfl, hb⟩
      obtain ⟨E, dd, rfl⟩ := bExt hb
      clear hb
      simp only [plainV]
      go_wp2_with fail
      (refine wp_region_ext (by kernel_rfl) (by kernel_rfl) ?_; (repeat (first | ((with_reducible refine ext_step (fun K hK => ?_)); go_simp; first | (refine hK _ ?_; clear hK K) | (apply Exists.intro; refine ⟨fun _ _ => ?_, hK _ ?_⟩; fail; clear hK K)))); refine wpQuiet_nil ?_; intro E d)
      go_wp2
      go_ret2
      have hA : LMr a b W H bv { l with at_ := 3 } (w.setCell ⟨a, 5, none⟩ (.int .i64 (3))) := LMr.setA HM.out 3
      have hB : DK b g cp D (w.setCell ⟨a, 5, none⟩ (.int .i64 (3))) := DK.ofSet HD.out hab hag
      have hC : Keep3 a b g w (w.setCell ⟨a, 5, none⟩ (.int .i64 (3))) := (Keep3.refl a b g w).set _ _ _ (.inl rfl)
      exact ⟨rfl, LMk hA (by repeat (first | exact Below.refl _ _ | refine Below.drew ?_ | refine below_drewN ?_ _ | refine Below.alloc ?_ (by first | exact Nat.le_refl _ | (simp; done) | (simp; omega) | omega) _ | refine Below.setCell ?_ (by first | exact Nat.le_refl _ | (simp; done) | (simp; omega) | omega) _ | refine bExtW ?_ (by first | exact Nat.le_refl _ | (simp; done) | (simp; omega) | omega) | refine Below.trans ?_ (Below.mono (by assumption) (by first | exact Nat.le_refl _ | (simp; done) | (simp; omega) | omega)))), hB.keep (a1 := 0) (by repeat (first | exact Below.refl _ _ | refine Below.drew ?_ | refine below_drewN ?_ _ | refine Below.alloc ?_ (by first | exact Nat.le_refl _ | (simp; done) | (simp; omega) | omega) _ | refine Below.setCell ?_ (by first | exact Nat.le_refl _ | (simp; done) | (simp; omega) | omega) _ | refine bExtW ?_ (by first | exact Nat.le_refl _ | (simp; done) | (simp; omega) | omega) | refine Below.trans ?_ (Below.mono (by assumption) (by first | exact Nat.le_refl _ | (simp; done) | (simp; omega) | omega)))), hC.trans (Keep3.below (by repeat (first | exact Below.refl _ _ | refine Below.drew ?_ | refine below_drewN ?_ _ | refine Below.alloc ?_ (by first | exact Nat.le_refl _ | (simp; done) | (simp; omega) | omega) _ | refine Below.setCell ?_ (by first | exact Nat.le_refl _ | (simp; done) | (simp; omega) | omega) _ | refine bExtW ?_ (by first | exact Nat.le_refl _ | (simp; done) | (simp; omega) | omega) | refine Below.trans ?_ (Below.mono (by assumption) (by first | exact Nat.le_refl _ | (simp; done) | (simp; omega) | omega)))))⟩
    · have hv : tell H 4 l D = (0, 9, l, D) := tell_bad (by omega) (.inr (by unfold may; simp [hat]))
      have b1 : ((l.at_ : Int) != 2) = true := by simp; omega
      have b2 : (l.at_ != 2) = true := by simp; omega
      rw [hv]
      have HP := Lib.hid (fun w => plain_ok 4 w)
      clear hv hat hd
      go_enter Try.func13, Try.ntmps13
      go_wp2
      refine wp_scope_fwd ?_
      go_wp2_with fail
      refine (HP.out _).mono ?_
      rintro r w1 ⟨rfl, hb⟩
      obtain ⟨E, dd, rfl⟩ := bExt hb
      clear hb
      simp only [plainV]
      go_wp2_with fail
      (refine wp_region_ext (by kernel_rfl) (by kernel_rfl) ?_; (repeat (first | ((with_reducible refine ext_step (fun K hK => ?_)); go_simp; first | (refine hK _ ?_; clear hK K) | (apply Exists.intro; refine ⟨fun _ _ => ?_, hK _ ?_⟩; fail; clear hK K)))); refine wpQuiet_nil ?_; intro E d)
      go_wp2
      apply wp_goto
      refine ⟨_, rfl, ?_⟩
      go_wp2
      rw [Exit.noGoto_ret]
      go_ret2
      exact ⟨rfl, LMk HM.out (by repeat (first | exact Below.refl _ _ | refine Below.drew ?_ | refine below_drewN ?_ _ | refine Below.alloc ?_ (by first | exact Nat.le_refl _ | (simp; done) | (simp; omega) | omega) _ | refine Below.setCell ?_ (by first | exact Nat.le_refl _ | (simp; done) | (simp; omega) | omega) _ | refine bExtW ?_ (by first | exact Nat.le_refl _ | (simp; done) | (simp; omega) | omega) | refine Below.trans ?_ (Below.mono (by assumption) (by first | exact Nat.le_refl _ | (simp; done) | (simp; omega) | omega)))), HD.out.keep (a1 := 0) (by repeat (first | exact Below.refl _ _ | refine Below.drew ?_ | refine below_drewN ?_ _ | refine Below.alloc ?_ (by first | exact Nat.le_refl _ | (simp; done) | (simp; omega) | omega) _ | refine Below.setCell ?_ (by first | exact Nat.le_refl _ | (simp; done) | (simp; omega) | omega) _ | refine bExtW ?_ (by first | exact Nat.le_refl _ | (simp; done) | (simp; omega) | omega) | refine Below.trans ?_ (Below.mono (by assumption) (by first | exact Nat.le_refl _ | (simp; done) | (simp; omega) | omega)))), Keep3.below (by repeat (first | exact Below.refl _ _ | refine Below.drew ?_ | refine below_drewN ?_ _ | refine Below.alloc ?_ (by first | exact Nat.le_refl _ | (simp; done) | (simp; omega) | omega) _ | refine Below.setCell ?_ (by first | exact Nat.le_refl _ | (simp; done) | (simp; omega) | omega) _ | refine bExtW ?_ (by first | exact Nat.le_refl _ | (simp; done) | (simp; omega) | omega) | refine Below.trans ?_ (Below.mono (by assumption) (by first | exact Nat.le_refl _ | (simp; done) | (simp; omega) | omega))))⟩
  · skip
    by_cases hat : l.at_ = 3
    · have hv : tell H 5 l D = (1, 0, { l with at_ := 1 }, D) := by rw [tell_in (by omega) hd (by unfold may; simp [hat])]; simp
      have b1 : ((l.at_ : Int) != 3) = false := by simp; omega
      have b2 : (l.at_ != 3) = false := by simp; omega
      rw [hv]
      rw [hat] at m5
      have HP := Lib.hid (fun w => plain_ok 5 w)
      clear hv hat hd
      go_enter Try.func13, Try.ntmps13
      go_wp2
      refine wp_scope_fwd ?_
      go_wp2_with fail
      refine (HP.out _).mono ?_
      rintro r w1 ⟨rfl, hb⟩
      obtain ⟨E, dd, rfl⟩ := bExt hb
      clear hb
      simp only [plainV]
      go_wp2_with fail
      (refine wp_region_ext (by kernel_rfl) (by kernel_rfl) ?_; (repeat (first | ((with_reducible refine ext_step (fun K hK => ?_)); go_simp; first | (refine hK _ ?_; clear hK K) | (apply Exists.intro; refine ⟨fun _ _ => ?_, hK _ ?_⟩; fail; clear hK K)))); refine wpQuiet_nil ?_; intro E d)
      go_wp2
      go_ret2
      have hA : LMr a b W H bv { l with at_ := 1 } (w.setCell ⟨a, 5, none⟩ (.int .i64 (1))) := LMr.setA HM.out 1
      have hB : DK b g cp D (w.setCell ⟨a, 5, none⟩ (.int .i64 (1))) := DK.ofSet HD.out hab hag
      have hC : Keep3 a b g w (w.setCell ⟨a, 5, none⟩ (.int .i64 (1))) := (Keep3.refl a b g w).set _ _ _ (.inl rfl)
      exact ⟨rfl, LMk hA (by repeat (first | exact Below.refl _ _ | refine Below.drew ?_ | refine below_drewN ?_ _ | refine Below.alloc ?_ (by first | exact Nat.le_refl _ | (simp; done) | (simp; omega) | omega) _ | refine Below.setCell ?_ (by first | exact Nat.le_refl _ | (simp; done) | (simp; omega) | omega) _ | refine bExtW ?_ (by first | exact Nat.le_refl _ | (simp; done) | (simp; omega) | omega) | refine Below.trans ?_ (Below.mono (by assumption) (by first | exact Nat.le_refl _ | (simp; done) | (simp; omega) | omega)))), hB.keep (a1 := 0) (by repeat (first | exact Below.refl _ _ | refine Below.drew ?_ | refine below_drewN ?_ _ | refine Below.alloc ?_ (by first | exact Nat.le_refl _ | (simp; done) | (simp; omega) | omega) _ | refine Below.setCell ?_ (by first | exact Nat.le_refl _ | (simp; done) | (simp; omega) | omega) _ | refine bExtW ?_ (by first | exact Nat.le_refl _ | (simp; done) | (simp; omega) | omega) | refine Below.trans ?_ (Below.mono (by assumption) (by first | exact Nat.le_refl _ | (simp; done) | (simp; omega) | omega)))), hC.trans (Keep3.below (by repeat (first | exact Below.refl _ _ | refine Below.drew ?_ | refine below_drewN ?_ _ | refine Below.alloc ?_ (by first | exact Nat.le_refl _ | (simp; done) | (simp; omega) | omega) _ | refine Below.setCell ?_ (by first | exact Nat.le_refl _ | (simp; done) | (simp; omega) | omega) _ | refine bExtW ?_ (by first | exact Nat.le_refl _ | (simp; done) | (simp; omega) | omega) | refine Below.trans ?_ (Below.mono (by assumption) (by first | exact Nat.le_refl _ | (simp; done) | (simp; omega) | omega)))))⟩
    · have hv : tell H 5 l D = (0, 9, l, D) := tell_bad (by omega) (.inr (by unfold may; simp [hat]))
      have b1 : ((l.at_ : Int) != 3) = true := by simp; omega
      have b2 : (l.at_ != 3) = true := by simp; omega
      rw [hv]
      have HP := Lib.hid (fun w => plain_ok 5 w)
      clear hv hat hd
      go_enter Try.func13, Try.ntmps13
      go_wp2
      refine wp_scope_fwd ?_
      go_wp2_with fail
      refine (HP.out _).mono ?_
      rintro r w1 ⟨rfl, hb⟩
      obtain ⟨E, dd, rfl⟩ := bExt hb
      clear hb
      simp only [plainV]
      go_wp2_with fail
      (refine wp_region_ext (by kernel_rfl) (by kernel_rfl) ?_; (repeat (first | ((with_reducible refine ext_step (fun K hK => ?_)); go_simp; first | (refine hK _ ?_; clear hK K) | (apply Exists.intro; refine ⟨fun _ _ => ?_, hK _ ?_⟩; fail; clear hK K)))); refine wpQuiet_nil ?_; intro E d)
      go_wp2
      apply wp_goto
      refine ⟨_, rfl, ?_⟩
      go_wp2
      rw [Exit.noGoto_ret]
      go_ret2
      exact ⟨rfl, LMk HM.out (by repeat (first | exact Below.refl _ _ | refine Below.drew ?_ | refine below_drewN ?_ _ | refine Below.alloc ?_ (by first | exact Nat.le_refl _ | (simp; done) | (simp; omega) | omega) _ | refine Below.setCell ?_ (by first | exact Nat.le_refl _ | (simp; done) | (simp; omega) | omega) _ | refine bExtW ?_ (by first | exact Nat.le_refl _ | (simp; done) | (simp; omega) | omega) | refine Below.trans ?_ (Below.mono (by assumption) (by first | exact Nat.le_refl _ | (simp; done) | (simp; omega) | omega)))), HD.out.keep (a1 := 0) (by repeat (first | exact Below.refl _ _ | refine Below.drew ?_ | refine below_drewN ?_ _ | refine Below.alloc ?_ (by first | exact Nat.le_refl _ | (simp; done) | (simp; omega) | omega) _ | refine Below.setCell ?_ (by first | exact Nat.le_refl _ | (simp; done) | (simp; omega) | omega) _ | refine bExtW ?_ (by first | exact Nat.le_refl _ | (simp; done) | (simp; omega) | omega) | refine Below.trans ?_ (Below.mono (by assumption) (by first | exact Nat.le_refl _ | (simp; done) | (simp; omega) | omega)))), Keep3.below (by repeat (first | exact Below.refl _ _ | refine Below.drew ?_ | refine below_drewN ?_ _ | refine Below.alloc ?_ (by first | exact Nat.le_refl _ | (simp; done) | (simp; omega) | omega) _ | refine Below.setCell ?_ (by first | exact Nat.le_refl _ | (simp; done) | (simp; omega) | omega) _ | refine bExtW ?_ (by first | exact Nat.le_refl _ | (simp; done) | (simp; omega) | omega) | refine Below.trans ?_ (Below.mono (by assumption) (by first | exact Nat.le_refl _ | (simp; done) | (simp; omega) | omega))))⟩
end Go.Proofs.Ytefmlepogpjhmaa
