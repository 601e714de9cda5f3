/- Lemmas and contracts of functions (what each call returns, and that it changes nothing that was there) that the proof of a law of this seat uses; each lemma states its own conditions. -/
import Derived.Test.YtikddfjickkhhaaQ5
import Derived.Test.YtikddfjickkhhaaLo3
import Derived.Test.YtikddfjickkhhaaTp
namespace Go.Proofs.Ytikddfjickkhhaa
open Go.RowKit
set_option linter.unusedVariables false
set_option linter.unusedSimpArgs false
open Lo
theorem OkT.ne {w : World} {a : Option Addr} {n c : Nat} {bs : List Bool} {k : Nat} {W H : Int} {A : Option Addr} {m C : Nat} (hT : OkT w a n c bs) (hr : w.rowIs k 26 3 (tF W H (.slice A m C))) (hn : 0 < n) {b o : Nat} (e : a = some ⟨b, o, none⟩) : b ≠ k := by
  intro hk
  subst hk
  obtain ⟨b', o', e', h2, h3⟩ := hT.bits.2 hn
  rw [e] at e'
  obtain ⟨rfl, rfl⟩ : b = b' ∧ o = o' := by injection e' with e'; injection e' with e1 e2; exact ⟨e1, e2⟩
  have h4 := h3 0 hn
  rw [Nat.add_zero] at h4
  rcases Nat.lt_or_ge o 3 with h | h
  · rw [hr.cell h] at h4
    have hi3 : o = 0 ∨ o = 1 ∨ o = 2 := by omega
    rcases hi3 with rfl | rfl | rfl <;> simp [tF] at h4
  · obtain ⟨cs, hb, hs, hc⟩ := hr
    simp [World.cell?, hb] at h4
    have : cs[o]? = none := Array.getElem?_eq_none (by omega)
    simp_all
theorem OkT.over {w w' : World} {a : Option Addr} {n c : Nat} {bs : List Bool} {k : Nat} {W H : Int} {A : Option Addr} {m C : Nat} (hT : OkT w a n c bs) (hr : w.rowIs k 26 3 (tF W H (.slice A m C))) (h : BelowX w.heap.size k w w') : OkT w' a n c bs := by
  refine ⟨⟨hT.bits.1, fun hn => ?_⟩, hT.cap, hT.lim⟩
  obtain ⟨b, o, h1, h2, h3⟩ := hT.bits.2 hn
  exact ⟨b, o, h1, Nat.lt_of_lt_of_le h2 h.size, fun j hj => (World.cell?_of_block (h.block b h2 (hT.ne hr hn h1))).trans (h3 j hj)⟩
def UPost (X Y : Int) (n : Nat) (L : List Bool) (pe : Int) (w : World) (r : Ending) (w' : World) : Prop :=
  ∃ A C, r = .returned (.tuple #[.agg #[.int .i64 (X), .int .i64 (Y), .slice A n C], .int .i64 (pe)]) ∧ OkT w' A n C L ∧ Below w.heap.size w w'
theorem OkT.nil (w : World) : OkT w none 0 0 [] := ⟨⟨rfl, fun h => absurd h (by omega)⟩, by omega, by omega⟩
theorem upost_bad {pe : Int} {w w' : World} {r : Ending} (h : r = .returned (.tuple #[.agg #[.int .i64 0, .int .i64 0, .slice none 0 0], .int .i64 (pe)]) ∧ Below w.heap.size w w') : UPost 0 0 0 [] pe w r w' := ⟨none, 0, h.1, OkT.nil _, h.2⟩
theorem ProductU (W1 H1 : Int) (a1 : Option Addr) (n1 c1 : Nat) (aa : List Bool) (W2 H2 : Int) (a2 : Option Addr) (n2 c2 : Nat) (bb : List Bool) (u1 : (-9223372036854775808 ≤ W1 ∧ W1 ≤ 9223372036854775807)) (u2 : (-9223372036854775808 ≤ H1 ∧ H1 ≤ 9223372036854775807)) (u3 : n1 ≤ 9223372036854775807) (v1 : (-9223372036854775808 ≤ W2 ∧ W2 ≤ 9223372036854775807)) (v2 : (-9223372036854775808 ≤ H2 ∧ H2 ≤ 9223372036854775807)) (v3 : n2 ≤ 9223372036854775807) :
    ∃ X Y n L pe, n ≤ 9223372036854775807 ∧ (∀ w, OkT w a1 n1 c1 aa → OkT w a2 n2 c2 bb → Calls Try.prog 24 #[.agg #[.int .i64 (W1), .int .i64 (H1), .slice a1 n1 c1], .agg #[.int .i64 (W2), .int .i64 (H2), .slice a2 n2 c2]] w (UPost X Y n L pe w)) ∧ (∀ w, OkT w a1 n1 c1 aa → OkT w a2 n2 c2 bb → Calls Try.prog 41 #[.agg #[.int .i64 (W1), .int .i64 (H1), .slice a1 n1 c1], .agg #[.int .i64 (W2), .int .i64 (H2), .slice a2 n2 c2]] w (UPost X Y n L pe w)) := by
  by_cases he : prE W1 H1 n1 W2 H2 n2 = 0
  · obtain ⟨e1, e2, e3⟩ := prE_zero he
    obtain ⟨M, H, rfl, rfl, hM, hH, hn1⟩ := wrT_zero e1
    obtain ⟨W, M', rfl, rfl, hW, _, hn2⟩ := wrT_zero e2
    obtain rfl : M = M' := by omega
    refine ⟨W, H, W * H, prodL H M W aa bb, 0, Nat.le_trans (mul64n hW hH) (by omega), fun w hA hB => ?_, fun w hA hB => ?_⟩
    · exact (Product_any H M W n1 n2 (W * H) hn1 hn2 rfl a1 c1 aa a2 c2 bb w hA hB hM hH hW).mono fun r w' ⟨g, h1, h2, h3⟩ => ⟨_, _, h1, h2, h3⟩
    · exact (rProduct_ok H M W n1 n2 (W * H) hn1 hn2 rfl a1 c1 aa a2 c2 bb w hA hB hM hH hW).mono fun r w' h => h
  · refine ⟨0, 0, 0, [], prE W1 H1 n1 W2 H2 n2, by omega, fun w _ _ => ?_, fun w _ _ => ?_⟩
    · exact (Product_bad W1 H1 a1 n1 c1 W2 H2 a2 n2 c2 w u1 u2 u3 v1 v2 v3 he).mono fun r w' h => upost_bad h
    · exact (rProduct_bad W1 H1 a1 n1 c1 W2 H2 a2 n2 c2 w u1 u2 u3 v1 v2 v3 he).mono fun r w' h => upost_bad h
theorem TurnedU (W H : Int) (a : Option Addr) (n c : Nat) (bs : List Bool) (u1 : (-9223372036854775808 ≤ W ∧ W ≤ 9223372036854775807)) (u2 : (-9223372036854775808 ≤ H ∧ H ≤ 9223372036854775807)) (u3 : n ≤ 9223372036854775807) :
    ∃ X Y m L pe, m ≤ 9223372036854775807 ∧ (∀ w, OkT w a n c bs → Calls Try.prog 22 #[.agg #[.int .i64 (W), .int .i64 (H), .slice a n c]] w (UPost X Y m L pe w)) ∧ (∀ w, OkT w a n c bs → Calls Try.prog 42 #[.agg #[.int .i64 (W), .int .i64 (H), .slice a n c]] w (UPost X Y m L pe w)) := by
  by_cases he : wrT W H n = 0
  · obtain ⟨W, H, rfl, rfl, hW, hH, hn⟩ := wrT_zero he
    refine ⟨H, W, n, turnL W H bs, 0, u3, fun w hT => ?_, fun w hT => ?_⟩
    · exact (Turned_any W H n hn a c bs w hT hW hH).mono fun r w' ⟨g, h1, h2, h3⟩ => ⟨_, _, h1, h2, h3⟩
    · exact (rTurned_ok W H n hn a c bs w hT hW hH).mono fun r w' h => h
  · refine ⟨0, 0, 0, [], wrT W H n, by omega, fun w _ => ?_, fun w _ => ?_⟩
    · exact (Turned_bad W H a n c w u1 u2 u3 he).mono fun r w' h => upost_bad h
    · exact (rTurned_bad W H a n c w u1 u2 u3 he).mono fun r w' h => upost_bad h
def IPost (m : Nat) (L : List Int) (pe : Int) (w : World) (r : Ending) (w' : World) : Prop :=
  ∃ A C, r = .returned (.tuple #[.slice A m C, .int .i64 (pe)]) ∧ IsInts w' A m L ∧ Below w.heap.size w w'
theorem ipost_bad {pe : Int} {w w' : World} {r : Ending} (h : r = .returned (.tuple #[.slice none 0 0, .int .i64 (pe)]) ∧ Below w.heap.size w w') : IPost 0 [] pe w r w' := ⟨none, 0, h.1, ⟨rfl, fun h => absurd h (by omega)⟩, h.2⟩
theorem AlikeU (W H : Int) (a : Option Addr) (n c : Nat) (bs : List Bool) (u1 : (-9223372036854775808 ≤ W ∧ W ≤ 9223372036854775807)) (u2 : (-9223372036854775808 ≤ H ∧ H ≤ 9223372036854775807)) (u3 : n ≤ 9223372036854775807) :
    ∃ m L pe, m ≤ 9223372036854775807 ∧ (∀ w, OkT w a n c bs → Calls Try.prog 43 #[.agg #[.int .i64 (W), .int .i64 (H), .slice a n c]] w (IPost m L pe w)) ∧ (∀ w, OkT w a n c bs → Calls Try.prog 44 #[.agg #[.int .i64 (W), .int .i64 (H), .slice a n c]] w (IPost m L pe w)) := by
  by_cases he : wrT W H n = 0
  · obtain ⟨W, H, rfl, rfl, hW, hH, rfl⟩ := wrT_zero he
    refine ⟨(alikeL W H bs).length, natI (alikeL W H bs), 0, by rw [alikeL_len]; omega, fun w hT => ?_, fun w hT => ?_⟩
    · exact (Alike_ok W H a c bs w hT hW hH).mono fun r w' h => h
    · exact (rAlike_ok W H (W * H) rfl a c bs w hT hW hH).mono fun r w' h => h
  · refine ⟨0, [], wrT W H n, by omega, fun w _ => ?_, fun w _ => ?_⟩
    · exact (Alike_bad W H a n c w u1 u2 u3 he).mono fun r w' h => ipost_bad h
    · exact (rAlike_bad W H a n c w u1 u2 u3 he).mono fun r w' h => ipost_bad h
theorem FloatsU (W H : Int) (a : Option Addr) (n c : Nat) (bs : List Bool) (u1 : (-9223372036854775808 ≤ W ∧ W ≤ 9223372036854775807)) (u2 : (-9223372036854775808 ≤ H ∧ H ≤ 9223372036854775807)) :
    ∃ p q pe : Int, (∀ w, OkT w a n c bs → Calls Try.prog 31 #[.agg #[.int .i64 (W), .int .i64 (H), .slice a n c]] w fun e w' => e = .returned (.tuple #[.int .i64 (p), .int .i64 (q), .int .i64 (pe)]) ∧ Below w.heap.size w w') ∧ (∀ w, OkT w a n c bs → Calls Try.prog 45 #[.agg #[.int .i64 (W), .int .i64 (H), .slice a n c]] w fun e w' => e = .returned (.tuple #[.int .i64 (p), .int .i64 (q), .int .i64 (pe)]) ∧ Below w.heap.size w w') := by
  by_cases he : flE W H n = 0
  · obtain ⟨W', H', rfl, rfl, hW, hH, hn, hW0, hH0⟩ := flE_zero he
    exact ⟨_, _, _, fun w h => Floats_ok W' H' n hn a c bs w h hW hH hW0 hH0, fun w h => rFloats_ok W' H' n hn a c bs w h hW hH hW0 hH0⟩
  · exact ⟨0, 0, flE W H n, fun w h => Floats_bad W H a n c bs w h u1 u2 he, fun w h => rFloats_bad W H a n c bs w h u1 u2 he⟩
set_option maxRecDepth 100000 in
set_option maxHeartbeats 8000000 in
theorem tells_walk (W1 H1 : Int) (a1 : Option Addr) (n1 c1 : Nat) (aa : List Bool) (W2 H2 : Int) (a2 : Option Addr) (n2 c2 : Nat) (bb : List Bool) (w : World)
    (hA : OkT w a1 n1 c1 aa) (hB : OkT w a2 n2 c2 bb) (u1 : (-9223372036854775808 ≤ W1 ∧ W1 ≤ 9223372036854775807)) (v1 : (-9223372036854775808 ≤ H1 ∧ H1 ≤ 9223372036854775807)) (u2 : (-9223372036854775808 ≤ W2 ∧ W2 ≤ 9223372036854775807)) (v2 : (-9223372036854775808 ≤ H2 ∧ H2 ≤ 9223372036854775807)) :
    Calls Try.prog 11 #[.agg #[.int .i64 (W1), .int .i64 (H1), .slice a1 n1 c1], .agg #[.int .i64 (W2), .int .i64 (H2), .slice a2 n2 c2]] w fun e w' => e = .returned (.bool true) ∧ Below w.heap.size w w' := by
  have m1 : n1 ≤ 9223372036854775807 := Nat.le_trans hA.cap hA.lim
  have m2 : n2 ≤ 9223372036854775807 := Nat.le_trans hB.cap hB.lim
  obtain ⟨X, Y, np, Lp, pe, hnp, hP1, hP2⟩ := ProductU W1 H1 a1 n1 c1 aa W2 H2 a2 n2 c2 bb u1 v1 m1 u2 v2 m2
  obtain ⟨X2, Y2, nt, Lt, te, hnt, hT1, hT2⟩ := TurnedU W1 H1 a1 n1 c1 aa u1 v1 m1
  obtain ⟨nl, Ll, le, hnl, hL1, hL2⟩ := AlikeU W1 H1 a1 n1 c1 aa u1 v1 m1
  obtain ⟨p, q, fe, hF1, hF2⟩ := FloatsU W1 H1 a1 n1 c1 aa u1 v1
  have HW1 := Lib.hid (fun w => tWrong_any W1 H1 a1 n1 c1 w u1 v1 m1)
  have HW2 := Lib.hid (fun w => r5Wrong_any W1 H1 a1 n1 c1 w u1 v1 m1)
  have HA := Lib.hid hA; have HB := Lib.hid hB
  have HP1 := Lib.hid hP1; have HP2 := Lib.hid hP2
  have HT1 := Lib.hid hT1; have HT2 := Lib.hid hT2
  have HL1 := Lib.hid hL1; have HL2 := Lib.hid hL2
  have HF1 := Lib.hid hF1; have HF2 := Lib.hid hF2
  clear hA hB hP1 hP2 hT1 hT2 hL1 hL2 hF1 hF2
  generalize wrT W1 H1 n1 = we at *
  go_enter Try.func11, Try.ntmps11
  go_wp2_with fail
  (refine wp_region_ext (by kernel_rfl) (by kernel_rfl) ?_; (repeat (first | ((with_reducible refine ext_step (fun K hK => ?_)); go_simp; first | (refine hK _ ?_; clear hK K) | (apply Exists.intro; refine ⟨fun _ _ => ?_, hK _ ?_⟩; fail; clear hK K)))); ((with_reducible refine ext_step (fun K hK => ?_)); go_simp; (apply Exists.intro; refine ⟨fun _ _ => ?_, hK _ ?_⟩; (go_at_call 39; exact extOf (HW1.out _)); clear hK K)); (repeat (first | ((with_reducible refine ext_step (fun K hK => ?_)); go_simp; first | (refine hK _ ?_; clear hK K) | (apply Exists.intro; refine ⟨fun _ _ => ?_, hK _ ?_⟩; fail; clear hK K)))); ((with_reducible refine ext_step (fun K hK => ?_)); go_simp; (apply Exists.intro; refine ⟨fun _ _ => ?_, hK _ ?_⟩; (go_at_call 40; exact extOf (HW2.out _)); clear hK K)); (repeat (first | ((with_reducible refine ext_step (fun K hK => ?_)); go_simp; first | (refine hK _ ?_; clear hK K) | (apply Exists.intro; refine ⟨fun _ _ => ?_, hK _ ?_⟩; fail; clear hK K)))); refine wpQuiet_nil ?_; intro E d)
  go_wp2_with fail
  refine (HP1.out _ (HA.out.below (by repeat (first | exact Below.refl _ _ | refine Below.drew ?_ | refine below_drewN ?_ _ | refine Below.alloc ?_ (by first | exact Nat.le_refl _ | (simp; done) | (simp; omega) | omega) _ | refine Below.setCell ?_ (by first | exact Nat.le_refl _ | (simp; done) | (simp; omega) | omega) _ | refine bExtW ?_ (by first | exact Nat.le_refl _ | (simp; done) | (simp; omega) | omega) | refine Below.trans ?_ (Below.mono (by assumption) (by first | exact Nat.le_refl _ | (simp; done) | (simp; omega) | omega))))) (HB.out.below (by repeat (first | exact Below.refl _ _ | refine Below.drew ?_ | refine below_drewN ?_ _ | refine Below.alloc ?_ (by first | exact Nat.le_refl _ | (simp; done) | (simp; omega) | omega) _ | refine Below.setCell ?_ (by first | exact Nat.le_refl _ | (simp; done) | (simp; omega) | omega) _ | refine bExtW ?_ (by first | exact Nat.le_refl _ | (simp; done) | (simp; omega) | omega) | refine Below.trans ?_ (Below.mono (by assumption) (by first | exact Nat.le_refl _ | (simp; done) | (simp; omega) | omega)))))).mono ?_
  rintro r wx ⟨A1, C1, rfl, hT, hb⟩
  obtain ⟨E1, d1, rfl⟩ := bExt hb
  have HX1 := Lib.hid hT
  clear hb hT
  go_wp2_with fail
  refine (HP2.out _ (HA.out.below (by repeat (first | exact Below.refl _ _ | refine Below.drew ?_ | refine below_drewN ?_ _ | refine Below.alloc ?_ (by first | exact Nat.le_refl _ | (simp; done) | (simp; omega) | omega) _ | refine Below.setCell ?_ (by first | exact Nat.le_refl _ | (simp; done) | (simp; omega) | omega) _ | refine bExtW ?_ (by first | exact Nat.le_refl _ | (simp; done) | (simp; omega) | omega) | refine Below.trans ?_ (Below.mono (by assumption) (by first | exact Nat.le_refl _ | (simp; done) | (simp; omega) | omega))))) (HB.out.below (by repeat (first | exact Below.refl _ _ | refine Below.drew ?_ | refine below_drewN ?_ _ | refine Below.alloc ?_ (by first | exact Nat.le_refl _ | (simp; done) | (simp; omega) | omega) _ | refine Below.setCell ?_ (by first | exact Nat.le_refl _ | (simp; done) | (simp; omega) | omega) _ | refine bExtW ?_ (by first | exact Nat.le_refl _ | (simp; done) | (simp; omega) | omega) | refine Below.trans ?_ (Below.mono (by assumption) (by first | exact Nat.le_refl _ | (simp; done) | (simp; omega) | omega)))))).mono ?_
  rintro r wx ⟨A2, C2, rfl, hT, hb⟩
  obtain ⟨E2, d2, rfl⟩ := bExt hb
  have HX2 := Lib.hid hT
  clear hb hT
  go_wp2_with fail
  refine (Same_any X Y A1 np C1 Lp X Y A2 np C2 Lp _ (HX1.out.bits.below (by repeat (first | exact Below.refl _ _ | refine Below.drew ?_ | refine below_drewN ?_ _ | refine Below.alloc ?_ (by first | exact Nat.le_refl _ | (simp; done) | (simp; omega) | omega) _ | refine Below.setCell ?_ (by first | exact Nat.le_refl _ | (simp; done) | (simp; omega) | omega) _ | refine bExtW ?_ (by first | exact Nat.le_refl _ | (simp; done) | (simp; omega) | omega) | refine Below.trans ?_ (Below.mono (by assumption) (by first | exact Nat.le_refl _ | (simp; done) | (simp; omega) | omega))))) (HX2.out.bits.below (by repeat (first | exact Below.refl _ _ | refine Below.drew ?_ | refine below_drewN ?_ _ | refine Below.alloc ?_ (by first | exact Nat.le_refl _ | (simp; done) | (simp; omega) | omega) _ | refine Below.setCell ?_ (by first | exact Nat.le_refl _ | (simp; done) | (simp; omega) | omega) _ | refine bExtW ?_ (by first | exact Nat.le_refl _ | (simp; done) | (simp; omega) | omega) | refine Below.trans ?_ (Below.mono (by assumption) (by first | exact Nat.le_refl _ | (simp; done) | (simp; omega) | omega))))) hnp hnp).mono ?_
  rw [decide_eq_true (p := (X = X ∧ Y = Y ∧ Lp = Lp)) ⟨rfl, rfl, rfl⟩]
  rintro r wx ⟨rfl, hb⟩
  obtain ⟨E3, d3, rfl⟩ := bExt hb
  clear hb
  go_wp2_with fail
  have hq := rowBelow (tF_alloc w W1 H1 (.slice a1 n1 c1) rfl) (show Below (w.alloc (.cells #[.int .i64 (W1), .int .i64 (H1), .slice a1 n1 c1] 26)).heap.size (w.alloc (.cells #[.int .i64 (W1), .int .i64 (H1), .slice a1 n1 c1] 26)) (extW ((extW ((extW (extW ((w.alloc (.cells #[.int .i64 (W1), .int .i64 (H1), .slice a1 n1 c1] 26)).alloc (.cells #[.int .i64 (W2), .int .i64 (H2), .slice a2 n2 c2] 26)) E d) E1 d1).alloc (.cells #[.int .i64 (X), .int .i64 (Y), .slice A1 np C1] 26)) E2 d2).alloc (.cells #[.int .i64 (X), .int .i64 (Y), .slice A2 np C2] 26)) E3 d3) from (by repeat (first | exact Below.refl _ _ | refine Below.drew ?_ | refine below_drewN ?_ _ | refine Below.alloc ?_ (by first | exact Nat.le_refl _ | (simp; done) | (simp; omega) | omega) _ | refine Below.setCell ?_ (by first | exact Nat.le_refl _ | (simp; done) | (simp; omega) | omega) _ | refine bExtW ?_ (by first | exact Nat.le_refl _ | (simp; done) | (simp; omega) | omega) | refine Below.trans ?_ (Below.mono (by assumption) (by first | exact Nat.le_refl _ | (simp; done) | (simp; omega) | omega))))) (by simp)
  have h5 := rowBelow (tF_alloc (extW (extW ((w.alloc (.cells #[.int .i64 (W1), .int .i64 (H1), .slice a1 n1 c1] 26)).alloc (.cells #[.int .i64 (W2), .int .i64 (H2), .slice a2 n2 c2] 26)) E d) E1 d1) X Y (.slice A1 np C1) rfl) (show Below ((extW (extW ((w.alloc (.cells #[.int .i64 (W1), .int .i64 (H1), .slice a1 n1 c1] 26)).alloc (.cells #[.int .i64 (W2), .int .i64 (H2), .slice a2 n2 c2] 26)) E d) E1 d1).alloc (.cells #[.int .i64 (X), .int .i64 (Y), .slice A1 np C1] 26)).heap.size ((extW (extW ((w.alloc (.cells #[.int .i64 (W1), .int .i64 (H1), .slice a1 n1 c1] 26)).alloc (.cells #[.int .i64 (W2), .int .i64 (H2), .slice a2 n2 c2] 26)) E d) E1 d1).alloc (.cells #[.int .i64 (X), .int .i64 (Y), .slice A1 np C1] 26)) (extW ((extW ((extW (extW ((w.alloc (.cells #[.int .i64 (W1), .int .i64 (H1), .slice a1 n1 c1] 26)).alloc (.cells #[.int .i64 (W2), .int .i64 (H2), .slice a2 n2 c2] 26)) E d) E1 d1).alloc (.cells #[.int .i64 (X), .int .i64 (Y), .slice A1 np C1] 26)) E2 d2).alloc (.cells #[.int .i64 (X), .int .i64 (Y), .slice A2 np C2] 26)) E3 d3) from (by repeat (first | exact Below.refl _ _ | refine Below.drew ?_ | refine below_drewN ?_ _ | refine Below.alloc ?_ (by first | exact Nat.le_refl _ | (simp; done) | (simp; omega) | omega) _ | refine Below.setCell ?_ (by first | exact Nat.le_refl _ | (simp; done) | (simp; omega) | omega) _ | refine bExtW ?_ (by first | exact Nat.le_refl _ | (simp; done) | (simp; omega) | omega) | refine Below.trans ?_ (Below.mono (by assumption) (by first | exact Nat.le_refl _ | (simp; done) | (simp; omega) | omega))))) (by rw [World.size_alloc]; omega)
  have h7 := rowBelow (tF_alloc (extW ((extW (extW ((w.alloc (.cells #[.int .i64 (W1), .int .i64 (H1), .slice a1 n1 c1] 26)).alloc (.cells #[.int .i64 (W2), .int .i64 (H2), .slice a2 n2 c2] 26)) E d) E1 d1).alloc (.cells #[.int .i64 (X), .int .i64 (Y), .slice A1 np C1] 26)) E2 d2) X Y (.slice A2 np C2) rfl) (show Below ((extW ((extW (extW ((w.alloc (.cells #[.int .i64 (W1), .int .i64 (H1), .slice a1 n1 c1] 26)).alloc (.cells #[.int .i64 (W2), .int .i64 (H2), .slice a2 n2 c2] 26)) E d) E1 d1).alloc (.cells #[.int .i64 (X), .int .i64 (Y), .slice A1 np C1] 26)) E2 d2).alloc (.cells #[.int .i64 (X), .int .i64 (Y), .slice A2 np C2] 26)).heap.size ((extW ((extW (extW ((w.alloc (.cells #[.int .i64 (W1), .int .i64 (H1), .slice a1 n1 c1] 26)).alloc (.cells #[.int .i64 (W2), .int .i64 (H2), .slice a2 n2 c2] 26)) E d) E1 d1).alloc (.cells #[.int .i64 (X), .int .i64 (Y), .slice A1 np C1] 26)) E2 d2).alloc (.cells #[.int .i64 (X), .int .i64 (Y), .slice A2 np C2] 26)) (extW ((extW ((extW (extW ((w.alloc (.cells #[.int .i64 (W1), .int .i64 (H1), .slice a1 n1 c1] 26)).alloc (.cells #[.int .i64 (W2), .int .i64 (H2), .slice a2 n2 c2] 26)) E d) E1 d1).alloc (.cells #[.int .i64 (X), .int .i64 (Y), .slice A1 np C1] 26)) E2 d2).alloc (.cells #[.int .i64 (X), .int .i64 (Y), .slice A2 np C2] 26)) E3 d3) from (by repeat (first | exact Below.refl _ _ | refine Below.drew ?_ | refine below_drewN ?_ _ | refine Below.alloc ?_ (by first | exact Nat.le_refl _ | (simp; done) | (simp; omega) | omega) _ | refine Below.setCell ?_ (by first | exact Nat.le_refl _ | (simp; done) | (simp; omega) | omega) _ | refine bExtW ?_ (by first | exact Nat.le_refl _ | (simp; done) | (simp; omega) | omega) | refine Below.trans ?_ (Below.mono (by assumption) (by first | exact Nat.le_refl _ | (simp; done) | (simp; omega) | omega))))) (by rw [World.size_alloc]; omega)
  have hbw : Below w.heap.size w (extW ((extW ((extW (extW ((w.alloc (.cells #[.int .i64 (W1), .int .i64 (H1), .slice a1 n1 c1] 26)).alloc (.cells #[.int .i64 (W2), .int .i64 (H2), .slice a2 n2 c2] 26)) E d) E1 d1).alloc (.cells #[.int .i64 (X), .int .i64 (Y), .slice A1 np C1] 26)) E2 d2).alloc (.cells #[.int .i64 (X), .int .i64 (Y), .slice A2 np C2] 26)) E3 d3) := (by repeat (first | exact Below.refl _ _ | refine Below.drew ?_ | refine below_drewN ?_ _ | refine Below.alloc ?_ (by first | exact Nat.le_refl _ | (simp; done) | (simp; omega) | omega) _ | refine Below.setCell ?_ (by first | exact Nat.le_refl _ | (simp; done) | (simp; omega) | omega) _ | refine bExtW ?_ (by first | exact Nat.le_refl _ | (simp; done) | (simp; omega) | omega) | refine Below.trans ?_ (Below.mono (by assumption) (by first | exact Nat.le_refl _ | (simp; done) | (simp; omega) | omega))))
  have hsz7 : (extW ((extW (extW ((w.alloc (.cells #[.int .i64 (W1), .int .i64 (H1), .slice a1 n1 c1] 26)).alloc (.cells #[.int .i64 (W2), .int .i64 (H2), .slice a2 n2 c2] 26)) E d) E1 d1).alloc (.cells #[.int .i64 (X), .int .i64 (Y), .slice A1 np C1] 26)) E2 d2).heap.size = w.heap.size + 1 + 1 + E.size + E1.size + 1 + E2.size := by simp
  have hsz5 : (extW (extW ((w.alloc (.cells #[.int .i64 (W1), .int .i64 (H1), .slice a1 n1 c1] 26)).alloc (.cells #[.int .i64 (W2), .int .i64 (H2), .slice a2 n2 c2] 26)) E d) E1 d1).heap.size = w.heap.size + 1 + 1 + E.size + E1.size := by simp
  rw [hsz5] at h5
  rw [hsz7] at h7
  generalize (extW ((extW ((extW (extW ((w.alloc (.cells #[.int .i64 (W1), .int .i64 (H1), .slice a1 n1 c1] 26)).alloc (.cells #[.int .i64 (W2), .int .i64 (H2), .slice a2 n2 c2] 26)) E d) E1 d1).alloc (.cells #[.int .i64 (X), .int .i64 (Y), .slice A1 np C1] 26)) E2 d2).alloc (.cells #[.int .i64 (X), .int .i64 (Y), .slice A2 np C2] 26)) E3 d3) = W5 at *
  obtain ⟨q, hqe⟩ : ∃ q, q = w.heap.size := ⟨_, rfl⟩
  rw [← hqe] at hq h5 h7 ⊢
  obtain ⟨k5, hk5⟩ : ∃ k, q + 1 + 1 + E.size + E1.size = k := ⟨_, rfl⟩
  rw [hk5] at h5 h7 ⊢
  obtain ⟨k7, hk7⟩ : ∃ k, k5 + 1 + E2.size = k := ⟨_, rfl⟩
  rw [hk7] at h7 ⊢
  have hq5 : q < k5 := by omega
  have h57 : k5 < k7 := by omega
  have HQW := Lib.hid hqe
  clear hsz5 hsz7 hk5 hk7 hqe HX1 HX2
  refine (HT1.out _ (HA.out.below hbw)).mono ?_
  rintro r wx ⟨A4, C4, rfl, hT, hb⟩
  obtain ⟨E4, d4, rfl⟩ := bExt hb
  have HX4 := Lib.hid hT
  have hqx := rowBelow hq hb hq.lt
  have h5x := rowBelow h5 hb h5.lt
  have h7x := rowBelow h7 hb h7.lt
  have hbwx := hbw.trans (hb.mono hbw.size)
  clear hb hT hq h5 h7 hbw
  generalize extW W5 E4 d4 = W6 at *
  have q0 : W6.cell? ⟨q, 0, none⟩ = some (.int .i64 (W1)) := hqx.cell (i := 0) (by omega)
  have q1 : W6.cell? ⟨q, 1, none⟩ = some (.int .i64 (H1)) := hqx.cell (i := 1) (by omega)
  have q2 : W6.cell? ⟨q, 2, none⟩ = some (.slice a1 n1 c1) := hqx.cell (i := 2) (by omega)
  have r0 : W6.cell? ⟨k5, 0, none⟩ = some (.int .i64 (X)) := h5x.cell (i := 0) (by omega)
  have r1 : W6.cell? ⟨k5, 1, none⟩ = some (.int .i64 (Y)) := h5x.cell (i := 1) (by omega)
  have r2 : W6.cell? ⟨k5, 2, none⟩ = some (.slice A1 np C1) := h5x.cell (i := 2) (by omega)
  have f0 := h5x.frozen 0; have f1 := h5x.frozen 1; have f2 := h5x.frozen 2
  have nq : ¬ q = k5 := by omega
  have nq' : ¬ k5 = q := by omega
  have HQX := Lib.hid hqx; have H5X := Lib.hid h5x; have H7X := Lib.hid h7x; have HBX := Lib.hid hbwx
  clear hqx h5x h7x hbwx
  go_wp2_with fail
  have hX := (((BelowX.refl (base := W6.heap.size) (mb := k5) (W := W6) (Nat.le_refl _)).set 0 (.int .i64 (X2))).set 1 (.int .i64 (Y2))).set 2 (.slice A4 nt C4)
  have HX4' := Lib.hid (HX4.out.over H5X.out hX)
  have hq := hX.rowIs HQX.out HQX.out.lt nq
  have h7 := hX.rowIs H7X.out H7X.out.lt (by omega)
  have h5 := (((H5X.out.set 0 (.int .i64 (X2))).set 1 (.int .i64 (Y2))).set 2 (.slice A4 nt C4)).congr (g := tF X2 Y2 (.slice A4 nt C4)) (fun i hi => by
    have hi3 : i = 0 ∨ i = 1 ∨ i = 2 := by omega
    rcases hi3 with rfl | rfl | rfl <;> rfl)
  have hbw := ((HBX.out.setCell (p := ⟨k5, 0, none⟩) (by simp; have := HQW.out; omega) (.int .i64 (X2))).setCell (p := ⟨k5, 1, none⟩) (by simp; have := HQW.out; omega) (.int .i64 (Y2))).setCell (p := ⟨k5, 2, none⟩) (by simp; have := HQW.out; omega) (.slice A4 nt C4)
  generalize ((W6.setCell ⟨k5, 0, none⟩ (.int .i64 (X2))).setCell ⟨k5, 1, none⟩ (.int .i64 (Y2))).setCell ⟨k5, 2, none⟩ (.slice A4 nt C4) = W7 at *
  clear q0 q1 q2 r0 r1 r2 f0 f1 f2 HQX H5X H7X HBX hX HX4
  refine (HT2.out _ (HA.out.below hbw)).mono ?_
  rintro r wx ⟨A5, C5, rfl, hT, hb⟩
  obtain ⟨E5, d5, rfl⟩ := bExt hb
  have HX5 := Lib.hid hT
  have HX4 := Lib.hid (HX4'.out.below hb)
  have hqx := rowBelow hq hb hq.lt
  have h5x := rowBelow h5 hb h5.lt
  have h7x := rowBelow h7 hb h7.lt
  have hbwx := hbw.trans (hb.mono hbw.size)
  clear hb hT hq h5 h7 hbw HX4'
  generalize extW W7 E5 d5 = W8 at *
  have hX := (((BelowX.refl (base := W8.heap.size) (mb := k7) (W := W8) (Nat.le_refl _)).set 0 (.int .i64 (X2))).set 1 (.int .i64 (Y2))).set 2 (.slice A5 nt C5)
  have HY4 := Lib.hid (HX4.out.over h7x hX)
  have HY5 := Lib.hid (HX5.out.over h7x hX)
  have HQY := Lib.hid (hX.rowIs hqx hqx.lt (by omega))
  have HBY := Lib.hid (((hbwx.setCell (p := ⟨k7, 0, none⟩) (by simp; have := HQW.out; omega) (.int .i64 (X2))).setCell (p := ⟨k7, 1, none⟩) (by simp; have := HQW.out; omega) (.int .i64 (Y2))).setCell (p := ⟨k7, 2, none⟩) (by simp; have := HQW.out; omega) (.slice A5 nt C5))
  have q0 : W8.cell? ⟨k5, 0, none⟩ = some (.int .i64 (X2)) := h5x.cell (i := 0) (by omega)
  have q1 : W8.cell? ⟨k5, 1, none⟩ = some (.int .i64 (Y2)) := h5x.cell (i := 1) (by omega)
  have q2 : W8.cell? ⟨k5, 2, none⟩ = some (.slice A4 nt C4) := h5x.cell (i := 2) (by omega)
  have r0 : W8.cell? ⟨k7, 0, none⟩ = some (.int .i64 (X)) := h7x.cell (i := 0) (by omega)
  have r1 : W8.cell? ⟨k7, 1, none⟩ = some (.int .i64 (Y)) := h7x.cell (i := 1) (by omega)
  have r2 : W8.cell? ⟨k7, 2, none⟩ = some (.slice A2 np C2) := h7x.cell (i := 2) (by omega)
  have f0 := h7x.frozen 0; have f1 := h7x.frozen 1; have f2 := h7x.frozen 2
  have n57 : ¬ k5 = k7 := by omega
  have n75 : ¬ k7 = k5 := by omega
  clear hqx h5x h7x hbwx hX HX4 HX5
  go_wp2_with fail
  generalize ((W8.setCell ⟨k7, 0, none⟩ (.int .i64 (X2))).setCell ⟨k7, 1, none⟩ (.int .i64 (Y2))).setCell ⟨k7, 2, none⟩ (.slice A5 nt C5) = W9 at *
  clear q0 q1 q2 r0 r1 r2 f0 f1 f2 nq nq' n57 n75
  refine (Same_any X2 Y2 A4 nt C4 Lt X2 Y2 A5 nt C5 Lt _ HY4.out.bits HY5.out.bits hnt hnt).mono ?_
  rw [decide_eq_true (p := (X2 = X2 ∧ Y2 = Y2 ∧ Lt = Lt)) ⟨rfl, rfl, rfl⟩]
  rintro r wx ⟨rfl, hb⟩
  have hq := rowBelow HQY.out hb HQY.out.lt
  have hbw := HBY.out.trans (hb.mono HBY.out.size)
  clear hb
  generalize wx = W10 at *
  have q0 : W10.cell? ⟨q, 0, none⟩ = some (.int .i64 (W1)) := hq.cell (i := 0) (by omega)
  have q1 : W10.cell? ⟨q, 1, none⟩ = some (.int .i64 (H1)) := hq.cell (i := 1) (by omega)
  have q2 : W10.cell? ⟨q, 2, none⟩ = some (.slice a1 n1 c1) := hq.cell (i := 2) (by omega)
  have lq : LtW q W10 := hq.lt
  have HA10 := Lib.hid (HA.out.below hbw)
  have HBW := Lib.hid hbw
  clear hq hbw
  go_wp2_with fail
  refine (HL1.out _ (HA10.out.below (by repeat (first | exact Below.refl _ _ | refine Below.drew ?_ | refine below_drewN ?_ _ | refine Below.alloc ?_ (by first | exact Nat.le_refl _ | (simp; done) | (simp; omega) | omega) _ | refine Below.setCell ?_ (by first | exact Nat.le_refl _ | (simp; done) | (simp; omega) | omega) _ | refine bExtW ?_ (by first | exact Nat.le_refl _ | (simp; done) | (simp; omega) | omega) | refine Below.trans ?_ (Below.mono (by assumption) (by first | exact Nat.le_refl _ | (simp; done) | (simp; omega) | omega)))))).mono ?_
  rintro r wx ⟨A7, C7, rfl, hT, hb⟩
  obtain ⟨E7, d7, rfl⟩ := bExt hb
  have HX7 := Lib.hid hT
  clear hb hT
  go_wp2_with fail
  refine (HL2.out _ (HA10.out.below (by repeat (first | exact Below.refl _ _ | refine Below.drew ?_ | refine below_drewN ?_ _ | refine Below.alloc ?_ (by first | exact Nat.le_refl _ | (simp; done) | (simp; omega) | omega) _ | refine Below.setCell ?_ (by first | exact Nat.le_refl _ | (simp; done) | (simp; omega) | omega) _ | refine bExtW ?_ (by first | exact Nat.le_refl _ | (simp; done) | (simp; omega) | omega) | refine Below.trans ?_ (Below.mono (by assumption) (by first | exact Nat.le_refl _ | (simp; done) | (simp; omega) | omega)))))).mono ?_
  rintro r wx ⟨A8, C8, rfl, hT, hb⟩
  obtain ⟨E8, d8, rfl⟩ := bExt hb
  have HX8 := Lib.hid hT
  clear hb hT
  go_wp2_with fail
  refine (SameNumbers_any A7 nl C7 Ll A8 nl C8 Ll _ (HX7.out.below (by repeat (first | exact Below.refl _ _ | refine Below.drew ?_ | refine below_drewN ?_ _ | refine Below.alloc ?_ (by first | exact Nat.le_refl _ | (simp; done) | (simp; omega) | omega) _ | refine Below.setCell ?_ (by first | exact Nat.le_refl _ | (simp; done) | (simp; omega) | omega) _ | refine bExtW ?_ (by first | exact Nat.le_refl _ | (simp; done) | (simp; omega) | omega) | refine Below.trans ?_ (Below.mono (by assumption) (by first | exact Nat.le_refl _ | (simp; done) | (simp; omega) | omega))))) (HX8.out.below (by repeat (first | exact Below.refl _ _ | refine Below.drew ?_ | refine below_drewN ?_ _ | refine Below.alloc ?_ (by first | exact Nat.le_refl _ | (simp; done) | (simp; omega) | omega) _ | refine Below.setCell ?_ (by first | exact Nat.le_refl _ | (simp; done) | (simp; omega) | omega) _ | refine bExtW ?_ (by first | exact Nat.le_refl _ | (simp; done) | (simp; omega) | omega) | refine Below.trans ?_ (Below.mono (by assumption) (by first | exact Nat.le_refl _ | (simp; done) | (simp; omega) | omega))))) hnl hnl).mono ?_
  rw [decide_eq_true (p := (Ll = Ll)) rfl]
  rintro r wx ⟨rfl, hb⟩
  obtain ⟨E9, d9, rfl⟩ := bExt hb
  clear hb
  (go_wp2_with fail; refine (HF1.out _ (HA10.out.below (by repeat (first | exact Below.refl _ _ | refine Below.drew ?_ | refine below_drewN ?_ _ | refine Below.alloc ?_ (by first | exact Nat.le_refl _ | (simp; done) | (simp; omega) | omega) _ | refine Below.setCell ?_ (by first | exact Nat.le_refl _ | (simp; done) | (simp; omega) | omega) _ | refine bExtW ?_ (by first | exact Nat.le_refl _ | (simp; done) | (simp; omega) | omega) | refine Below.trans ?_ (Below.mono (by assumption) (by first | exact Nat.le_refl _ | (simp; done) | (simp; omega) | omega)))))).mono ?_; rintro r w1 ⟨rfl, hb⟩; obtain ⟨E, d, rfl⟩ := bExt hb; clear hb)
  (go_wp2_with fail; refine (HF2.out _ (HA10.out.below (by repeat (first | exact Below.refl _ _ | refine Below.drew ?_ | refine below_drewN ?_ _ | refine Below.alloc ?_ (by first | exact Nat.le_refl _ | (simp; done) | (simp; omega) | omega) _ | refine Below.setCell ?_ (by first | exact Nat.le_refl _ | (simp; done) | (simp; omega) | omega) _ | refine bExtW ?_ (by first | exact Nat.le_refl _ | (simp; done) | (simp; omega) | omega) | refine Below.trans ?_ (Below.mono (by assumption) (by first | exact Nat.le_refl _ | (simp; done) | (simp; omega) | omega)))))).mono ?_; rintro r w1 ⟨rfl, hb⟩; obtain ⟨E, d, rfl⟩ := bExt hb; clear hb)
  go_wp2
  go_ret
  exact ⟨rfl, HBW.out.trans ((show Below W10.heap.size W10 _ from (by repeat (first | exact Below.refl _ _ | refine Below.drew ?_ | refine below_drewN ?_ _ | refine Below.alloc ?_ (by first | exact Nat.le_refl _ | (simp; done) | (simp; omega) | omega) _ | refine Below.setCell ?_ (by first | exact Nat.le_refl _ | (simp; done) | (simp; omega) | omega) _ | refine bExtW ?_ (by first | exact Nat.le_refl _ | (simp; done) | (simp; omega) | omega) | refine Below.trans ?_ (Below.mono (by assumption) (by first | exact Nat.le_refl _ | (simp; done) | (simp; omega) | omega))))).mono HBW.out.size)⟩
end Go.Proofs.Ytikddfjickkhhaa
