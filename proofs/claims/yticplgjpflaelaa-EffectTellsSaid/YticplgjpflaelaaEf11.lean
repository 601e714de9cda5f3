/- Lemmas and contracts of functions (what each call returns, and that it changes nothing that was there) that the proof of a law of this seat uses; each lemma states its own conditions. -/
import Derived.Test.YticplgjpflaelaaEf2
import Derived.Test.YticplgjpflaelaaEf6
import Derived.Test.YticplgjpflaelaaEfF
namespace Go.Proofs.Yticplgjpflaelaa
open Go.RowKit
set_option linter.unusedVariables false
set_option linter.unusedSimpArgs false
open Ef
/-- Two lists that are written in place. -/
structure FW (base ga gb ca cb W H : Nat) (W1 : World) (E P : List Int) (w : World) : Prop where
  e : w.ownsRow base 3 1 (.slice (some ⟨ga, 0, none⟩) W ca) W (E.map i64v)
  p : w.ownsRow base 3 1 (.slice (some ⟨gb, 0, none⟩) H cb) H (P.map i64v)
  bel : Below base W1 w
theorem FW.grow {base ga gb ca cb W H : Nat} {W1 w w' : World} {E P : List Int} (h : FW base ga gb ca cb W H W1 E P w) (hs : base ≤ w.heap.size) (hb : Below w.heap.size w w') : FW base ga gb ca cb W H W1 E P w' :=
  ⟨ownBelow h.e hb, ownBelow h.p hb, h.bel.trans (hb.mono hs)⟩
theorem FW.setE {base ga gb ca cb W H i : Nat} {W1 w : World} {E P : List Int} {v : Int} (h : FW base ga gb ca cb W H W1 E P w) (hne : ga ≠ gb) (hi : i < W) : FW base ga gb ca cb W H W1 (E.set i v) P (w.setCell ⟨ga, i, none⟩ (.int .i64 v)) :=
  ⟨by rw [map_set]; exact own_set h.e hi, own_other h.p (by simpa using fun e => hne e.symm), h.bel.setCell (by have := own_parts h.e; simp; omega) _⟩
theorem FW.setP {base ga gb ca cb W H i : Nat} {W1 w : World} {E P : List Int} {v : Int} (h : FW base ga gb ca cb W H W1 E P w) (hne : ga ≠ gb) (hi : i < H) : FW base ga gb ca cb W H W1 E (P.set i v) (w.setCell ⟨gb, i, none⟩ (.int .i64 v)) :=
  ⟨own_other h.e (by simpa using hne), by rw [map_set]; exact own_set h.p hi, h.bel.setCell (by have := own_parts h.p; simp; omega) _⟩
def boolN : Value → Nat
  | .bool true => 1
  | _ => 0
def neg2 (E P : List Int) (W H : Nat) : Nat := cnt E W + cnt P H
theorem FW.len {base ga gb ca cb W H : Nat} {W1 w : World} {E P : List Int} (h : FW base ga gb ca cb W H W1 E P w) : E.length = W ∧ P.length = H := by
  have h1 := (own_parts h.e).1; have h2 := (own_parts h.p).1
  simpa using And.intro h1 h2
theorem FW.cnt {base ga gb ca cb W H : Nat} {W1 w : World} {E P : List Int} (h : FW base ga gb ca cb W H W1 E P w) : wcnt w ga W + wcnt w gb H = neg2 E P W H := by
  obtain ⟨h1, h2⟩ := h.len
  rw [wcnt_eq h1 h.e, wcnt_eq h2 h.p]; rfl
theorem neg_setE {E P : List Int} {W H i : Nat} {v : Int} (hi : i < W) (hl : E.length = W) (h0 : E.getD i 0 < 0) (hv : 0 ≤ v) : neg2 (E.set i v) P W H < neg2 E P W H := by
  have h1 : g E i < 0 := by unfold g; rw [List.getD_eq_getElem?_getD, List.getElem?_eq_getElem (by omega)]; rw [List.getD_eq_getElem?_getD, List.getElem?_eq_getElem (by omega)] at h0; exact h0
  have := cnt_set hi hl h1 hv
  unfold neg2; omega
theorem neg_setP {E P : List Int} {W H i : Nat} {v : Int} (hi : i < H) (hl : P.length = H) (h0 : P.getD i 0 < 0) (hv : 0 ≤ v) : neg2 E (P.set i v) W H < neg2 E P W H := by
  have h1 : g P i < 0 := by unfold g; rw [List.getD_eq_getElem?_getD, List.getElem?_eq_getElem (by omega)]; rw [List.getD_eq_getElem?_getD, List.getElem?_eq_getElem (by omega)] at h0; exact h0
  have := cnt_set hi hl h1 hv
  unfold neg2; omega
theorem own_int {w : World} {base n c gb i : Nat} {L : List Int} (h : w.ownsRow base 3 1 (.slice (some ⟨gb, 0, none⟩) n c) n (L.map i64v)) (hl : L.length = n) (hi : i < n) : w.cell? ⟨gb, i, none⟩ = some (.int .i64 (L.getD i 0)) := by
  rw [(own_cell h hi).1, List.getElem?_map, List.getElem?_eq_getElem (by omega)]
  simp [List.getD, show i < L.length by omega, i64v]
def FolPost (W H : Nat) (cs E P : List Int) (w : World) (r : Ending) (w' : World) : Prop :=
  ((Never W cs (E ++ P) ∧ r = .returned (.tuple #[.slice none 0 0, .slice none 0 0, .bool false])) ∨
   (∃ E' P' A C B D, Least W cs (E ++ P) (E' ++ P') ∧ E'.length = W ∧ P'.length = H ∧ r = .returned (.tuple #[.slice A W C, .slice B H D, .bool true]) ∧ IsInts w' A W E' ∧ IsInts w' B H P')) ∧ Below w.heap.size w w'
/-- How far a sweep is: nothing changed, or something has. -/
structure SwI (W H : Nat) (cs E0 P0 E1 P1 : List Int) (b : Bool) (E P : List Int) (y x : Nat) : Prop where
  inv : FInv W cs (E0 ++ P0) (E ++ P)
  no : b = false → neg2 E P W H = neg2 E1 P1 W H ∧ swept W cs E P y x
  yes : b = true → neg2 E P W H < neg2 E1 P1 W H
theorem SwI.skip {W H y x : Nat} {cs E0 P0 E1 P1 E P : List Int} {b : Bool} (h : SwI W H cs E0 P0 E1 P1 b E P y x) (hx : E.getD x 0 = cs.getD (y * W + x) 0 ∨ P.getD y 0 = cs.getD (y * W + x) 0 ∨ (E.getD x 0 < 0 ∧ P.getD y 0 < 0)) : SwI W H cs E0 P0 E1 P1 b E P y (x + 1) :=
  ⟨h.inv, fun e => ⟨(h.no e).1, (h.no e).2.next hx⟩, h.yes⟩
theorem SwI.row {W H y : Nat} {cs E0 P0 E1 P1 E P : List Int} {b : Bool} (h : SwI W H cs E0 P0 E1 P1 b E P y W) : SwI W H cs E0 P0 E1 P1 b E P (y + 1) 0 :=
  ⟨h.inv, fun e => ⟨(h.no e).1, (h.no e).2.row⟩, h.yes⟩
theorem SwI.le {W H y x : Nat} {cs E0 P0 E1 P1 E P : List Int} {b : Bool} (h : SwI W H cs E0 P0 E1 P1 b E P y x) : neg2 E P W H ≤ neg2 E1 P1 W H := by
  cases b with
  | true => exact Nat.le_of_lt (h.yes rfl)
  | false => exact Nat.le_of_eq (h.no rfl).1
theorem SwI.setE {W H y x : Nat} {cs E0 P0 E1 P1 E P : List Int} {b : Bool} {v : Int} (h : SwI W H cs E0 P0 E1 P1 b E P y x) (hE : E.length = W) (hP : P.length = H) (hx : x < W) (hy : y < H) (hv : cs.getD (y * W + x) 0 = v) (h0 : E.getD x 0 < 0) (h1 : 0 ≤ P.getD y 0) (h2 : P.getD y 0 ≠ v) (v0 : 0 ≤ v) (v1 : v < 62) : SwI W H cs E0 P0 E1 P1 true (E.set x v) P y (x + 1) := by
  refine ⟨?_, fun e => (by cases e), fun _ => Nat.lt_of_lt_of_le (neg_setE hx hE h0 v0) h.le⟩
  have := h.inv.step (i := x) (j := W + y) (v := v) (by rw [List.length_append]; omega) (by rw [List.length_append]; omega) (by rw [crs_symm, crs_xy W cs y hx, hv]) (by rw [g_right hE (by omega)]; exact h1) (by rw [g_left (by omega)]; exact h0) (by rw [g_right hE (by omega)]; exact h2) v0 v1
  rwa [set_left (by omega)] at this
theorem SwI.setP {W H y x : Nat} {cs E0 P0 E1 P1 E P : List Int} {b : Bool} {v : Int} (h : SwI W H cs E0 P0 E1 P1 b E P y x) (hE : E.length = W) (hP : P.length = H) (hx : x < W) (hy : y < H) (hv : cs.getD (y * W + x) 0 = v) (h0 : P.getD y 0 < 0) (h1 : 0 ≤ E.getD x 0) (h2 : E.getD x 0 ≠ v) (v0 : 0 ≤ v) (v1 : v < 62) : SwI W H cs E0 P0 E1 P1 true E (P.set y v) y (x + 1) := by
  refine ⟨?_, fun e => (by cases e), fun _ => Nat.lt_of_lt_of_le (neg_setP hy hP h0 v0) h.le⟩
  have := h.inv.step (i := W + y) (j := x) (v := v) (by rw [List.length_append]; omega) (by rw [List.length_append]; omega) (by rw [crs_xy W cs y hx, hv]) (by rw [g_left (by omega)]; exact h1) (by rw [g_right hE (by omega)]; exact h0) (by rw [g_left (by omega)]; exact h2) v0 v1
  rwa [set_right hE] at this
theorem SwI.never {W H y x : Nat} {cs E0 P0 E1 P1 E P : List Int} {b : Bool} (h : SwI W H cs E0 P0 E1 P1 b E P y x) (hE : E.length = W) (hP : P.length = H) (hx : x < W) (hy : y < H) (h0 : 0 ≤ E.getD x 0) (h1 : 0 ≤ P.getD y 0) (h2 : E.getD x 0 ≠ cs.getD (y * W + x) 0) (h3 : P.getD y 0 ≠ cs.getD (y * W + x) 0) : Never W cs (E0 ++ P0) := by
  refine h.inv.conflict (i := x) (j := W + y) (by rw [List.length_append]; omega) (by rw [List.length_append]; omega) (crs_xy W cs y hx) ?_ ?_ ?_ ?_
  · rw [g_left (by omega)]; exact h0
  · rw [g_right hE (by omega)]; exact h1
  · rw [g_left (by omega)]; exact h2
  · rw [g_right hE (by omega)]; exact h3
set_option maxRecDepth 100000 in
set_option maxHeartbeats 8000000 in
theorem Follows_any (W H n : Nat) (a : Option Addr) (c : Nat) (cs : List Int) (ea : Option Addr) (ec : Nat) (E0 : List Int) (pa : Option Addr) (pc : Nat) (P0 : List Int) (w : World) (hI : IsInts w a n cs) (hE : IsInts w ea W E0) (hP : IsInts w pa H P0) (hW : W ≤ 64) (hH : H ≤ 64) (hW1 : 1 ≤ W) (hH1 : 1 ≤ H) (hn : n = W * H) (hCR : CR cs) (hg : Ef.Good (E0 ++ P0)) :
    Calls Try.prog 71 #[.agg #[.int .i64 (4), .int .i64 (W), .int .i64 (H), .slice a n c], .slice ea W ec, .slice pa H pc] w (FolPost W H cs E0 P0 w) := by
  have hn4 : n ≤ 4096 := by rw [hn]; exact Nat.mul_le_mul hW hH
  obtain ⟨be, oe, ee, _, _⟩ := hE.2 (by omega)
  obtain ⟨bp, op, ep, _, _⟩ := hP.2 (by omega)
  have ze : ea = none → ec = 0 := fun e => by rw [ee] at e; cases e
  have zp : pa = none → pc = 0 := fun e => by rw [ep] at e; cases e
  have HI := Lib.hid hI; have HE := Lib.hid hE; have HP := Lib.hid hP; have HN := Lib.hid hn; have HCR := Lib.hid hCR; have HG := Lib.hid hg
  clear hI hE hP hn hCR hg ee ep
  go_enter Try.func71, Try.ntmps71
  have hq := chG_alloc w 4 W H (.slice a n c)
  have hb1 : Below w.heap.size w (w.alloc (.cells #[.int .i64 (4), .int .i64 (W), .int .i64 (H), .slice a n c] 50)) := (by repeat (first | exact Below.refl _ _ | refine Below.drew ?_ | refine below_drewN ?_ _ | refine Below.alloc ?_ (by first | exact Nat.le_refl _ | (simp; done) | (simp; omega) | omega) _ | refine Below.setCell ?_ (by first | exact Nat.le_refl _ | (simp; done) | (simp; omega) | omega) _ | refine bExtW ?_ (by first | exact Nat.le_refl _ | (simp; done) | (simp; omega) | omega) | refine Below.trans ?_ (Below.mono (by assumption) (by first | exact Nat.le_refl _ | (simp; done) | (simp; omega) | omega))))
  have HE1 := Lib.hid (HE.out.below hb1); have HP1 := Lib.hid (HP.out.below hb1); have HI1 := Lib.hid (HI.out.below hb1)
  have HQ := Lib.hid hq; have HB1 := Lib.hid hb1
  clear hq hb1 HE HP HI
  go_upto_region 1 with fail
  have HQL := Lib.hid (World.size_alloc w (.cells #[.int .i64 (4), .int .i64 (W), .int .i64 (H), .slice a n c] 50))
  generalize w.alloc (.cells #[.int .i64 (4), .int .i64 (W), .int .i64 (H), .slice a n c] 50) = W1 at *
  obtain ⟨q, hqe⟩ : ∃ q, w.heap.size = q := ⟨_, rfl⟩
  have HQE := Lib.hid hqe
  rw [hqe] at HQ HB1 HQL ⊢
  obtain ⟨base, hbase⟩ : ∃ b, W1.heap.size = b := ⟨_, rfl⟩
  have hqb : q < base := by have := HQL.out; omega
  have HBA := Lib.hid hbase
  clear hqe
  have hown1 := owns_empty W1 base (by omega)
  rw [hbase] at hown1
  have hb2 : Below W1.heap.size W1 (W1.alloc (.cells #[] 3)) := (by repeat (first | exact Below.refl _ _ | refine Below.drew ?_ | refine below_drewN ?_ _ | refine Below.alloc ?_ (by first | exact Nat.le_refl _ | (simp; done) | (simp; omega) | omega) _ | refine Below.setCell ?_ (by first | exact Nat.le_refl _ | (simp; done) | (simp; omega) | omega) _ | refine bExtW ?_ (by first | exact Nat.le_refl _ | (simp; done) | (simp; omega) | omega) | refine Below.trans ?_ (Below.mono (by assumption) (by first | exact Nat.le_refl _ | (simp; done) | (simp; omega) | omega))))
  go_wp2_with (at_builtin; go_loud (refine wpAppV okI8 rfl (.tmp 13) (.tmp 14) rfl base _ 0 [] ea W ec (E0.map i64v) rfl hown1 rfl ze (by rw [List.length_map, HE1.out.1]) (ints_cells (HE1.out.below hb2)) (ints_one E0) (by omega) (by omega) (by rw [← hbase]; exact hb2.size) ?_))
  intro v1 w2 hown2 hg2 hat2
  have hown2 : w2.ownsRow base 3 1 v1 W (E0.map i64v) := by simpa using hown2
  obtain ⟨ga, ca, rfl⟩ := own_some hown2 (by omega)
  have hs2 : base + 1 ≤ w2.heap.size := by
    have h1 := hg2.size
    have h2 := World.size_alloc W1 (.cells #[] 3)
    omega
  have hbel2 : Below base W1 w2 := Below.trans (hb2.mono (by omega)) (belowGrown hg2 (by have := World.size_alloc W1 (.cells #[] 3); omega) (fun k hk => by cases hk; exact Nat.le_refl _))
  have hgl := own_lt hown2
  clear hg2 hat2 hown1 hb2
  have hown3 := owns_empty w2 base (by omega)
  have hb3 : Below w2.heap.size w2 (w2.alloc (.cells #[] 3)) := (by repeat (first | exact Below.refl _ _ | refine Below.drew ?_ | refine below_drewN ?_ _ | refine Below.alloc ?_ (by first | exact Nat.le_refl _ | (simp; done) | (simp; omega) | omega) _ | refine Below.setCell ?_ (by first | exact Nat.le_refl _ | (simp; done) | (simp; omega) | omega) _ | refine bExtW ?_ (by first | exact Nat.le_refl _ | (simp; done) | (simp; omega) | omega) | refine Below.trans ?_ (Below.mono (by assumption) (by first | exact Nat.le_refl _ | (simp; done) | (simp; omega) | omega))))
  have hownE := ownBelow hown2 hb3
  have hPx := HP1.out.below (by rw [hbase]; exact hbel2.trans (hb3.mono (by omega)))
  clear hown2
  go_wp2_with (at_builtin; go_loud (refine wpAppV okI8 rfl (.tmp 16) (.tmp 17) rfl base _ 0 [] pa H pc (P0.map i64v) rfl hown3 rfl zp (by rw [List.length_map, HP1.out.1]) (ints_cells hPx) (ints_one P0) (by omega) (by omega) (by have := hb3.size; omega) ?_))
  intro v2 w4 hown4 hg4 hat4
  have hown4 : w4.ownsRow base 3 1 v2 H (P0.map i64v) := by simpa using hown4
  obtain ⟨gb, cb, rfl⟩ := own_some hown4 (by omega)
  have hne : ga ≠ gb := by
    have h2 := World.size_alloc w2 (.cells #[] 3)
    rcases hat4 with h | h
    · have h3 : some gb = some w2.heap.size := h
      injection h3 with h3
      omega
    · have h3 : some gb = some (w2.heap.size + 1) := h
      injection h3 with h3
      omega
  have hFW : FW base ga gb ca cb W H W1 E0 P0 w4 := by
    refine ⟨own_keep hownE (hg4.block ga (by have := hb3.size; omega) (fun e => by have e2 : some ga = some w2.heap.size := e; injection e2 with e2; omega)), hown4, ?_⟩
    exact hbel2.trans ((hb3.mono (by omega)).trans (belowGrown hg4 (by have := hb3.size; omega) (fun k hk => by have e2 : some w2.heap.size = some k := hk; injection e2 with e2; omega)))
  have HFW := Lib.hid hFW
  have hs4 : base ≤ w4.heap.size := by rw [← hbase]; exact hFW.bel.size
  have HNE := Lib.hid hne
  have HL0 := Lib.hid hFW.len
  clear hown3 hb3 hownE hPx hown4 hg4 hat4 hFW hbel2 hgl hs2 hne
  go_upto_region 3 with fail
  go_loopw [9] (fun ag wr => ∃ (b : Bool) (E P : List Int), ag = .bool b ∧ FW base ga gb ca cb W H W1 E P wr ∧ Hid (FInv W cs (E0 ++ P0) (E ++ P)) ∧ Hid (b = false → swept W cs E P H 0)) (fun ag wr => 2 * (wcnt wr ga W + wcnt wr gb H) + boolN ag)
  case atStart => exact ⟨true, E0, P0, rfl, HFW.out, Lib.hid (FInv.start HG.out), Lib.hid fun h => by cases h⟩
  case round =>
    obtain ⟨b, E1, P1, rfl, hfw, HFI, HSW⟩ := hrel
    have HF1 := Lib.hid hfw
    clear hfw HFW
    cases b with
    | false =>
      have HLE := Lib.hid (swept.done HFI.out HF1.out.len.1 HF1.out.len.2 (HSW.out rfl))
      clear HFI HSW
      go_wp2
      refine bodyPost_ret (v := .tuple #[.slice (some ⟨ga, 0, none⟩) W ca, .slice (some ⟨gb, 0, none⟩) H cb, .bool true]) (by simp [results, Try.results71, go_sem]) rfl ?_
      refine ⟨.inr ⟨E1, P1, _, _, _, _, HLE.out, HF1.out.len.1, HF1.out.len.2, rfl, ints_of_own HF1.out.e, ints_of_own HF1.out.p⟩, ?_⟩
      rw [HQE.out]
      exact HB1.out.trans (HF1.out.bel.mono (by omega))
    | true =>
      clear HSW
      obtain ⟨N1, hN1⟩ : ∃ N1, neg2 E1 P1 W H = N1 := ⟨_, rfl⟩
      have HN1 := Lib.hid hN1
      have HM1 : Hid (wcnt wr ga W + wcnt wr gb H = N1) := Lib.hid (HF1.out.cnt.trans hN1)
      clear hN1
      go_upto_region 6 with fail
      obtain ⟨wo, hwo⟩ : ∃ wo : World, wo = wr := ⟨_, rfl⟩
      subst hwo
      go_loopw [9, 10] (fun ag yv wr => ∃ (b : Bool) (y : Nat) (E P : List Int), y ≤ H ∧ ag = .bool b ∧ yv = .int .i64 y ∧ FW base ga gb ca cb W H W1 E P wr ∧ Hid (SwI W H cs E0 P0 E1 P1 b E P y 0)) (fun _ yv _ => H - (intOf yv).toNat)
      case atStart => exact ⟨false, 0, E1, P1, by omega, rfl, rfl, HF1.out, Lib.hid ⟨HFI.out, fun _ => ⟨rfl, swept.zero _ _ _ _⟩, fun h => by cases h⟩⟩
      case round =>
        obtain ⟨b, y, E2, P2, hy, rfl, rfl, hfw, HS⟩ := hrel
        have HF2 := Lib.hid hfw
        have hqr := rowBelow HQ.out hfw.bel hqb
        have c1 : wr.cell? ⟨q, 1, none⟩ = some (.int .i64 (W)) := hqr.cell (i := 1) (by omega)
        have c2 : wr.cell? ⟨q, 2, none⟩ = some (.int .i64 (H)) := hqr.cell (i := 2) (by omega)
        have lq : LtW q wr := hqr.lt
        clear hqr hfw
        by_cases hyH : y < H
        · go_upto_region 9 with fail
          obtain ⟨wo2, hwo2⟩ : ∃ wo2 : World, wo2 = wr := ⟨_, rfl⟩
          subst hwo2
          clear c1 c2 lq
          go_loopw [9, 11] (fun ag xv wr => ∃ (b : Bool) (x : Nat) (E P : List Int), x ≤ W ∧ ag = .bool b ∧ xv = .int .i64 x ∧ FW base ga gb ca cb W H W1 E P wr ∧ Hid (SwI W H cs E0 P0 E1 P1 b E P y x)) (fun _ xv _ => W - (intOf xv).toNat)
          case atStart => exact ⟨b, 0, E2, P2, by omega, rfl, rfl, HF2.out, HS⟩
          case round =>
            obtain ⟨b3, x, E, P, hx, rfl, rfl, hfw, HS3⟩ := hrel
            have HF := Lib.hid hfw
            have hqr := rowBelow HQ.out hfw.bel hqb
            have c1 : wr.cell? ⟨q, 1, none⟩ = some (.int .i64 (W)) := hqr.cell (i := 1) (by omega)
            have c2 : wr.cell? ⟨q, 2, none⟩ = some (.int .i64 (H)) := hqr.cell (i := 2) (by omega)
            have c3 : wr.cell? ⟨q, 3, none⟩ = some (.slice a n c) := hqr.cell (i := 3) (by omega)
            have lq : LtW q wr := hqr.lt
            have hlen := hfw.len
            have hbl := hfw.bel
            have hge := own_lt hfw.e; have hgp := own_lt hfw.p
            clear hqr
            by_cases hxW : x < W
            · have e1 := own_int hfw.e hlen.1 hxW
              have e2 := own_int hfw.p hlen.2 hyH
              have f1 := (own_cell hfw.e hxW).2
              have f2 := (own_cell hfw.p hyH).2
              have la : LtW ga wr := hge
              have lb : LtW gb wr := hgp
              obtain ⟨p, hp⟩ : ∃ p, y * W + x = p := ⟨_, rfl⟩
              have hlt : p < n := by
                have h1 : (y + 1) * W ≤ H * W := Nat.mul_le_mul_right W (by omega)
                have h2 : (y + 1) * W = y * W + W := Nat.succ_mul y W
                rw [HN.out, Nat.mul_comm W H]; omega
              have hpi : (y : Int) * (W : Int) + (x : Int) = (p : Int) := by rw [← hp]; push_cast; rfl
              obtain ⟨M, hM⟩ : ∃ M, y * W = M := ⟨_, rfl⟩
              have hMi : (y : Int) * (W : Int) = (M : Int) := by rw [← hM]; push_cast; rfl
              have hMp : (M : Int) + (x : Int) = (p : Int) := by rw [← hMi]; exact hpi
              obtain ⟨bc, oc, rfl, hbc, hcc⟩ := (HI1.out.below (by rw [hbase]; exact hbl)).2 (by omega)
              have ec := hcc p hlt
              have lc : LtW bc wr := hbc
              obtain ⟨v, hv⟩ : ∃ v, cs.getD p 0 = v := ⟨_, rfl⟩
              have hv2 : 0 ≤ v ∧ v < 62 := by
                rw [← hv]
                have hpl : p < cs.length := by rw [HI1.out.1]; exact hlt
                rw [List.getD_eq_getElem?_getD, List.getElem?_eq_getElem hpl]
                exact HCR.out _ (List.getElem_mem hpl)
              have HV : Hid (cs.getD (y * W + x) 0 = v) := Lib.hid (by rw [hp]; exact hv)
              rw [hv] at ec
              obtain ⟨ex, hex⟩ : ∃ ex, E.getD x 0 = ex := ⟨_, rfl⟩
              obtain ⟨py, hpy⟩ : ∃ py, P.getD y 0 = py := ⟨_, rfl⟩
              have HEX := Lib.hid hex; have HPY := Lib.hid hpy
              rw [hex] at e1
              rw [hpy] at e2
              clear hfw hp hpi hM hbc hcc hv hex hpy hbl hge hgp
              by_cases c_e : ex = v
              · have t1 : (ex == v) = true := by simpa using c_e
                have HSX := Lib.hid (HS3.out.skip (.inl (by rw [HEX.out, HV.out]; exact c_e)))
                clear c_e
                go_wp2
                go_roundw
                case rel => exact ⟨b3, x + 1, E, P, by omega, rfl, by go_num, HF.out, HSX⟩
                case measure => simp [intOf]; omega
              · have t1 : (ex == v) = false := by simpa using c_e
                by_cases c_p : py = v
                · have t2 : (py == v) = true := by simpa using c_p
                  have HSX := Lib.hid (HS3.out.skip (.inr (.inl (by rw [HPY.out, HV.out]; exact c_p))))
                  clear c_e c_p
                  go_wp2
                  go_roundw
                  case rel => exact ⟨b3, x + 1, E, P, by omega, rfl, by go_num, HF.out, HSX⟩
                  case measure => simp [intOf]; omega
                · have t2 : (py == v) = false := by simpa using c_p
                  by_cases z_e : 0 ≤ ex
                  · have t3 : decide (0 ≤ ex) = true := by simpa using z_e
                    by_cases z_p : 0 ≤ py
                    · have t4 : decide (0 ≤ py) = true := by simpa using z_p
                      have HNV := Lib.hid (HS3.out.never hlen.1 hlen.2 hxW hyH (by rw [HEX.out]; exact z_e) (by rw [HPY.out]; exact z_p) (by rw [HEX.out, HV.out]; exact c_e) (by rw [HPY.out, HV.out]; exact c_p))
                      clear c_e c_p z_e z_p
                      go_wp2
                      refine bodyPost_ret (v := .tuple #[.slice none 0 0, .slice none 0 0, .bool false]) (by simp [results, Try.results71, go_sem]) rfl ?_
                      refine ⟨.inl ⟨HNV.out, rfl⟩, ?_⟩
                      rw [HQE.out]
                      exact HB1.out.trans (HF.out.bel.mono (by omega))
                    · have t4 : decide (0 ≤ py) = false := by simpa using z_p
                      have HSX := Lib.hid (HS3.out.setP hlen.1 hlen.2 hxW hyH HV.out (by rw [HPY.out]; omega) (by rw [HEX.out]; exact z_e) (by rw [HEX.out]; exact c_e) hv2.1 hv2.2)
                      clear c_e c_p z_e z_p
                      go_wp2
                      go_roundw
                      case rel => exact ⟨true, x + 1, E, P.set y v, by omega, rfl, by go_num, HF.out.setP HNE.out hyH, HSX⟩
                      case measure => simp [intOf]; omega
                  · have t3 : decide (0 ≤ ex) = false := by simpa using z_e
                    by_cases z_p : 0 ≤ py
                    · have t4 : decide (0 ≤ py) = true := by simpa using z_p
                      have HSX := Lib.hid (HS3.out.setE hlen.1 hlen.2 hxW hyH HV.out (by rw [HEX.out]; omega) (by rw [HPY.out]; exact z_p) (by rw [HPY.out]; exact c_p) hv2.1 hv2.2)
                      clear c_e c_p z_e z_p
                      go_wp2
                      go_roundw
                      case rel => exact ⟨true, x + 1, E.set x v, P, by omega, rfl, by go_num, HF.out.setE HNE.out hxW, HSX⟩
                      case measure => simp [intOf]; omega
                    · have t4 : decide (0 ≤ py) = false := by simpa using z_p
                      have HSX := Lib.hid (HS3.out.skip (.inr (.inr ⟨by rw [HEX.out]; omega, by rw [HPY.out]; omega⟩)))
                      clear c_e c_p z_e z_p
                      go_wp2
                      go_roundw
                      case rel => exact ⟨b3, x + 1, E, P, by omega, rfl, by go_num, HF.out, HSX⟩
                      case measure => simp [intOf]; omega
            · obtain rfl : x = W := by omega
              have HSX := Lib.hid HS3.out.row
              clear hfw hbl hge hgp hlen HF2
              go_wp2
              go_roundw
              case rel => exact ⟨b3, y + 1, E, P, by omega, rfl, by go_num, HF.out, HSX⟩
              case measure => simp [intOf]; omega
        · obtain rfl : y = H := by omega
          have HM2 : Hid (wcnt wr ga W + wcnt wr gb y = neg2 E2 P2 W y) := Lib.hid HF2.out.cnt
          go_wp2
          go_roundw
          case rel => exact ⟨b, E2, P2, rfl, HF2.out, Lib.hid HS.out.inv, Lib.hid fun h => (HS.out.no h).2⟩
          case measure =>
            have h1 := HM1.out; have h2 := HM2.out; have h3 := HN1.out
            rw [h1, h2]
            cases b with
            | true => have := HS.out.yes rfl; simp only [boolN]; omega
            | false => have := (HS.out.no rfl).1; simp only [boolN]; omega
end Go.Proofs.Yticplgjpflaelaa
