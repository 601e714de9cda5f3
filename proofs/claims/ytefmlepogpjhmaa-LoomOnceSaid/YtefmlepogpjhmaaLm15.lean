/- Chapter 10: the document's answer, where the loom can't be opened. -/
import Derived.Test.YtefmlepogpjhmaaLm14
import Derived.Test.YtefmlepogpjhmaaLm11
namespace Go.Proofs.Ytefmlepogpjhmaa
open Go.RowKit
set_option linter.unusedVariables false
set_option linter.unusedSimpArgs false
open Lm
/-- What lies in memory while the document's loom plays: the truth's box, the loom's state, the disk's words, what is seen. -/
structure RP (mb sb g cp : Nat) (W H : Int) (A : Option Addr) (n c : Nat) (ws : List Int) (fs : Nat → Value) (v : Value) (L : List Seen) (w0 w : World) : Prop where
  m : w.rowIs mb 24 3 (tF W H (.slice A n c))
  s : w.rowIs sb 61 4 fs
  own : w.ownsRow g 2 1 (.slice (some ⟨g, 0, none⟩) ws.length cp) ws.length (ws.map (Value.int .i64))
  out : OutS mb v L w
  bel : Below w0.heap.size w0 w
  o1 : w0.heap.size ≤ mb
  o2 : w0.heap.size ≤ sb
  o3 : w0.heap.size ≤ g
theorem own_raise {w : World} {base e g n cp : Nat} {xs : List Value} (h : w.ownsRow base e 1 (.slice (some ⟨g, 0, none⟩) n cp) n xs) : w.ownsRow g e 1 (.slice (some ⟨g, 0, none⟩) n cp) n xs := by
  refine ⟨h.1, ?_⟩
  rcases h.2 with h2 | ⟨g', cap, cur, e1, hb, h3⟩
  · exact .inl h2
  · have e2 := e1
    injection e1 with e1
    injection e1 with e1
    injection e1 with e1
    subst e1
    exact .inr ⟨g, cap, cur, e2, Nat.le_refl _, h3⟩
section
variable {mb sb g cp : Nat} {W H : Int} {A : Option Addr} {n c : Nat} {ws : List Int} {fs : Nat → Value} {v : Value} {L : List Seen} {w0 w w' : World}
theorem RP.grow (h : RP mb sb g cp W H A n c ws fs v L w0 w) (hb : Below w.heap.size w w') : RP mb sb g cp W H A n c ws fs v L w0 w' :=
  ⟨rowBelow h.m hb h.m.lt, rowBelow h.s hb h.s.lt, ownBelow h.own hb, h.out.below hb, h.bel.trans (hb.mono h.bel.size), h.o1, h.o2, h.o3⟩
theorem RP.grown {v' : Value} {L' : List Seen} (h : RP mb sb g cp W H A n c ws fs v L w0 w) (hg : w.grownBy w' v.ownBlock) (ho : OutS mb v' L' w') : RP mb sb g cp W H A n c ws fs v' L' w0 w' := by
  have h1 : ∀ k, k < w.heap.size → (∀ q, v.ownBlock = some q → k ≠ q) → w'.heap[k]? = w.heap[k]? := fun k hk hne => hg.block k hk (fun e => hne k e.symm rfl)
  refine ⟨h.m.of_block (h1 _ h.m.lt (out_ne h.out h.m (by decide))), h.s.of_block (h1 _ h.s.lt (out_ne h.out h.s (by decide))), own_keep h.own (h1 _ (own_lt h.own) fun q hq e => ?_), ho, ?_, h.o1, h.o2, h.o3⟩
  · subst e
    obtain ⟨vs, _, hw, _⟩ := h.out
    obtain ⟨_, _, _, _, cur, e2, _⟩ := own_parts h.own
    rcases hw.2 with ⟨e1, _⟩ | ⟨g', cap, cur', e1, _, e3, _⟩
    · rw [e1] at hq; cases hq
    · rw [e1] at hq
      have e4 : some g' = some g := hq
      injection e4 with e4
      subst e4
      rw [e2] at e3
      injection e3 with e3
      injection e3 with _ e5
      exact absurd e5 (by decide)
  · refine h.bel.trans (belowGrown hg h.bel.size fun k hk => ?_)
    obtain ⟨vs, _, hw, _⟩ := h.out
    have := (hw.lt k hk).1
    have := h.o1
    omega
theorem RP.ints (h : RP mb sb g cp W H A n c ws fs v L w0 w) : IsInts w (some ⟨g, 0, none⟩) ws.length ws :=
  ⟨rfl, fun _ => ⟨g, 0, rfl, own_lt h.own, fun j hj => by
    rw [Nat.zero_add, (own_cell h.own hj).1, List.getElem?_map, List.getElem?_eq_getElem hj]
    simp [List.getD, hj]⟩⟩
theorem rp_start (W H : Int) (A : Option Addr) (n c : Nat) (ws : List Int) (w w2 : World) (g cp : Nat) (hm : w2.rowIs w.heap.size 24 3 (tF W H (.slice A n c))) (hb : Below w.heap.size w w2) (hg : w.heap.size + 1 ≤ g)
    (ho : w2.ownsRow (w.heap.size + 1) 2 1 (.slice (some ⟨g, 0, none⟩) ws.length cp) ws.length (ws.map (Value.int .i64))) :
    RP w.heap.size w2.heap.size g cp W H A n c ws (sF ⟨0, 0, false, false⟩) (.slice none 0 0) [] w (w2.alloc (.cells #[.int .i64 (0), .int .i64 (0), .bool false, .bool false] 61)) :=
  ⟨hm.alloc _, sF_alloc w2 ⟨0, 0, false, false⟩, ownBelow (own_raise ho) ((Below.refl _ _).alloc (Nat.le_refl _) _), OutS.nil _ _, hb.alloc hb.size _, Nat.le_refl _, hb.size, by omega⟩
/-- A box of the answer's rows is written. -/
theorem RP.setX {xb i : Nat} {u : Value} {f : Nat → Value} (h : RP mb sb g cp W H A n c ws fs v L w0 w) (hx : w.rowIs xb 34 6 f) (h0 : w0.heap.size ≤ xb) (hne : ∀ q, v.ownBlock = some q → xb ≠ q) : RP mb sb g cp W H A n c ws fs v L w0 (w.setCell ⟨xb, i, none⟩ u) := by
  have ne : ∀ k t n' (f' : Nat → Value), w.rowIs k t n' f' → t ≠ 34 → k ≠ xb := fun k t n' f' hr ht e => by
    subst e
    obtain ⟨c1, e1, _⟩ := hr
    exact ht (ty_ne hx e1)
  refine ⟨h.m.of_block (Below.heap_setCell _ _ _ mb (ne _ _ _ _ h.m (by decide))), h.s.of_block (Below.heap_setCell _ _ _ sb (ne _ _ _ _ h.s (by decide))), own_other h.own (fun e => ?_), h.out.set hx (by decide) hne, h.bel.setCell h0 _, h.o1, h.o2, h.o3⟩
  have e : g = xb := e
  subst e
  obtain ⟨_, _, _, _, cur, e2, _⟩ := own_parts h.own
  obtain ⟨c1, e1, _⟩ := hx
  rw [e1] at e2
  injection e2 with e2
  injection e2 with _ e3
  exact absurd e3 (by decide)
/-- The loom's state is written. -/
theorem RP.setS {i : Nat} {u : Value} (h : RP mb sb g cp W H A n c ws fs v L w0 w) : RP mb sb g cp W H A n c ws (fun j => if j = i then u else fs j) v L w0 (w.setCell ⟨sb, i, none⟩ u) := by
  refine ⟨h.m.of_block (Below.heap_setCell _ _ _ mb (fun e => ?_)), h.s.set i u, own_other h.own (fun e => ?_), h.out.set h.s (by decide) (out_ne h.out h.s (by decide)), h.bel.setCell h.o2 _, h.o1, h.o2, h.o3⟩
  · have e : mb = sb := e
    have h9 := h.s
    rw [← e] at h9
    obtain ⟨c1, e1, _⟩ := h9
    exact absurd (ty_ne h.m e1) (by decide)
  · have e : g = sb := e
    have h9 := h.s
    rw [← e] at h9
    obtain ⟨_, _, _, _, cur, e2, _⟩ := own_parts h.own
    obtain ⟨c1, e1, _⟩ := h9
    rw [e1] at e2
    injection e2 with e2
    injection e2 with _ e3
    exact absurd e3 (by decide)
/-- A word is written. -/
theorem RP.setW {i : Nat} {x : Int} (h : RP mb sb g cp W H A n c ws fs v L w0 w) (hi : i < ws.length) : RP mb sb g cp W H A n c (ws.set i x) fs v L w0 (w.setCell ⟨g, i, none⟩ (.int .i64 x)) := by
  have ne : ∀ k t n' (f' : Nat → Value), w.rowIs k t n' f' → t ≠ 2 → k ≠ g := fun k t n' f' hr ht e => by
    subst e
    obtain ⟨_, _, _, _, cur, e2, _⟩ := own_parts h.own
    exact ht (ty_ne hr e2).symm
  refine ⟨h.m.of_block (Below.heap_setCell _ _ _ mb (ne _ _ _ _ h.m (by decide))), h.s.of_block (Below.heap_setCell _ _ _ sb (ne _ _ _ _ h.s (by decide))), ?_, ?_, h.bel.setCell h.o3 _, h.o1, h.o2, h.o3⟩
  · have h1 := own_set h.own hi (u := .int .i64 x)
    rw [List.length_set, List.map_set]
    exact h1
  · obtain ⟨_, _, _, _, cur, e2, _⟩ := own_parts h.own
    refine h.out.of_block fun k c f t e ht => Below.heap_setCell _ _ _ k fun e3 => ?_
    have e3 : k = g := e3
    subst e3
    rw [e2] at e
    injection e with e
    injection e with _ e4
    subst e4
    rcases ht with h | h <;> exact absurd h (by decide)
theorem RP.cong {fs' : Nat → Value} (h : RP mb sb g cp W H A n c ws fs v L w0 w) (hf : ∀ i, i < 4 → fs i = fs' i) : RP mb sb g cp W H A n c ws fs' v L w0 w :=
  ⟨h.m, h.s.congr hf, h.own, h.out, h.bel, h.o1, h.o2, h.o3⟩
end
/-- What the document's play tells. -/
def PlayPost2 (L : List Seen) (D : List Int) (w : World) (r : Ending) (w' : World) : Prop :=
  ∃ v A C, r = .returned (.tuple #[v, .slice A D.length C]) ∧ OutS w.heap.size v L w' ∧ IsInts w' A D.length D ∧ Below w.heap.size w w'
set_option maxRecDepth 100000 in
set_option maxHeartbeats 8000000 in
theorem Play_bad (W H : Int) (A : Option Addr) (n c : Nat) (B : Option Addr) (m cw : Nat) (ws : List Int) (Sa : Option Addr) (sn sc : Nat) (ST : List Step) (w : World) (hI : IsInts w B m ws) (hm : m ≤ 1048576) (hc : B = none → cw = 0)
    (hS : IsSteps w Sa sn ST) (hsn : sn ≤ 1048576) (h1 : (-9223372036854775808 ≤ W ∧ W ≤ 9223372036854775807)) (h2 : (-9223372036854775808 ≤ H ∧ H ≤ 9223372036854775807)) (h3 : n ≤ 9223372036854775807) (he : openE W H n m ≠ 0) :
    Calls Try.prog 6 #[.agg #[.int .i64 (W), .int .i64 (H), .slice A n c], .slice B m cw, .slice Sa sn sc] w (PlayPost2 (badT (openE W H n m) sn) ws w) := by
  have hl := hI.1
  subst hl
  have HI := Lib.hid hI
  have HWR := Lib.hid (fun w => rWrong10_any W H A n c ws.length w h1 h2 h3)
  have hne : (openE W H n ws.length == 0) = false := by simpa using he
  have HSTP := Lib.hid hS
  obtain ⟨e, hee⟩ : ∃ e, openE W H n ws.length = e := ⟨_, rfl⟩
  rw [hee] at HWR hne ⊢
  have HEE := Lib.hid hee
  have hne' : (e != 0) = true := by rw [bne, hne]; rfl
  clear hI hS he hee
  go_enter Try.func6, Try.ntmps6
  have howe := owns64_empty (w.alloc (.cells #[.int .i64 (W), .int .i64 (H), .slice A n c] 24)) (w.heap.size + 1) (by simp)
  rw [World.size_alloc] at howe
  go_wp2_with (at_builtin; refine wpAppV okI64 rfl (.tmp 24) (.tmp 25) rfl (w.heap.size + 1) _ 0 [] B ws.length cw (ws.map (Value.int .i64)) rfl howe rfl hc (by simp) (i64_cells (HI.out.below (by repeat (first | exact Below.refl _ _ | refine Below.drew ?_ | refine below_drewN ?_ _ | refine Below.alloc ?_ (by first | exact Nat.le_refl _ | (simp; done) | (simp; omega) | omega) _ | refine Below.setCell ?_ (by first | exact Nat.le_refl _ | (simp; done) | (simp; omega) | omega) _ | refine bExtW ?_ (by first | exact Nat.le_refl _ | (simp; done) | (simp; omega) | omega) | refine Below.trans ?_ (Below.mono (by assumption) (by first | exact Nat.le_refl _ | (simp; done) | (simp; omega) | omega)))))) (i64_ones ws) (by omega) (by omega) (by rw [World.size_alloc, World.size_alloc]; omega) ?_)
  intro v' w2 hown2 hg2 hat2
  obtain ⟨g, hg⟩ : ∃ g, v'.ownBlock = some g := by rcases hat2 with h | h; exact ⟨_, h⟩; exact ⟨_, h⟩
  obtain ⟨cp, rfl, hge⟩ := own_is_some hown2 hg
  have hb2 : Below (w.heap.size + 1) ((w.alloc (.cells #[.int .i64 (W), .int .i64 (H), .slice A n c] 24)).alloc (.cells #[] 2)) w2 := belowGrown hg2 (by simp) (fun k hk => by have e : some (w.heap.size + 1) = some k := hk; injection e with e; omega)
  have hm2 := rowBelow ((tF_alloc w W H (.slice A n c) rfl).alloc (.cells #[] 2)) hb2 (by omega)
  have hbw : Below w.heap.size w w2 := Below.trans (by repeat (first | exact Below.refl _ _ | refine Below.drew ?_ | refine below_drewN ?_ _ | refine Below.alloc ?_ (by first | exact Nat.le_refl _ | (simp; done) | (simp; omega) | omega) _ | refine Below.setCell ?_ (by first | exact Nat.le_refl _ | (simp; done) | (simp; omega) | omega) _ | refine bExtW ?_ (by first | exact Nat.le_refl _ | (simp; done) | (simp; omega) | omega) | refine Below.trans ?_ (Below.mono (by assumption) (by first | exact Nat.le_refl _ | (simp; done) | (simp; omega) | omega)))) (hb2.mono (by omega))
  have HM2 := Lib.hid hm2; have HB2 := Lib.hid hbw; have HO2 := Lib.hid hown2
  have HGE := Lib.hid hge
  have q0 : w2.cell? ⟨w.heap.size, 0, none⟩ = some (.int .i64 (W)) := hm2.cell (i := 0) (by omega)
  have q1 : w2.cell? ⟨w.heap.size, 1, none⟩ = some (.int .i64 (H)) := hm2.cell (i := 1) (by omega)
  have q2 : w2.cell? ⟨w.heap.size, 2, none⟩ = some (.slice A n c) := hm2.cell (i := 2) (by omega)
  have lmb : LtW w.heap.size w2 := hm2.lt
  clear hown2 hg2 hat2 hg hb2 hm2 hbw hge
  go_wp2_with fail
  refine (HWR.out w2).mono ?_
  rintro r w3 ⟨rfl, hb3⟩
  have hrp := rp_start W H A n c ws w w3 g cp (rowBelow HM2.out hb3 HM2.out.lt) (HB2.out.trans (hb3.mono HB2.out.size)) HGE.out (ownBelow HO2.out hb3)
  have HRP := Lib.hid hrp
  clear hrp hb3 HM2 HB2 HO2 HGE q0 q1 q2 lmb
  go_upto_region 4 with fail
  generalize w3.alloc (.cells #[.int .i64 (0), .int .i64 (0), .bool false, .bool false] 61) = w4 at *
  generalize w3.heap.size = sb at *
  generalize hmbe : w.heap.size = mb at *
  have HMBE := Lib.hid hmbe
  clear hmbe
  go_wp2_with fail
  go_loopw [11, 12, 38] (fun fv v iv wr => ∃ (k : Nat) (lf : Int), k ≤ sn ∧ iv = .int .i64 k ∧ fv = .int .i64 lf ∧ Hid (RP mb sb g cp W H A n c ws (sF ⟨0, 0, false, false⟩) v (badT e k) w wr)) (fun _ _ iv _ => sn - (intOf iv).toNat)
  case atStart => exact ⟨0, -1, by omega, rfl, rfl, HRP⟩
  case round =>
    obtain ⟨k, lf, hk, rfl, rfl, HPW⟩ := hrel
    clear HRP
    obtain ⟨AO, CO, rfl⟩ := HPW.out.out.form
    rw [badT_len] at HPW ⊢
    by_cases hks : k < sn
    · have dk : decide ((k : Int) < (sn : Int)) = true := by simp; omega
      have dk' : decide (k < sn) = true := by simpa using hks
      obtain ⟨bS, oS, eS, hbS, hcS⟩ := (HSTP.out.below (show Below w.heap.size w wr from HPW.out.bel)).2 (by omega)
      obtain ⟨s0, s1, s2⟩ := hcS k hks
      subst eS
      obtain ⟨x, hx⟩ : ∃ x, ST.getD k ⟨0, false, 0⟩ = x := ⟨_, rfl⟩
      rw [hx] at s0 s1 s2
      obtain ⟨pw, op, ev⟩ := x
      simp only at s0 s1 s2
      have lbS : LtW bS wr := hbS
      clear hcS hx hbS
      go_upto_region 11 with fail
      have hst := stF_alloc wr ⟨pw, op, ev⟩
      have HPM1 := Lib.hid (HPW.out.grow (show Below wr.heap.size wr (wr.alloc (.cells #[.int .i64 (pw), .bool op, .int .i64 (ev)] 53)) from (by repeat (first | exact Below.refl _ _ | refine Below.drew ?_ | refine below_drewN ?_ _ | refine Below.alloc ?_ (by first | exact Nat.le_refl _ | (simp; done) | (simp; omega) | omega) _ | refine Below.setCell ?_ (by first | exact Nat.le_refl _ | (simp; done) | (simp; omega) | omega) _ | refine bExtW ?_ (by first | exact Nat.le_refl _ | (simp; done) | (simp; omega) | omega) | refine Below.trans ?_ (Below.mono (by assumption) (by first | exact Nat.le_refl _ | (simp; done) | (simp; omega) | omega))))))
      simp only at hst
      clear s0 s1 s2 lbS HPW
      generalize wr.alloc (.cells #[.int .i64 (pw), .bool op, .int .i64 (ev)] 53) = w1 at *
      generalize wr.heap.size = sp at *
      have HST := Lib.hid hst
      clear hst
      have s0 : (w1).cell? ⟨sp, 0, none⟩ = some (.int .i64 (pw)) := (HST.out).cell (i := 0) (by omega)
      have s1 : (w1).cell? ⟨sp, 1, none⟩ = some (.bool op) := (HST.out).cell (i := 1) (by omega)
      have s2 : (w1).cell? ⟨sp, 2, none⟩ = some (.int .i64 (ev)) := (HST.out).cell (i := 2) (by omega)
      have ls : LtW sp w1 := (HST.out).lt
      obtain ⟨bp, hbp⟩ : ∃ b, (pw != 0) = b := ⟨_, rfl⟩
      go_upto_if 44 with fail
      go_cut [11] (fun fv wx => w1 = wx ∧ ∃ lf : Int, fv = .int .i64 lf)
      case first =>
        cases bp with
        | true =>
          clear hbp
          go_wp2
          go_meet
          exact ⟨rfl, _, rfl⟩
        | false =>
          clear hbp
          go_wp2
          go_meet
          exact ⟨rfl, _, rfl⟩
      obtain ⟨rfl, lf2, rfl⟩ := hcut
      clear hbp
      go_upto_region 13 with fail
      go_cut [53] (fun bv wx => w1 = wx ∧ bv = .bool false)
      case first =>
        cases op with
        | true =>
          go_wp2
          go_meet
          exact ⟨rfl, rfl⟩
        | false =>
          go_wp2
          go_meet
          exact ⟨rfl, rfl⟩
      obtain ⟨rfl, rfl⟩ := hcut
      go_upto_region 17 with fail
      have hx5 := xF_alloc w1 none 0 0 ⟨0, 0, 0, [], e, 0⟩
      have hl5 := HPM1.out.grow (show Below w1.heap.size w1 (w1.alloc (.cells #[.int .i64 (0), .int .i64 (0), .int .i64 (0), .slice none 0 0, .int .i64 (e), .int .i64 (0)] 34)) from (by repeat (first | exact Below.refl _ _ | refine Below.drew ?_ | refine below_drewN ?_ _ | refine Below.alloc ?_ (by first | exact Nat.le_refl _ | (simp; done) | (simp; omega) | omega) _ | refine Below.setCell ?_ (by first | exact Nat.le_refl _ | (simp; done) | (simp; omega) | omega) _ | refine bExtW ?_ (by first | exact Nat.le_refl _ | (simp; done) | (simp; omega) | omega) | refine Below.trans ?_ (Below.mono (by assumption) (by first | exact Nat.le_refl _ | (simp; done) | (simp; omega) | omega)))))
      clear s0 s1 s2 ls HPM1 HST
      generalize w1.alloc (.cells #[.int .i64 (0), .int .i64 (0), .int .i64 (0), .slice none 0 0, .int .i64 (e), .int .i64 (0)] 34) = w5 at *
      generalize w1.heap.size = xb at *
      obtain ⟨vs, hvl, hvo, hvr⟩ := hl5.out
      have HL5 := Lib.hid hl5; have HVO := Lib.hid hvo; have HVR := Lib.hid hvr; have HVL := Lib.hid hvl
      rw [badT_len] at hvo
      have HVO2 := Lib.hid hvo
      have hms := hl5.bel.size
      have hmb2 := HMBE.out
      have x0 : (w5).cell? ⟨xb, 0, none⟩ = some (.int .i64 (((⟨0, 0, 0, [], e, 0⟩ : Seen)).do_)) := (hx5).cell (i := 0) (by omega)
      have x1 : (w5).cell? ⟨xb, 1, none⟩ = some (.int .i64 (((⟨0, 0, 0, [], e, 0⟩ : Seen)).st)) := (hx5).cell (i := 1) (by omega)
      have x2 : (w5).cell? ⟨xb, 2, none⟩ = some (.int .i64 (((⟨0, 0, 0, [], e, 0⟩ : Seen)).wv)) := (hx5).cell (i := 2) (by omega)
      have x3 : (w5).cell? ⟨xb, 3, none⟩ = some ((.slice none 0 0)) := (hx5).cell (i := 3) (by omega)
      have x4 : (w5).cell? ⟨xb, 4, none⟩ = some (.int .i64 (((⟨0, 0, 0, [], e, 0⟩ : Seen)).oe)) := (hx5).cell (i := 4) (by omega)
      have x5 : (w5).cell? ⟨xb, 5, none⟩ = some (.int .i64 (((⟨0, 0, 0, [], e, 0⟩ : Seen)).er)) := (hx5).cell (i := 5) (by omega)
      have lx : LtW xb w5 := (hx5).lt
      simp only at x0 x1 x2 x4 x5
      clear hl5 hvo hvr hvl hx5
      go_wp2_with (at_builtin; go_loud (refine wpAppG okSeen rfl (.tmp 61) (.tmp 63) rfl mb _ _ _ #[.int .i64 (0), .int .i64 (0), .int .i64 (0), .slice none 0 0, .int .i64 (e), .int .i64 (0)] w5.heap.size rfl (HVO2.out.alloc _) rfl ?_ rfl ?_ (by omega) (by omega) (by rw [World.size_alloc]; omega) ?_))
      · intro j u hj
        rw [World.cell?_alloc_new]; exact hj
      · simp [Value.oneCell']
      · intro v' w6 hown6 hg6
        obtain ⟨A6, c6, rfl⟩ := own_form hown6
        have hal : Below w5.heap.size w5 (w5.alloc (.cells #[.int .i64 (0), .int .i64 (0), .int .i64 (0), .slice none 0 0, .int .i64 (e), .int .i64 (0)] 34)) := (Below.refl _ _).alloc (Nat.le_refl _) _
        have hout6 := OutS.app (x := ⟨0, 0, 0, [], e, 0⟩) (xv := .slice none 0 0) HVL.out HVO.out HVR.out (.inl ⟨rfl, rfl⟩) hal (by rw [badT_len]; exact hown6) hg6
        have HR6 : Hid (RP mb sb g cp W H A n c ws (sF ⟨0, 0, false, false⟩) (.slice A6 (k + 1) c6) (badT e (k + 1)) w w6) := Lib.hid ((HL5.out.grow hal).grown hg6 (by rw [badT_succ]; exact hout6))
        clear hown6 hg6 hal hout6 HVO HVR HVL HVO2 HL5 x0 x1 x2 x3 x4 x5 lx
        go_wp2
        go_roundw
        case rel =>
          first
            | exact ⟨k + 1, _, by omega, by go_num, rfl, HR6⟩
            | (repeat apply Exists.intro
               exact ⟨⟨k + 1, _, by omega, by go_num, rfl, HR6⟩, rfl⟩)
        case measure => simp [intOf]; omega
    · obtain rfl : k = sn := by omega
      have dk : decide ((k : Int) < (k : Int)) = false := by simp
      go_wp2_with fail
      go_ret2
      refine ⟨_, some ⟨g, 0, none⟩, cp, rfl, ?_, HPW.out.ints, HPW.out.bel⟩
      rw [HMBE.out]; exact HPW.out.out
end Go.Proofs.Ytefmlepogpjhmaa
