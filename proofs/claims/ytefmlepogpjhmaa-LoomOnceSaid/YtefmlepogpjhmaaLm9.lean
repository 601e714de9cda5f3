/- Chapter 10: plain.Loom where the loom can't be opened. -/
import Derived.Test.YtefmlepogpjhmaaLm8
import Derived.Test.YtefmlepogpjhmaaLL
namespace Go.Proofs.Ytefmlepogpjhmaa
open Go.RowKit
set_option linter.unusedVariables false
set_option linter.unusedSimpArgs false
open Lm
theorem okI64 : ElemOk 25 2 1 8 (.int .i64 0) := ⟨Try.underlying25, by kernel_rfl, rfl, by omega⟩
def i64w (x : Int) : Value := .int .i64 x
theorem i64_cells {w : World} {A : Option Addr} {n : Nat} {l : List Int} (h : IsInts w A n l) (hn : 0 < n) : ∃ b of, A = some ⟨b, of, none⟩ ∧ ∀ j u, (l.map (Value.int .i64))[j]? = some u → w.cell? ⟨b, of + j, none⟩ = some u := by
  obtain ⟨b, o, e, _, hc⟩ := h.2 hn
  refine ⟨b, o, e, fun j u hj => ?_⟩
  have hjl : j < l.length := by
    have := (List.getElem?_eq_some_iff.1 hj).1
    simpa using this
  rw [hc j (by rw [← h.1]; exact hjl)]
  rw [List.getElem?_map, List.getElem?_eq_getElem hjl] at hj
  rw [show l.getD j 0 = l[j] by simp [List.getD, hjl]]
  exact hj
theorem i64_ones (l : List Int) : ∀ u ∈ l.map (Value.int .i64), u.oneCell' = true := by
  intro u hu
  obtain ⟨b, _, rfl⟩ := List.mem_map.1 hu
  rfl
theorem owns64_empty (w : World) (base : Nat) (hb : base ≤ w.heap.size) : (w.alloc (.cells #[] 2)).ownsRow base 2 1 (.slice (some ⟨w.heap.size, 0, none⟩) 0 0) 0 [] :=
  ⟨rfl, .inr ⟨w.heap.size, 0, #[], rfl, hb, heap_alloc_new w _, Nat.le_refl _, by unfold maxLen; omega, rfl, rfl⟩⟩
theorem disk_alloc (w : World) (g n cp : Nat) (left : Int) : (w.alloc (.cells #[.slice (some ⟨g, 0, none⟩) n cp, .int .i64 (left), .bool false] 48)).rowIs w.heap.size 48 3 (dkF (.slice (some ⟨g, 0, none⟩) n cp) left) :=
  World.rowIs_alloc w #[.slice (some ⟨g, 0, none⟩) n cp, .int .i64 (left), .bool false] 48 _ (by
    intro i hi
    have hi2 : i = 0 ∨ i = 1 ∨ i = 2 := by simp at hi; omega
    rcases hi2 with rfl | rfl | rfl <;> rfl)
/-- What a loom's play tells. -/
def PlayPost (L : List Seen) (D : List Int) (w : World) (r : Ending) (w' : World) : Prop :=
  ∃ v A C, r = .returned (.tuple #[v, .slice A D.length C, .bool true]) ∧ OutS w.heap.size v L w' ∧ IsInts w' A D.length D ∧ Below w.heap.size w w'
/-- What lies in memory while a loom plays: the truth's box, the disk. -/
structure PL (mb bd g cp : Nat) (W H : Int) (A : Option Addr) (n c : Nat) (d : Dk) (w0 w : World) : Prop where
  m : w.rowIs mb 24 3 (tF W H (.slice A n c))
  d : DK bd g cp d w
  bel : Below w0.heap.size w0 w
  o1 : w0.heap.size ≤ mb
  o2 : w0.heap.size ≤ bd
  o3 : w0.heap.size ≤ g
  mbd : mb ≠ bd
  mg : mb ≠ g
theorem PL.grow {mb bd g cp : Nat} {W H : Int} {A : Option Addr} {n c : Nat} {d : Dk} {w0 w w' : World} (h : PL mb bd g cp W H A n c d w0 w) (hb : Below w.heap.size w w') : PL mb bd g cp W H A n c d w0 w' :=
  ⟨rowBelow h.m hb h.m.lt, h.d.keep (a1 := 0) hb, h.bel.trans (hb.mono h.bel.size), h.o1, h.o2, h.o3, h.mbd, h.mg⟩
theorem PL.setL {mb bd g cp : Nat} {W H : Int} {A : Option Addr} {n c : Nat} {d : Dk} {w0 w : World} (h : PL mb bd g cp W H A n c d w0 w) (x : Int) (hx : (-9223372036854775808 ≤ x ∧ x ≤ 9223372036854775807)) : PL mb bd g cp W H A n c { d with left := x } w0 (w.setCell ⟨bd, 1, none⟩ (.int .i64 x)) :=
  ⟨h.m.of_block (Below.heap_setCell _ _ _ mb (fun e => h.mbd e)), h.d.setL x hx, h.bel.setCell (by exact h.o2) _, h.o1, h.o2, h.o3, h.mbd, h.mg⟩
theorem own_is_some {w : World} {base e n : Nat} {v : Value} {xs : List Value} {k : Nat} (h : w.ownsRow base e 1 v n xs) (hk : v.ownBlock = some k) : ∃ c, v = .slice (some ⟨k, 0, none⟩) n c ∧ base ≤ k := by
  rcases h.2 with ⟨e1, _⟩ | ⟨g, cap, cur, e1, hb, _⟩
  · rw [e1] at hk; cases hk
  · rw [e1] at hk
    have e2 : some g = some k := hk
    injection e2 with e2
    subst e2
    exact ⟨cap, e1, hb⟩
/-- The disk that is made. -/
theorem pl_start (W H : Int) (A : Option Addr) (n c : Nat) (ws : List Int) (w w2 : World) (g cp : Nat) (hwf : ∀ x ∈ ws, (-9223372036854775808 ≤ x ∧ x ≤ 9223372036854775807)) (hm : w2.rowIs w.heap.size 24 3 (tF W H (.slice A n c))) (hb : Below w.heap.size w w2) (hg : w.heap.size + 1 ≤ g)
    (ho : w2.ownsRow (w.heap.size + 1) 2 1 (.slice (some ⟨g, 0, none⟩) ws.length cp) ws.length (ws.map (Value.int .i64))) :
    PL w.heap.size w2.heap.size g cp W H A n c ⟨ws, -1⟩ w (w2.alloc (.cells #[.slice (some ⟨g, 0, none⟩) ws.length cp, .int .i64 (-1), .bool false] 48)) := by
  have hgl := own_lt ho
  refine ⟨hm.alloc _, ⟨disk_alloc w2 g ws.length cp (-1), ownBelow (own_lower ho (by omega)) ((Below.refl _ _).alloc (Nat.le_refl _) _), by omega, hwf, by simp⟩, hb.alloc hb.size _, Nat.le_refl _, hb.size, by omega, by have := hm.lt; omega, by omega⟩
def stF (x : Step) : Nat → Value := fun j => if j = 0 then .int .i64 x.pw else if j = 1 then .bool x.op else .int .i64 x.ev
theorem stF_alloc (w : World) (x : Step) : (w.alloc (.cells #[.int .i64 (x.pw), .bool x.op, .int .i64 (x.ev)] 53)).rowIs w.heap.size 53 3 (stF x) :=
  World.rowIs_alloc w #[.int .i64 (x.pw), .bool x.op, .int .i64 (x.ev)] 53 _ (by
    intro i hi
    have hi2 : i = 0 ∨ i = 1 ∨ i = 2 := by simp at hi; omega
    rcases hi2 with rfl | rfl | rfl <;> rfl)
/-- A step of the script, what is seen so far, the disk, the truth. -/
structure LB (mb bd g cp sb : Nat) (W H : Int) (A : Option Addr) (n c : Nat) (d : Dk) (v : Value) (L : List Seen) (x : Step) (w0 w : World) : Prop where
  pl : PL mb bd g cp W H A n c d w0 w
  out : OutS mb v L w
  st : w.rowIs sb 53 3 (stF x)
theorem LB.grow {mb bd g cp sb : Nat} {W H : Int} {A : Option Addr} {n c : Nat} {d : Dk} {v : Value} {L : List Seen} {x : Step} {w0 w w' : World} (h : LB mb bd g cp sb W H A n c d v L x w0 w) (hb : Below w.heap.size w w') : LB mb bd g cp sb W H A n c d v L x w0 w' :=
  ⟨h.pl.grow hb, h.out.below hb, rowBelow h.st hb h.st.lt⟩
theorem out_ne {base k t n : Nat} {f : Nat → Value} {v : Value} {L : List Seen} {w : World} (h : OutS base v L w) (hr : w.rowIs k t n f) (ht : t ≠ 34) : ∀ g, v.ownBlock = some g → k ≠ g := by
  obtain ⟨vs, _, ho, _⟩ := h
  intro g hg e
  subst e
  rcases ho.2 with ⟨e1, _⟩ | ⟨g', cap, cur, e1, _, e3, _⟩
  · rw [e1] at hg; cases hg
  · rw [e1] at hg
    have e2 : some g' = some k := hg
    injection e2 with e2
    subst e2
    exact ht (ty_ne hr e3).symm
theorem LB.setL {mb bd g cp sb : Nat} {W H : Int} {A : Option Addr} {n c : Nat} {d : Dk} {v : Value} {L : List Seen} {x : Step} {w0 w : World} (h : LB mb bd g cp sb W H A n c d v L x w0 w) (y : Int) (hy : (-9223372036854775808 ≤ y ∧ y ≤ 9223372036854775807)) : LB mb bd g cp sb W H A n c { d with left := y } v L x w0 (w.setCell ⟨bd, 1, none⟩ (.int .i64 y)) :=
  ⟨h.pl.setL y hy, h.out.set h.pl.d.row (by decide) (out_ne h.out h.pl.d.row (by decide)), h.st.of_block (Below.heap_setCell _ _ _ sb (fun e => by
    have e : sb = bd := e
    subst e
    obtain ⟨c1, e1, _⟩ := h.st
    exact absurd (ty_ne h.pl.d.row e1) (by decide)))⟩
theorem PL.grown {mb bd g cp : Nat} {W H : Int} {A : Option Addr} {n c : Nat} {d : Dk} {v : Value} {L : List Seen} {w0 w w' : World} (h : PL mb bd g cp W H A n c d w0 w) (hg : w.grownBy w' v.ownBlock) (ho : OutS mb v L w) : PL mb bd g cp W H A n c d w0 w' := by
  have h1 : ∀ k, k < w.heap.size → (∀ q, v.ownBlock = some q → k ≠ q) → w'.heap[k]? = w.heap[k]? := fun k hk hne => hg.block k hk (fun e => hne k e.symm rfl)
  refine ⟨h.m.of_block (h1 _ h.m.lt (out_ne ho h.m (by decide))), ⟨h.d.row.of_block (h1 _ h.d.row.lt (out_ne ho h.d.row (by decide))), own_keep h.d.own (h1 _ (own_lt h.d.own) fun q hq e => ?_), h.d.ne, h.d.wf, h.d.lf⟩, ?_, h.o1, h.o2, h.o3, h.mbd, h.mg⟩
  · subst e
    obtain ⟨vs, _, hw, _⟩ := ho
    obtain ⟨_, _, _, _, cur, e2, _⟩ := own_parts h.d.own
    rcases hw.2 with ⟨e1, _⟩ | ⟨g', cap, cur', e1, _, e3, _⟩
    · rw [e1] at hq; cases hq
    · rw [e1] at hq
      have e4 : some g' = some g := hq
      injection e4 with e4
      subst e4
      rw [e2] at e3
      injection e3 with e3
      injection e3 with _ e5
      exact absurd e5 (by decide)
  · refine h.bel.trans (belowGrown hg h.bel.size fun k hk => ?_)
    obtain ⟨vs, _, hw, _⟩ := ho
    have := (hw.lt k hk).1
    have := h.o1
    omega
theorem DK.ints {b g cp : Nat} {d : Dk} {w : World} (h : DK b g cp d w) : IsInts w (some ⟨g, 0, none⟩) d.ws.length d.ws :=
  ⟨rfl, fun _ => ⟨g, 0, rfl, own_lt h.own, fun j hj => by
    rw [Nat.zero_add, (own_cell h.own hj).1, List.getElem?_map, List.getElem?_eq_getElem hj]
    simp [List.getD, hj]⟩⟩
def xF (v : Value) (x : Seen) : Nat → Value := fun j => if j = 0 then .int .i64 x.do_ else if j = 1 then .int .i64 x.st else if j = 2 then .int .i64 x.wv else if j = 3 then v else if j = 4 then .int .i64 x.oe else .int .i64 x.er
theorem xF_alloc (w : World) (A : Option Addr) (n c : Nat) (x : Seen) : (w.alloc (.cells #[.int .i64 (x.do_), .int .i64 (x.st), .int .i64 (x.wv), .slice A n c, .int .i64 (x.oe), .int .i64 (x.er)] 34)).rowIs w.heap.size 34 6 (xF (.slice A n c) x) :=
  World.rowIs_alloc w #[.int .i64 (x.do_), .int .i64 (x.st), .int .i64 (x.wv), .slice A n c, .int .i64 (x.oe), .int .i64 (x.er)] 34 _ (by
    intro i hi
    have hi2 : i = 0 ∨ i = 1 ∨ i = 2 ∨ i = 3 ∨ i = 4 ∨ i = 5 := by simp at hi; omega
    rcases hi2 with rfl | rfl | rfl | rfl | rfl | rfl <;> rfl)
theorem wrap_wf (x : Int) : (-9223372036854775808 ≤ IntKind.i64.wrap x ∧ IntKind.i64.wrap x ≤ 9223372036854775807) := by
  have h := IntKind.wrap_i64 x
  rw [h]
  omega
set_option maxRecDepth 100000 in
set_option maxHeartbeats 8000000 in
theorem Loom_bad (W H : Int) (A : Option Addr) (n c : Nat) (B : Option Addr) (m cw : Nat) (ws : List Int) (Sa : Option Addr) (sn sc : Nat) (ST : List Step) (w : World) (hI : IsInts w B m ws) (hm : m ≤ 1048576) (hc : B = none → cw = 0) (hwf : ∀ x ∈ ws, (-9223372036854775808 ≤ x ∧ x ≤ 9223372036854775807))
    (hS : IsSteps w Sa sn ST) (hsn : sn ≤ 1048576) (h1 : (-9223372036854775808 ≤ W ∧ W ≤ 9223372036854775807)) (h2 : (-9223372036854775808 ≤ H ∧ H ≤ 9223372036854775807)) (h3 : n ≤ 9223372036854775807) (he : openE W H n m ≠ 0) :
    Calls Try.prog 5 #[.agg #[.int .i64 (W), .int .i64 (H), .slice A n c], .slice B m cw, .slice Sa sn sc] w (PlayPost (badT (openE W H n m) sn) ws w) := by
  have hl := hI.1
  subst hl
  have HI := Lib.hid hI
  have HOP := Lib.hid (fun b g cp (D : Dk) w h (hlen : D.ws.length = ws.length) => by
    have h9 := Open_bad W H A n c b g cp D w h h1 h2 h3 (by omega) (by rw [hlen]; exact he)
    rw [hlen] at h9
    exact h9)
  have hne : (openE W H n ws.length != 0) = true := by simpa using he
  have HSTP := Lib.hid hS
  obtain ⟨e, hee⟩ : ∃ e, openE W H n ws.length = e := ⟨_, rfl⟩
  rw [hee] at HOP hne ⊢
  have HEE := Lib.hid hee
  clear hI hS he hee
  go_enter Try.func5, Try.ntmps5
  have howe := owns64_empty (w.alloc (.cells #[.int .i64 (W), .int .i64 (H), .slice A n c] 24)) (w.heap.size + 1) (by simp)
  rw [World.size_alloc] at howe
  go_wp2_with (at_builtin; refine wpAppV okI64 rfl (.tmp 16) (.tmp 17) rfl (w.heap.size + 1) _ 0 [] B ws.length cw (ws.map (Value.int .i64)) rfl howe rfl hc (by simp) (i64_cells (HI.out.below (by repeat (first | exact Below.refl _ _ | refine Below.drew ?_ | refine below_drewN ?_ _ | refine Below.alloc ?_ (by first | exact Nat.le_refl _ | (simp; done) | (simp; omega) | omega) _ | refine Below.setCell ?_ (by first | exact Nat.le_refl _ | (simp; done) | (simp; omega) | omega) _ | refine bExtW ?_ (by first | exact Nat.le_refl _ | (simp; done) | (simp; omega) | omega) | refine Below.trans ?_ (Below.mono (by assumption) (by first | exact Nat.le_refl _ | (simp; done) | (simp; omega) | omega)))))) (i64_ones ws) (by omega) (by omega) (by rw [World.size_alloc, World.size_alloc]; omega) ?_)
  intro v' w2 hown2 hg2 hat2
  obtain ⟨g, hg⟩ : ∃ g, v'.ownBlock = some g := by rcases hat2 with h | h; exact ⟨_, h⟩; exact ⟨_, h⟩
  obtain ⟨cp, rfl, hge⟩ := own_is_some hown2 hg
  have hb2 : Below (w.heap.size + 1) ((w.alloc (.cells #[.int .i64 (W), .int .i64 (H), .slice A n c] 24)).alloc (.cells #[] 2)) w2 := belowGrown hg2 (by simp) (fun k hk => by have e : some (w.heap.size + 1) = some k := hk; injection e with e; omega)
  have hm2 := rowBelow ((tF_alloc w W H (.slice A n c) rfl).alloc (.cells #[] 2)) hb2 (by omega)
  have hbw : Below w.heap.size w w2 := Below.trans (by repeat (first | exact Below.refl _ _ | refine Below.drew ?_ | refine below_drewN ?_ _ | refine Below.alloc ?_ (by first | exact Nat.le_refl _ | (simp; done) | (simp; omega) | omega) _ | refine Below.setCell ?_ (by first | exact Nat.le_refl _ | (simp; done) | (simp; omega) | omega) _ | refine bExtW ?_ (by first | exact Nat.le_refl _ | (simp; done) | (simp; omega) | omega) | refine Below.trans ?_ (Below.mono (by assumption) (by first | exact Nat.le_refl _ | (simp; done) | (simp; omega) | omega)))) (hb2.mono (by omega))
  have hpl := pl_start W H A n c ws w w2 g cp hwf hm2 hbw hge hown2
  have HPL := Lib.hid hpl
  clear hown2 hg2 hat2 hg hb2 hm2 hbw hpl hge
  go_upto_region 2 with fail
  generalize w2.alloc (.cells #[.slice (some ⟨g, 0, none⟩) ws.length cp, .int .i64 (-1), .bool false] 48) = w3 at *
  generalize w2.heap.size = bd at *
  generalize hmbe : w.heap.size = mb at *
  have HMBE := Lib.hid hmbe
  clear hmbe
  have q0 : (w3).cell? ⟨mb, 0, none⟩ = some (.int .i64 (W)) := (HPL).out.m.cell (i := 0) (by omega)
  have q1 : (w3).cell? ⟨mb, 1, none⟩ = some (.int .i64 (H)) := (HPL).out.m.cell (i := 1) (by omega)
  have q2 : (w3).cell? ⟨mb, 2, none⟩ = some (.slice A n c) := (HPL).out.m.cell (i := 2) (by omega)
  have lmb : LtW mb w3 := (HPL).out.m.lt
  go_wp2_with fail
  refine (HOP.out bd g cp ⟨ws, -1⟩ w3 HPL.out.d rfl).mono ?_
  rintro r w4 ⟨rfl, hb4⟩
  have hpl4 := HPL.out.grow hb4
  have HP4 : Hid (∃ lf, PL mb bd g cp W H A n c ⟨ws, lf⟩ w w4) := Lib.hid ⟨_, hpl4⟩
  have HSS := Lib.hid (HSTP.out)
  clear hb4 hpl4 HPL q0 q1 q2 lmb
  go_wp2_with fail
  have e0 : (e == 0) = false := by simpa using hne
  go_loopw [10, 11, 12, 30] (fun lv ev v iv wr => ∃ (k : Nat), k ≤ sn ∧ iv = .int .i64 k ∧ lv = .pointer none ∧ ev = .int .i64 e ∧ Hid (OutS mb v (badT e k) wr) ∧ Hid (∃ lf, PL mb bd g cp W H A n c ⟨ws, lf⟩ w wr)) (fun _ _ _ iv _ => sn - (intOf iv).toNat)
  case atStart => exact ⟨0, by omega, rfl, rfl, rfl, Lib.hid (OutS.nil _ _), HP4⟩
  case round =>
    obtain ⟨k, hk, rfl, rfl, rfl, HOUT, HPX⟩ := hrel
    clear HP4
    obtain ⟨lf, hpx⟩ := HPX.out
    have HPW := Lib.hid hpx
    obtain ⟨AO, CO, rfl⟩ := HOUT.out.form
    rw [badT_len] at HOUT ⊢
    clear HPX
    by_cases hks : k < sn
    · have dk : decide ((k : Int) < (sn : Int)) = true := by simp; omega
      have dk' : decide (k < sn) = true := by simpa using hks
      obtain ⟨bS, oS, eS, hbS, hcS⟩ := (HSTP.out.below (show Below w.heap.size w wr from hpx.bel)).2 (by omega)
      obtain ⟨s0, s1, s2⟩ := hcS k hks
      subst eS
      obtain ⟨x, hx⟩ : ∃ x, ST.getD k ⟨0, false, 0⟩ = x := ⟨_, rfl⟩
      rw [hx] at s0 s1 s2
      obtain ⟨pw, op, ev⟩ := x
      simp only at s0 s1 s2
      have lbS : LtW bS wr := hbS
      clear hcS hx hbS hpx
      go_upto_region 7 with fail
      have hlb : LB mb bd g cp wr.heap.size W H A n c ⟨ws, lf⟩ (.slice AO k CO) (badT e k) ⟨pw, op, ev⟩ w (wr.alloc (.cells #[.int .i64 (pw), .bool op, .int .i64 (ev)] 53)) :=
        ⟨HPW.out.grow (by repeat (first | exact Below.refl _ _ | refine Below.drew ?_ | refine below_drewN ?_ _ | refine Below.alloc ?_ (by first | exact Nat.le_refl _ | (simp; done) | (simp; omega) | omega) _ | refine Below.setCell ?_ (by first | exact Nat.le_refl _ | (simp; done) | (simp; omega) | omega) _ | refine bExtW ?_ (by first | exact Nat.le_refl _ | (simp; done) | (simp; omega) | omega) | refine Below.trans ?_ (Below.mono (by assumption) (by first | exact Nat.le_refl _ | (simp; done) | (simp; omega) | omega)))), HOUT.out.below (by repeat (first | exact Below.refl _ _ | refine Below.drew ?_ | refine below_drewN ?_ _ | refine Below.alloc ?_ (by first | exact Nat.le_refl _ | (simp; done) | (simp; omega) | omega) _ | refine Below.setCell ?_ (by first | exact Nat.le_refl _ | (simp; done) | (simp; omega) | omega) _ | refine bExtW ?_ (by first | exact Nat.le_refl _ | (simp; done) | (simp; omega) | omega) | refine Below.trans ?_ (Below.mono (by assumption) (by first | exact Nat.le_refl _ | (simp; done) | (simp; omega) | omega)))), stF_alloc wr ⟨pw, op, ev⟩⟩
      have HLB := Lib.hid hlb
      clear hlb s0 s1 s2 lbS HPW HOUT
      generalize wr.alloc (.cells #[.int .i64 (pw), .bool op, .int .i64 (ev)] 53) = w1 at *
      obtain ⟨sb, hsb⟩ : ∃ sb, wr.heap.size = sb := ⟨_, rfl⟩
      rw [hsb] at HLB ⊢
      clear hsb
      have s0 : (w1).cell? ⟨sb, 0, none⟩ = some (.int .i64 (pw)) := (HLB).out.st.cell (i := 0) (by omega)
      have s1 : (w1).cell? ⟨sb, 1, none⟩ = some (.bool op) := (HLB).out.st.cell (i := 1) (by omega)
      have s2 : (w1).cell? ⟨sb, 2, none⟩ = some (.int .i64 (ev)) := (HLB).out.st.cell (i := 2) (by omega)
      have ls : LtW sb w1 := (HLB).out.st.lt
      obtain ⟨bp, hbp⟩ : ∃ b, (pw != 0) = b := ⟨_, rfl⟩
      go_upto_if 36 with fail
      go_cut [] (fun wx => ∃ lf, LB mb bd g cp sb W H A n c ⟨ws, lf⟩ (.slice AO k CO) (badT e k) ⟨pw, op, ev⟩ w wx)
      case first =>
        cases bp with
        | true =>
          have d1 : w1.cell? ⟨bd, 1, none⟩ = some (.int .i64 (lf)) := HLB.out.pl.d.row.cell (i := 1) (by omega)
          have fd1 := HLB.out.pl.d.row.frozen 1
          have ld : LtW bd w1 := HLB.out.pl.d.row.lt
          have HLX := Lib.hid (HLB.out.setL (IntKind.i64.wrap (pw - 1)) (wrap_wf _))
          clear hbp HLB
          go_wp2
          go_meet
          have e9 : wrap64 (pw - 1) = IntKind.i64.wrap (pw - 1) := by unfold wrap64; exact (IntKind.wrap_i64 _).symm
          rw [e9]
          exact ⟨_, HLX.out⟩
        | false =>
          clear hbp
          go_wp2
          go_meet
          exact ⟨_, HLB.out⟩
      obtain ⟨lf2, hlb2⟩ := hcut
      have HLB2 := Lib.hid hlb2
      clear hlb2 HLB hbp s0 s1 s2 ls
      have s0 : (wc).cell? ⟨sb, 0, none⟩ = some (.int .i64 (pw)) := (HLB2).out.st.cell (i := 0) (by omega)
      have s1 : (wc).cell? ⟨sb, 1, none⟩ = some (.bool op) := (HLB2).out.st.cell (i := 1) (by omega)
      have s2 : (wc).cell? ⟨sb, 2, none⟩ = some (.int .i64 (ev)) := (HLB2).out.st.cell (i := 2) (by omega)
      have ls : LtW sb wc := (HLB2).out.st.lt
      have q0 : (wc).cell? ⟨mb, 0, none⟩ = some (.int .i64 (W)) := (HLB2).out.pl.m.cell (i := 0) (by omega)
      have q1 : (wc).cell? ⟨mb, 1, none⟩ = some (.int .i64 (H)) := (HLB2).out.pl.m.cell (i := 1) (by omega)
      have q2 : (wc).cell? ⟨mb, 2, none⟩ = some (.slice A n c) := (HLB2).out.pl.m.cell (i := 2) (by omega)
      have lmb : LtW mb wc := (HLB2).out.pl.m.lt
      go_upto_if 44 with fail
      go_cut [10, 11] (fun lv ev2 wx => lv = .pointer none ∧ ev2 = .int .i64 e ∧ Hid (LB mb bd g cp sb W H A n c ⟨ws, lf2⟩ (.slice AO k CO) (badT e k) ⟨pw, op, ev⟩ w wx))
      case first =>
        cases op with
        | true =>
          go_wp2_with fail
          refine (HOP.out bd g cp ⟨ws, lf2⟩ wc HLB2.out.pl.d rfl).mono ?_
          rintro r w4 ⟨rfl, hb4⟩
          have HLB3 := Lib.hid (HLB2.out.grow hb4)
          clear hb4 HLB2 q0 q1 q2 lmb s0 s1 s2 ls
          go_wp2
          go_meet
          exact ⟨rfl, rfl, HLB3⟩
        | false =>
          go_wp2
          go_meet
          exact ⟨rfl, rfl, HLB2⟩
      obtain ⟨rfl, rfl, HLB3⟩ := hcut
      clear q0 q1 q2 lmb s0 s1 s2 ls HLB2 HOP
      go_upto_region 17 with fail
      have hx5 := xF_alloc wc none 0 0 ⟨0, 0, 0, [], e, 0⟩
      have hl5 := HLB3.out.grow (show Below wc.heap.size wc (wc.alloc (.cells #[.int .i64 (0), .int .i64 (0), .int .i64 (0), .slice none 0 0, .int .i64 (e), .int .i64 (0)] 34)) from (by repeat (first | exact Below.refl _ _ | refine Below.drew ?_ | refine below_drewN ?_ _ | refine Below.alloc ?_ (by first | exact Nat.le_refl _ | (simp; done) | (simp; omega) | omega) _ | refine Below.setCell ?_ (by first | exact Nat.le_refl _ | (simp; done) | (simp; omega) | omega) _ | refine bExtW ?_ (by first | exact Nat.le_refl _ | (simp; done) | (simp; omega) | omega) | refine Below.trans ?_ (Below.mono (by assumption) (by first | exact Nat.le_refl _ | (simp; done) | (simp; omega) | omega)))))
      generalize wc.alloc (.cells #[.int .i64 (0), .int .i64 (0), .int .i64 (0), .slice none 0 0, .int .i64 (e), .int .i64 (0)] 34) = w5 at *
      generalize wc.heap.size = xb at *
      obtain ⟨vs, hvl, hvo, hvr⟩ := hl5.out
      have HL5 := Lib.hid hl5; have HVO := Lib.hid hvo; have HVR := Lib.hid hvr; have HVL := Lib.hid hvl
      rw [badT_len] at hvo
      have HVO2 := Lib.hid hvo
      have hms := hl5.pl.bel.size
      have hmb2 := HMBE.out
      have x0 : (w5).cell? ⟨xb, 0, none⟩ = some (.int .i64 (((⟨0, 0, 0, [], e, 0⟩ : Seen)).do_)) := (hx5).cell (i := 0) (by omega)
      have x1 : (w5).cell? ⟨xb, 1, none⟩ = some (.int .i64 (((⟨0, 0, 0, [], e, 0⟩ : Seen)).st)) := (hx5).cell (i := 1) (by omega)
      have x2 : (w5).cell? ⟨xb, 2, none⟩ = some (.int .i64 (((⟨0, 0, 0, [], e, 0⟩ : Seen)).wv)) := (hx5).cell (i := 2) (by omega)
      have x3 : (w5).cell? ⟨xb, 3, none⟩ = some ((.slice none 0 0)) := (hx5).cell (i := 3) (by omega)
      have x4 : (w5).cell? ⟨xb, 4, none⟩ = some (.int .i64 (((⟨0, 0, 0, [], e, 0⟩ : Seen)).oe)) := (hx5).cell (i := 4) (by omega)
      have x5 : (w5).cell? ⟨xb, 5, none⟩ = some (.int .i64 (((⟨0, 0, 0, [], e, 0⟩ : Seen)).er)) := (hx5).cell (i := 5) (by omega)
      have lx : LtW xb w5 := (hx5).lt
      simp only at x0 x1 x2 x4 x5
      clear hl5 hvo hvr hvl hx5 HLB3
      go_wp2_with (at_builtin; go_loud (refine wpAppG okSeen rfl (.tmp 80) (.tmp 82) rfl mb _ _ _ #[.int .i64 (0), .int .i64 (0), .int .i64 (0), .slice none 0 0, .int .i64 (e), .int .i64 (0)] w5.heap.size rfl (HVO2.out.alloc _) rfl ?_ rfl ?_ (by omega) (by omega) (by rw [World.size_alloc]; omega) ?_))
      · intro j u hj
        rw [World.cell?_alloc_new]; exact hj
      · simp [Value.oneCell']
      · intro v' w6 hown6 hg6
        obtain ⟨A6, c6, rfl⟩ := own_form hown6
        have hal : Below w5.heap.size w5 (w5.alloc (.cells #[.int .i64 (0), .int .i64 (0), .int .i64 (0), .slice none 0 0, .int .i64 (e), .int .i64 (0)] 34)) := (Below.refl _ _).alloc (Nat.le_refl _) _
        have hout6 := OutS.app (x := ⟨0, 0, 0, [], e, 0⟩) (xv := .slice none 0 0) HVL.out HVO.out HVR.out (.inl ⟨rfl, rfl⟩) hal (by rw [badT_len]; exact hown6) hg6
        have hpl6 := (HL5.out.pl.grow hal).grown hg6 (HL5.out.out.below hal)
        have HO6 : Hid (OutS mb (.slice A6 (k + 1) c6) (badT e (k + 1)) w6) := Lib.hid (by rw [badT_succ]; exact hout6)
        have HP6 : Hid (∃ lf, PL mb bd g cp W H A n c ⟨ws, lf⟩ w w6) := Lib.hid ⟨_, hpl6⟩
        clear hown6 hg6 hal hout6 hpl6 HVO HVR HVL HVO2 HL5 x0 x1 x2 x3 x4 x5 lx
        go_wp2
        go_roundw
        case rel =>
          first
            | exact ⟨k + 1, by omega, by go_num, rfl, rfl, HO6, HP6⟩
            | (repeat apply Exists.intro
               exact ⟨⟨k + 1, by omega, by go_num, rfl, rfl, HO6, HP6⟩, rfl⟩)
        case measure => simp [intOf]; omega
    · obtain rfl : k = sn := by omega
      have d0 : wr.cell? ⟨bd, 0, none⟩ = some (.slice (some ⟨g, 0, none⟩) ws.length cp) := HPW.out.d.row.cell (i := 0) (by omega)
      have d2 : wr.cell? ⟨bd, 2, none⟩ = some (.bool false) := HPW.out.d.row.cell (i := 2) (by omega)
      have ld : LtW bd wr := HPW.out.d.row.lt
      have dk : decide ((k : Int) < (k : Int)) = false := by simp
      go_wp2_with fail
      (refine wp_region_ext (by kernel_rfl) (by kernel_rfl) ?_; (repeat (first | ((with_reducible refine ext_step (fun K hK => ?_)); go_simp; first | (refine hK _ ?_; clear hK K) | (apply Exists.intro; refine ⟨fun _ _ => ?_, hK _ ?_⟩; fail; clear hK K)))); refine wpQuiet_nil ?_; intro E d)
      go_wp2
      go_ret3
      have hbe : Below wr.heap.size wr (extW wr E d) := bExtW (Below.refl _ _) (Nat.le_refl _)
      have hd9 := HPW.out.d.keep (a1 := 0) hbe
      refine ⟨_, some ⟨g, 0, none⟩, cp, rfl, ?_, DK.ints hd9, ?_⟩
      · rw [HMBE.out]; exact HOUT.out.below hbe
      · exact HPW.out.bel.trans (hbe.mono HPW.out.bel.size)
end Go.Proofs.Ytefmlepogpjhmaa
