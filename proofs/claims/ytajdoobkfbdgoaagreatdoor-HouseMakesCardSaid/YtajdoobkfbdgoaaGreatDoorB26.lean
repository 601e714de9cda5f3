/- Lemmas on which the law of this seat rests; each states its own conditions. -/
import Derived.Test.YtajdoobkfbdgoaaGreatDoorB24
import Derived.Test.YtajdoobkfbdgoaaGreatDoorB25
set_option linter.unusedVariables false
set_option linter.unusedSimpArgs false
namespace Go.Proofs.YtajdoobkfbdgoaaGreatDoor
section
open Go.RowKit
open By (bytesOf hasAt sgL encN decL colAt rowF RowR readS rowsF RdR hdR)
structure RJ (q q1 cb base : Nat) (w0 : World) (G : Int) (LL : List (List Nat)) (v : Value) (w : World) : Prop where
 res : w.rowIs q 38 4 (ctF 0 0 0 (.slice none 0 0))
 flt : w.rowIs q1 32 2 (ftF 0 0)
 row : w.rowIs cb 38 4 (ctF G 0 0 (.slice none 0 0))
 out : OutL base v (natLL LL) w
 bel : Below q w0 w
 siz : base ≤ w.heap.size
theorem RJ.grow {q q1 cb base : Nat} {w0 w w' : World} {G : Int} {LL : List (List Nat)} {v : Value} (h : RJ q q1 cb base w0 G LL v w) (hb : Below w.heap.size w w') : RJ q q1 cb base w0 G LL v w' :=
 ⟨rowBelow h.res hb h.res.lt, rowBelow h.flt hb h.flt.lt, rowBelow h.row hb h.row.lt, h.out.below hb, h.bel.trans (hb.mono (by have := h.res.lt; omega)), Nat.le_trans h.siz hb.size⟩
theorem RJ.setG {q q1 cb base : Nat} {w0 w : World} {G : Int} {LL : List (List Nat)} {v : Value} (h : RJ q q1 cb base w0 G LL v w) (h1 : q < q1) (h2 : q1 < cb) (G' : Int) : RJ q q1 cb base w0 G' LL v (w.setCell ⟨cb, 0, none⟩ (.int .i64 G')) :=
 ⟨h.res.of_block (Below.heap_setCell _ _ _ q (by simp; omega)), h.flt.of_block (Below.heap_setCell _ _ _ q1 (by simp; omega)), (h.row.set 0 _).congr (fun j hj => ctF_0 j hj),
  h.out.belowX (mb := cb) ⟨rfl, rfl, rfl, by rw [World.size_setCell]; exact Nat.le_refl _, fun k hk hne => Below.heap_setCell _ _ _ k (fun e => hne e)⟩ h.row (by decide) (by decide), h.bel.setCell (by simp; omega) _, by rw [World.size_setCell]; exact h.siz⟩
theorem rj_start (w : World) : RJ w.heap.size (w.heap.size + 1) (w.heap.size + 1 + 1) (w.heap.size + 1 + 1 + 1) w 4 [] (.slice none 0 0) ((((w.alloc (.cells #[.int .i64 (0), .int .i64 (0), .int .i64 (0), .slice none 0 0] 38)).alloc (.cells #[.int .i64 (0), .int .i64 (0)] 32)).alloc (.cells #[.int .i64 (4), .int .i64 (0), .int .i64 (0), .slice none 0 0] 38))) := by
 have h1 := (((ctF_alloc w 0 0 0 none 0 0).alloc (.cells #[.int .i64 (0), .int .i64 (0)] 32)).alloc (.cells #[.int .i64 (4), .int .i64 (0), .int .i64 (0), .slice none 0 0] 38))
 have h2 := (ftF_alloc (w.alloc (.cells #[.int .i64 (0), .int .i64 (0), .int .i64 (0), .slice none 0 0] 38)) 0 0).alloc (.cells #[.int .i64 (4), .int .i64 (0), .int .i64 (0), .slice none 0 0] 38)
 have h4 := ctF_alloc ((w.alloc (.cells #[.int .i64 (0), .int .i64 (0), .int .i64 (0), .slice none 0 0] 38)).alloc (.cells #[.int .i64 (0), .int .i64 (0)] 32)) 4 0 0 none 0 0
 rw [World.size_alloc] at h2
 rw [World.size_alloc, World.size_alloc] at h4
 exact ⟨h1, h2, h4, OutL.nil _ _, blw, by simp⟩
def fnd (B : List Nat) (i k : Nat) : Int := match colAt B i with
 | some c => if c < k then (c : Int) else -1
 | none => -1
theorem fnd_zero (B : List Nat) (i : Nat) : fnd B i 0 = -1 := by unfold fnd; split <;> simp
theorem fnd_hit {B : List Nat} (hB : ∀ x ∈ B, x < 256) {i k : Nat} (hk : k < 62) (h : hasAt B i (sgL k)) : fnd B i (k + 1) = k := by
 unfold fnd; rw [(By.colAt_some hB).2 ⟨hk, h⟩]; simp
theorem fnd_miss {B : List Nat} (hB : ∀ x ∈ B, x < 256) {i k : Nat} (h : ¬ hasAt B i (sgL k)) : fnd B i (k + 1) = fnd B i k := by
 unfold fnd
 cases hc : colAt B i with
 | none => rfl
 | some c =>
  have h1 := (By.colAt_some hB).1 hc
  have h2 : c ≠ k := fun e => h (by rw [← e]; exact h1.2)
  simp only
  by_cases h3 : c < k
  ·rw [if_pos h3, if_pos (by omega)]
  ·rw [if_neg h3, if_neg (by omega)]
theorem fnd_none {B : List Nat} {i k : Nat} (h : colAt B i = none) : fnd B i k = -1 := by unfold fnd; rw [h]
theorem fnd_some {B : List Nat} {i c : Nat} (h : colAt B i = some c) (hc : c < 62) : fnd B i 62 = c := by unfold fnd; rw [h]; simp; omega
theorem rev_take (rows : List (List Nat)) {j : Nat} (h : j < rows.length) : (rows.reverse.take (j + 1)).flatten = (rows.reverse.take j).flatten ++ rows.getD (rows.length - 1 - j) [] := by
 rw [List.take_add_one, List.flatten_append]
 congr 1
 rw [List.getElem?_reverse h, List.getD_eq_getElem?_getD]
 have h2 : rows.length - 1 - j < rows.length := by omega
 rw [List.getElem?_eq_getElem h2]
 simp
theorem flat_le (rows : List (List Nat)) (h : ∀ r ∈ rows, r.length ≤ 64) : rows.flatten.length ≤ 64 * rows.length := by
 induction rows with
 | nil => simp
 | cons r rs ih =>
  have h1 := h r (by simp)
  have h2 := ih fun x hx => h x (by simp [hx])
  rw [List.flatten_cons, List.length_append, List.length_cons]
  omega
theorem OutL.at {base n C : Nat} {A : Option Addr} {LL : List (List Int)} {w : World} (h : OutL base (.slice A n C) LL w) {j : Nat} (hj : j < LL.length) : ∃ g A' c', A = some ⟨g, 0, none⟩ ∧ g < w.heap.size ∧ w.cell? ⟨g, j, none⟩ = some (.slice A' (LL.getD j []).length c') ∧ IsInts w A' (LL.getD j []).length (LL.getD j []) ∧ (A' = none → c' = 0) := by
 obtain ⟨vs, ho, hr⟩ := h
 rcases ho.2 with ⟨h1, h2⟩ | ⟨g, cap, cur, e, e2, e3, e4⟩
 ·omega
 ·injection e with e1 en ec
  subst e1
  have hl : vs.length = LL.length := by have := ho.1; omega
  subst en
  have hg := (ho.lt g rfl).2
  have hcell : w.cell? ⟨g, j, none⟩ = some (vs.getD j (.slice none 0 0)) := by
   have h3 := ho.cellAt j (by omega)
   rw [h3, List.getD_eq_getElem?_getD, List.getElem?_eq_getElem (by omega)]
   rfl
  rcases hr j hj with ⟨h5, h6⟩ | ⟨g2, cap2, f2, c2, h5, h6, h7, h8⟩
  ·refine ⟨g, none, 0, rfl, hg, ?_, ?_, fun _ => rfl⟩
   ·rw [hcell, h5, h6]; rfl
   ·rw [h6]; exact ⟨rfl, fun h => absurd h (by simp)⟩
  ·refine ⟨g, some ⟨g2, 0, none⟩, c2, rfl, hg, ?_, ?_, fun e => by cases e⟩
   ·rw [hcell, h5]
   ·obtain ⟨a, c, e5, hI⟩ := (hr j hj).ints
    rw [h5] at e5
    injection e5 with e51
    subst e51
    exact hI
theorem nats_cells {w : World} {A : Option Addr} {L : List Nat} (h : IsInts w A L.length (natI L)) (hn : 0 < L.length) : ∃ b of, A = some ⟨b, of, none⟩ ∧ ∀ j u, (colsV L)[j]? = some u → w.cell? ⟨b, of + j, none⟩ = some u := by
 obtain ⟨b, o, e, _, hc⟩ := h.2 hn
 refine ⟨b, o, e, fun j u hj => ?_⟩
 have hjl : j < L.length := by
  have := (List.getElem?_eq_some_iff.1 hj).1
  simpa [colsV] using this
 rw [hc j hjl]
 unfold colsV at hj
 rw [List.getElem?_map, List.getElem?_eq_getElem hjl] at hj
 rw [← Option.some.inj hj]
 simp [natI, List.getD, hjl]
structure RK (cb : Nat) (w3 : World) (G wd ht : Int) (acc : List Nat) (v : Value) (w : World) : Prop where
 row : w.rowIs cb 38 4 (ctF G wd ht v)
 own : w.ownsRow w3.heap.size 3 1 v acc.length (colsV acc)
 bel : BelowX w3.heap.size cb w3 w
theorem RK.app {cb : Nat} {w3 w w' : World} {G wd ht : Int} {acc acc' : List Nat} {v v' : Value} (h : RK cb w3 G wd ht acc v w) (hc : cb < w3.heap.size) (hb : Below w3.heap.size w w') (hown : w'.ownsRow w3.heap.size 3 1 v' acc'.length (colsV acc')) : RK cb w3 G wd ht acc' v' (w'.setCell ⟨cb, 3, none⟩ v') := by
 refine ⟨((rowBelow h.row hb hc).set 3 _).congr fun i hi => ?_, ownsRow_setCell_below hown (a := ⟨cb, 3, none⟩) hc _, ?_⟩
 ·have hi3 : i = 0 ∨ i = 1 ∨ i = 2 ∨ i = 3 := by omega
  rcases hi3 with rfl | rfl | rfl | rfl <;> rfl
 ·have h1 := h.bel.trans (BelowX.of_below h.bel.size hb)
  exact ⟨h1.os, h1.tape, h1.output, by rw [World.size_setCell]; exact h1.size, fun k hk hne => by rw [Below.heap_setCell _ _ _ k (fun e => hne e)]; exact h1.block k hk hne⟩
theorem RJ.app {q q1 cb base : Nat} {w0 w wa w' : World} {G : Int} {LL : List (List Nat)} {row : List Nat} {v v' x : Value} {vs : List Value} (h : RJ q q1 cb base w0 G LL v w) (h1 : q < q1) (h2 : q1 < cb) (h3 : cb < base) (ho : w.ownsRow base 22 1 v (natLL LL).length vs) (hr : ∀ j, j < (natLL LL).length → IntRow w (vs.getD j (.slice none 0 0)) ((natLL LL).getD j []))
  (hx : IntRow w x (natI row)) (ha : Below w.heap.size w wa) (hown : w'.ownsRow base 22 1 v' ((natLL LL).length + 1) (vs ++ [x])) (hg : wa.grownBy w' v.ownBlock) : RJ q q1 cb base w0 G (LL ++ [row]) v' w' := by
 have hbw : Below base w w' := by
  refine (ha.mono h.siz).trans (belowGrown hg (Nat.le_trans h.siz ha.size) fun k hk => ?_)
  rcases ho.2 with ⟨e, _⟩ | ⟨g, cap, cur, e, hb, _⟩
  ·rw [e] at hk; cases hk
  ·rw [e] at hk
   have e2 : some g = some k := hk
   injection e2 with e2
   omega
 refine ⟨rowBelow h.res hbw (by omega), rowBelow h.flt hbw (by omega), rowBelow h.row hbw (by omega), ?_, h.bel.trans (hbw.mono (by omega)), Nat.le_trans h.siz hbw.size⟩
 have e : natLL (LL ++ [row]) = natLL LL ++ [natI row] := by unfold natLL; simp
 rw [e]
 exact OutL.app ho hr hx ha hown hg
theorem lfRd80 {P : Prop} (h : P := by
 go_wp2_with fail
 refine (r2Bad_any 5 (i : Int) _).mono ?_
 rintro r w8 ⟨rfl, hb8⟩
 have hu8 := HRJ.out.grow hb8
 have q0 : (w8).cell? ⟨q, 0, none⟩ = some (.int .i64 (0)) := (hu8).res.cell (i := 0) (by omega)
 have q1' : (w8).cell? ⟨q, 1, none⟩ = some (.int .i64 (0)) := (hu8).res.cell (i := 1) (by omega)
 have q2 : (w8).cell? ⟨q, 2, none⟩ = some (.int .i64 (0)) := (hu8).res.cell (i := 2) (by omega)
 have q3 : (w8).cell? ⟨q, 3, none⟩ = some (.slice none 0 0) := (hu8).res.cell (i := 3) (by omega)
 have f0 := (hu8).res.frozen 0; have f1 := (hu8).res.frozen 1; have f2 := (hu8).res.frozen 2; have f3 := (hu8).res.frozen 3
 have s0 : (w8).cell? ⟨q1, 0, none⟩ = some (.int .i64 (0)) := (hu8).flt.cell (i := 0) (by omega)
 have s1 : (w8).cell? ⟨q1, 1, none⟩ = some (.int .i64 (0)) := (hu8).flt.cell (i := 1) (by omega)
 have e0 := (hu8).flt.frozen 0; have e1 := (hu8).flt.frozen 1
 have lq : LtW q w8 := (hu8).res.lt
 have lq1 : LtW q1 w8 := (hu8).flt.lt
 have HBF := Lib.hid hu8.bel
 clear hb8 hu8 HRJ
 go_wp2
 refine bodyPost_ret (v := .tuple #[.agg #[.int .i64 (0), .int .i64 (0), .int .i64 (0), .slice none 0 0], .agg #[.int .i64 (5), .int .i64 ((i : Int))]]) (by simp [results, Tryz.results13, go_sem, q0, q1', q2, q3, s0, s1]) rfl ?_
 rw [HU.out]
 refine ⟨rfl, ?_⟩
 rw [HQE.out]
 exact (((((HBF.out.setCell bnq _).setCell bnq _).setCell bnq _).setCell bnq _).setCell bnq _).setCell bnq _) : P := h
theorem lfRd81 {P : Prop} (h : P := by
 have HRE : Hid (∀ r ∈ rows ++ [row], r.length ≤ 64) := Lib.hid (fun r hr => by
  rcases List.mem_append.1 hr with h | h
  ·exact HR64.out r h
  ·rw [List.mem_singleton.1 h, HRL.out]; omega)
 clear hown4 hg4 hal HOV HOO HRRR HRJ
 go_wp2
 go_roundw
 case rel => exact ⟨p + 1, f, rows ++ [row], hpN1, by omega, by rw [HHE.out]; omega, by go_num, HRE, HRZ, HRN⟩
 case measure => simp [intOf]; omega) : P := h
theorem lfRd82 {P : Prop} (h : P := by
 clear e
 (go_wp2_with fail; refine (HS1.out _).mono ?_; rintro r w1 ⟨rfl, hb⟩; obtain ⟨E, d, rfl⟩ := bExt hb; clear hb)
 go_wp2
 go_roundw
 case rel => exact ⟨k + 1, _, _, by omega, by go_num, by rw [HF1.out], by simp only [extW_extW]; rfl⟩
 case measure => simp [intOf]; omega) : P := h
theorem lfRd83 {P : Prop} (h : P := by
 clear hb h0
 go_wp2_with fail
 refine h10.mono ?_
 rintro r w3 ⟨rfl, hb3⟩
 have HB3 := Lib.hid hb3
 clear hb3 h10
 go_wp2
 go_meet
 exact ⟨rfl, HB3⟩) : P := h
set_option maxRecDepth 100000 in
set_option maxHeartbeats 8000000 in
theorem r2Read_any (s : ByteArray) (w : World) (hs : s.size ≤ 9223372036854775807) : Calls Tryz.prog 13 #[.string s] w (RdPost (readS (bytesOf s)) w) := by
  have hBL := By.bytesOf_len s
  have hB := By.bytesOf_lt s
  have HST := Lib.hid (fun (i : Nat) (t : ByteArray) (ht : 0 < t.size) (hi : i + t.size ≤ 9223372036854775807) w => starts_ok s t i w hs ht hi)
  obtain ⟨N, hN⟩ : ∃ N, s.size = N := ⟨_, rfl⟩
  rw [hN] at hBL hs
  have HN := Lib.hid hN
  have HBL := Lib.hid hBL
  clear hN hBL
  by_cases hm : 65536 < N
  · have d1 : decide ((N : Int) > 65536) = true := by simp; omega
    have d2 : decide (65536 < N) = true := by simpa using hm
    have d3 : decide ((65536 : Int) < N) = true := by simp; omega
    have HU : Hid (readS (bytesOf s) = (0, .bad 4 0)) := Lib.hid (by unfold readS; rw [if_pos (by rw [HBL.out]; exact hm)])
    have hsz : s.size = N := HN.out
    clear hm hB HST
    go_enter Tryz.func13, Tryz.ntmps13
    (go_wp2_with fail; refine (r2Bad_any 4 0 _).mono ?_; rintro r w1 ⟨rfl, hb⟩; obtain ⟨E, d, rfl⟩ := bExt hb; clear hb)
    go_wp2
    refine bodyPost_ret (v := .tuple #[.agg #[.int .i64 (0), .int .i64 (0), .int .i64 (0), .slice none 0 0], .agg #[.int .i64 (4), .int .i64 (0)]]) (by simp [results, Tryz.results13, go_sem]) rfl ?_
    rw [HU.out]
    exact ⟨rfl, blw⟩
  · have d1 : decide ((N : Int) > 65536) = false := by simp; omega
    have d2 : decide (65536 < N) = false := by simpa using hm
    have d3 : decide ((65536 : Int) < N) = false := by simp; omega
    have HR : Hid (readS (bytesOf s) = if hasAt (bytesOf s) 0 (hdR 6) then (6, if hasAt (bytesOf s) 3 [10] then rowsF (bytesOf s) (N + 2) 4 [] else .bad 2 3)
      else if hasAt (bytesOf s) 0 (hdR 4) then (4, if hasAt (bytesOf s) 3 [10] then rowsF (bytesOf s) (N + 2) 4 [] else .bad 2 3)
      else (0, .bad 2 0)) := Lib.hid (by
        have h : readS (bytesOf s) = if 65536 < (bytesOf s).length then (0, .bad 4 0) else _ := rfl
        rw [h, HBL.out, if_neg hm])
    have hsz : s.size = N := HN.out
    have hN6 : N ≤ 65536 := by omega
    have HS10 := Lib.hid (fun (i : Nat) w (hi : i ≤ N) => (show Calls Tryz.prog 41 #[.string s, .int .i64 (i), .string (ByteArray.mk #[10])] w fun e w' => e = .returned (.bool (decide (hasAt (bytesOf s) i [10]))) ∧ Below w.heap.size w w' from HST.out i (ByteArray.mk #[10]) (by decide) (by rw [show (ByteArray.mk #[10]).size = 1 by decide]; omega) w))
    have hs6 := HST.out 0 (ByteArray.mk #[226, 150, 179]) (by decide) (by decide)
    have hs4 := HST.out 0 (ByteArray.mk #[226, 150, 161]) (by decide) (by decide)
    have e6 : bytesOf (ByteArray.mk #[226, 150, 179]) = hdR 6 := by decide
    have e4 : bytesOf (ByteArray.mk #[226, 150, 161]) = hdR 4 := by decide
    rw [e6] at hs6
    rw [e4] at hs4
    clear hm e6 e4
    go_enter Tryz.func13, Tryz.ntmps13
    go_wp2_with fail
    have hrj := rj_start w
    have hoa : w.heap.size < w.heap.size + 1 := by omega
    have hob : w.heap.size + 1 < w.heap.size + 1 + 1 := by omega
    have hoc : w.heap.size + 1 + 1 < w.heap.size + 1 + 1 + 1 := by omega
    generalize (((w.alloc (.cells #[.int .i64 (0), .int .i64 (0), .int .i64 (0), .slice none 0 0] 38)).alloc (.cells #[.int .i64 (0), .int .i64 (0)] 32)).alloc (.cells #[.int .i64 (4), .int .i64 (0), .int .i64 (0), .slice none 0 0] 38)) = W0 at *
    generalize hbs : w.heap.size + 1 + 1 + 1 = base at *
    generalize w.heap.size + 1 + 1 = cb at *
    generalize w.heap.size + 1 = q1 at *
    generalize hq : w.heap.size = q at *
    have HQE := Lib.hid hq
    have HRJ := Lib.hid hrj
    clear hq hbs hrj d1 d2 d3
    obtain ⟨b6, hb6⟩ : ∃ b, decide (hasAt (bytesOf s) 0 (hdR 6)) = b := ⟨_, rfl⟩
    rw [hb6] at hs6
    refine (hs6 _).mono ?_
    rintro r w2 ⟨rfl, hb2⟩
    have hrj := HRJ.out.grow hb2
    clear hb2 HRJ
    have HRJ := Lib.hid hrj
    clear hrj
    go_upto_if 23 with fail
    go_cut [] (fun wx => ∃ GG : Nat, Hid (readS (bytesOf s) = (GG, if hasAt (bytesOf s) 3 [10] then rowsF (bytesOf s) (N + 2) 4 [] else .bad 2 3)) ∧ Hid (3 ≤ N) ∧ Hid (RJ q q1 cb base w GG [] (.slice none 0 0) wx))
    case first =>
      have h3 : ∀ G, hasAt (bytesOf s) 0 (hdR G) → 3 ≤ N := fun G h => by
        have h1 := By.hasAt_bd h (by unfold hdR; split <;> simp)
        have e3 : (hdR G).length = 3 := by unfold hdR; split <;> rfl
        rw [HBL.out, e3] at h1
        omega
      by_cases h6 : hasAt (bytesOf s) 0 (hdR 6)
      · have e6 : b6 = true := by rw [← hb6]; exact decide_eq_true h6
        subst e6
        have c0 : w2.cell? ⟨cb, 0, none⟩ = some (.int .i64 (4)) := HRJ.out.row.cell (i := 0) (by omega)
        have fc := HRJ.out.row.frozen 0
        have lc : LtW cb w2 := HRJ.out.row.lt
        have HRR : Hid (readS (bytesOf s) = (6, if hasAt (bytesOf s) 3 [10] then rowsF (bytesOf s) (N + 2) 4 [] else .bad 2 3)) := Lib.hid (by rw [HR.out, if_pos h6])
        have H3 := Lib.hid (h3 6 h6)
        clear hb6 h6 h3 HR hs4 hs6
        go_wp2_with fail
        go_meet
        exact ⟨6, HRR, H3, Lib.hid (HRJ.out.setG hoa hob 6)⟩
      · have e6 : b6 = false := by rw [← hb6]; exact decide_eq_false h6
        subst e6
        by_cases h4 : hasAt (bytesOf s) 0 (hdR 4)
        · have HRR : Hid (readS (bytesOf s) = (4, if hasAt (bytesOf s) 3 [10] then rowsF (bytesOf s) (N + 2) 4 [] else .bad 2 3)) := Lib.hid (by rw [HR.out, if_neg h6, if_pos h4])
          have H3 := Lib.hid (h3 4 h4)
          rw [decide_eq_true h4] at hs4
          clear hb6 h6 h3 HR hs6 h4
          go_wp2_with fail
          refine (hs4 _).mono ?_
          rintro r w2 ⟨rfl, hb2⟩
          have hrj := HRJ.out.grow hb2
          clear hb2 HRJ
          have HRJ := Lib.hid hrj
          clear hrj
          go_wp2_with fail
          go_meet
          exact ⟨4, HRR, H3, HRJ⟩
        · have HU : Hid (readS (bytesOf s) = (0, .bad 2 0)) := Lib.hid (by rw [HR.out, if_neg h6, if_neg h4])
          rw [decide_eq_false h4] at hs4
          clear hb6 h6 h3 HR hs6 h4
          go_wp2_with fail
          refine (hs4 _).mono ?_
          rintro r w2 ⟨rfl, hb2⟩
          have hrj := HRJ.out.grow hb2
          clear hb2 HRJ
          have HRJ := Lib.hid hrj
          clear hrj
          go_wp2_with fail
          refine (r2Bad_any 2 0 _).mono ?_
          rintro r w8 ⟨rfl, hb8⟩
          have hu8 := HRJ.out.grow hb8
          have q0 : (w8).cell? ⟨q, 0, none⟩ = some (.int .i64 (0)) := (hu8).res.cell (i := 0) (by omega)
          have q1' : (w8).cell? ⟨q, 1, none⟩ = some (.int .i64 (0)) := (hu8).res.cell (i := 1) (by omega)
          have q2 : (w8).cell? ⟨q, 2, none⟩ = some (.int .i64 (0)) := (hu8).res.cell (i := 2) (by omega)
          have q3 : (w8).cell? ⟨q, 3, none⟩ = some (.slice none 0 0) := (hu8).res.cell (i := 3) (by omega)
          have f0 := (hu8).res.frozen 0; have f1 := (hu8).res.frozen 1; have f2 := (hu8).res.frozen 2; have f3 := (hu8).res.frozen 3
          have s0 : (w8).cell? ⟨q1, 0, none⟩ = some (.int .i64 (0)) := (hu8).flt.cell (i := 0) (by omega)
          have s1 : (w8).cell? ⟨q1, 1, none⟩ = some (.int .i64 (0)) := (hu8).flt.cell (i := 1) (by omega)
          have e0 := (hu8).flt.frozen 0; have e1 := (hu8).flt.frozen 1
          have lq : LtW q w8 := (hu8).res.lt
          have lq1 : LtW q1 w8 := (hu8).flt.lt
          have HBF := Lib.hid hu8.bel
          clear hb8 hu8 HRJ
          go_wp2
          refine bodyPost_ret (v := .tuple #[.agg #[.int .i64 (0), .int .i64 (0), .int .i64 (0), .slice none 0 0], .agg #[.int .i64 (2), .int .i64 (0)]]) (by simp [results, Tryz.results13, go_sem, q0, q1', q2, q3, s0, s1]) rfl ?_
          rw [HU.out]
          refine ⟨rfl, ?_⟩
          rw [HQE.out]
          exact (((((HBF.out.setCell bnq _).setCell bnq _).setCell bnq _).setCell bnq _).setCell bnq _).setCell bnq _
    case rest =>
      obtain ⟨GG, HR2, H3, HRJ2⟩ := hcut
      clear HR hs4 hs6 hb6 HRJ
      have HRJ := HRJ2
      clear HRJ2
      have h3N := H3.out
      clear H3
      have hs3 := HS10.out 3 wc h3N
      by_cases h10 : hasAt (bytesOf s) 3 [10]
      · rw [decide_eq_true h10] at hs3
        have HRS : Hid (readS (bytesOf s) = (GG, rowsF (bytesOf s) (N + 2) 4 [])) := Lib.hid (by rw [HR2.out, if_pos h10])
        have h4N : 4 ≤ N := by have := By.hasAt_bd h10 (by simp); rw [HBL.out] at this; simp at this; omega
        clear HR2 h10
        go_wp2_with fail
        refine hs3.mono ?_
        rintro r w2 ⟨rfl, hb2⟩
        have hrj := HRJ.out.grow hb2
        clear hb2 HRJ
        have HRJ := Lib.hid hrj
        clear hrj
        clear hs3
        go_wp2_with fail
        obtain ⟨RES, hRES⟩ : ∃ RES, rowsF (bytesOf s) (N + 2) 4 [] = RES := ⟨_, rfl⟩
        rw [hRES] at HRS
        have HRES := Lib.hid hRES
        have HG := Lib.hid (fun w => Signs_ok w)
        have HSS := Lib.hid (fun (i k : Nat) w (hi : i ≤ N) (hk : k < 62) => by
          have h := HST.out i (sigS k) (by rw [sgS_size hk]; exact (By.sgL_len k).1) (by rw [sgS_size hk]; have := (By.sgL_len k).2; omega) w
          rw [sgS_L hk] at h
          exact h)
        clear hRES HST hs hB
        go_loopw [6, 7] (fun av v wr => ∃ (i f : Nat) (rows : List (List Nat)), i ≤ N ∧ N + 2 ≤ i + f ∧ rows.length ≤ 64 ∧ av = .int .i64 i ∧ Hid (∀ r ∈ rows, r.length ≤ 64) ∧ Hid (rowsF (bytesOf s) f i rows = RES) ∧ Hid (RJ q q1 cb base w GG rows v wr)) (fun av _ _ => N + 1 - (intOf av).toNat)
        case atStart => exact ⟨4, N + 2, [], by omega, by omega, by simp, rfl, Lib.hid (by simp), HRES, HRJ⟩
        case round =>
          obtain ⟨i, f, rows, hiN, hf, hr64, rfl, HR64, HRS2, HR1⟩ := hrel
          clear HRJ HRES
          obtain ⟨f, rfl⟩ : ∃ f', f = f' + 1 := ⟨f - 1, by omega⟩
          obtain ⟨A, C, hv⟩ := HR1.out.out.form
          rw [natLL_len] at hv
          subst hv
          have hun : rowsF (bytesOf s) (f + 1) i rows = if i < (bytesOf s).length ∨ rows = [] then (match rowF (bytesOf s) ((bytesOf s).length + 1) i [] with
            | .bad p => .bad 2 p
            | .ok row p => if rows ≠ [] ∧ row.length ≠ (rows.headD []).length then .bad 8 i else if 64 < row.length ∨ rows.length = 64 then .bad 5 i else rowsF (bytesOf s) f p (rows ++ [row])) else .ok rows := rfl
          rw [HRS2.out, HBL.out] at hun
          have hrow0 : rows = [] ↔ rows.length = 0 := List.length_eq_zero_iff.symm
          obtain ⟨wd, hwd⟩ : ∃ x, (rows.headD []).length = x := ⟨_, rfl⟩
          obtain ⟨ht, hht⟩ : ∃ x, rows.length = x := ⟨_, rfl⟩
          have HWD := Lib.hid hwd
          have HHT := Lib.hid hht
          rw [hwd] at hun
          rw [hht] at HR1 hr64 hrow0 hun ⊢
          clear hwd hht HRS2
          by_cases hc : i < N ∨ ht = 0
          · rw [if_pos (by rw [hrow0]; exact hc)] at hun
            simp only [ne_eq, hrow0] at hun
            obtain ⟨RR, hRR⟩ : ∃ RR, rowF (bytesOf s) (N + 1) i [] = RR := ⟨_, rfl⟩
            have hfo := fun r p h => By.rowF_ok (By.bytesOf_lt s) (N + 1) i [] r p h (fun k hk => by cases hk)
            rw [hRR] at hun hfo
            have HUN := Lib.hid hun
            have HFO := Lib.hid hfo
            have HR0 := Lib.hid hrow0
            have HRR := Lib.hid hRR
            clear hun hfo hRR hrow0
            go_upto_region 14 with fail
            go_cut [51] (fun c wx => c = .bool true ∧ wx = wr)
            case first =>
              by_cases hi2 : i < N
              · have t1 : decide ((i : Int) < (N : Int)) = true := by simp; omega
                have t2 : decide (i < N) = true := by simp; omega
                go_wp2
                go_meet
                exact ⟨rfl, rfl⟩
              · obtain rfl : ht = 0 := by omega
                have t1 : decide ((i : Int) < (N : Int)) = false := by simp; omega
                have t2 : decide (i < N) = false := by simp; omega
                go_wp2
                go_meet
                exact ⟨rfl, rfl⟩
            obtain ⟨rfl, rfl⟩ := hcut
            clear hc
            obtain ⟨wo, hwo⟩ : ∃ wo : World, wo = wc := ⟨_, rfl⟩
            subst hwo
            go_wp2_with fail
            go_loopw [6, 9] (fun av rv w2 => ∃ (p f2 : Nat) (row : List Nat), i ≤ p ∧ p ≤ N ∧ N + 1 ≤ p + f2 ∧ row.length ≤ p ∧ av = .int .i64 p ∧ Hid (rowF (bytesOf s) f2 p row = RR) ∧ Hid (w2.ownsRow wo.heap.size 3 1 rv row.length (natV row)) ∧ Hid (Below wo.heap.size wo w2)) (fun av _ _ => N + 1 - (intOf av).toNat)
            case atStart => exact ⟨i, N + 1, [], by omega, hiN, by omega, by simp, rfl, HRR, Lib.hid (World.ownsRow_nil _ _ _ _), Lib.hid (Below.refl _ _)⟩
            case round =>
              obtain ⟨p, f2, row, hip, hpN, hf2, hrl0, rfl, HRF, HOW, HBW⟩ := hrel
              clear HRR
              obtain ⟨f2, rfl⟩ : ∃ f', f2 = f' + 1 := ⟨f2 - 1, by omega⟩
              obtain ⟨A9, C9, rfl⟩ := own_form HOW.out
              have hu2 : rowF (bytesOf s) (f2 + 1) p row = if row ≠ [] ∧ hasAt (bytesOf s) p [10] then .ok row (p + 1) else
                match colAt (bytesOf s) p with
                | none => .bad p
                | some k => rowF (bytesOf s) f2 (p + (sgL k).length) (row ++ [k]) := rfl
              rw [HRF.out] at hu2
              obtain ⟨rl, hrl⟩ : ∃ rl, row.length = rl := ⟨_, rfl⟩
              have hre : row = [] ↔ rl = 0 := by rw [← hrl]; exact List.length_eq_zero_iff.symm
              simp only [ne_eq, hre] at hu2
              have HU2 := Lib.hid hu2
              rw [hrl] at HOW hrl0 ⊢
              have HRL := Lib.hid hrl
              obtain ⟨bc, hbc⟩ : ∃ b, decide (¬ (rl ≠ 0 ∧ hasAt (bytesOf s) p [10])) = b := ⟨_, rfl⟩
              have HBC := Lib.hid hbc
              clear hbc hrl hre hu2 HRF
              go_upto_region 17 with fail
              go_cut [61] (fun c wx => c = .bool bc ∧ Hid (Below wr.heap.size wr wx))
              case first =>
                by_cases h0 : rl = 0
                · subst h0
                  have e : bc = true := by rw [← HBC.out]; simp
                  subst e
                  go_wp2
                  go_meet
                  exact ⟨rfl, Lib.hid (Below.refl _ _)⟩
                · have e0 : ((rl : Int) == 0) = false := by simp; omega
                  have e0' : (rl == 0) = false := by simp; omega
                  have h10 := HS10.out p wr hpN
                  by_cases hb : hasAt (bytesOf s) p [10]
                  · rw [decide_eq_true hb] at h10
                    have e : bc = false := by rw [← HBC.out]; simp [h0, hb]
                    subst e
                    exact lfRd83
                  · rw [decide_eq_false hb] at h10
                    have e : bc = true := by rw [← HBC.out]; simp [hb]
                    subst e
                    exact lfRd83
              obtain ⟨rfl, HBX⟩ := hcut
              have HOX := Lib.hid (ownBelow HOW.out HBX.out)
              have HBY := Lib.hid (HBW.out.trans (HBX.out.mono HBW.out.size))
              clear HOW HBW HBX
              cases bc with
              | true =>
                have hne : ¬ (rl ≠ 0 ∧ hasAt (bytesOf s) p [10]) := of_decide_eq_true HBC.out
                have HU3 : Hid (RR = match colAt (bytesOf s) p with
                  | none => .bad p
                  | some k => rowF (bytesOf s) f2 (p + (sgL k).length) (row ++ [k])) := Lib.hid (by rw [HU2.out, if_neg hne])
                clear hne HU2
                go_wp2_with fail
                refine (HG.out _).mono ?_
                rintro r w3 ⟨As, Cs, rfl, hown, hb3⟩
                have HCE : Hid (∀ k, k < 62 → w3.cell? ⟨As, k, none⟩ = some (.string (sigS k))) := Lib.hid fun k hk => sigs_cell hown hk
                have HOZ := Lib.hid (ownBelow HOX.out hb3)
                have HBZ := Lib.hid (HBY.out.trans (hb3.mono HBY.out.size))
                clear hown hb3 HOX HBY
                go_wp2_with fail
                go_loopw [10, 64] (fun fv kv wr => ∃ (k : Nat) (E : Array Obj) (d : Nat), k ≤ 62 ∧ kv = .int .i64 k ∧ fv = .int .i64 (fnd (bytesOf s) p k) ∧ wr = extW w3 E d) (fun _ kv _ => 62 - (intOf kv).toNat)
                case atStart => exact ⟨0, #[], _, by omega, rfl, by rw [fnd_zero], extW_zero _⟩
                case round =>
                  obtain ⟨k, E, d, hk, rfl, rfl, rfl⟩ := hrel
                  by_cases hk6 : k < 62
                  · have dk : decide ((k : Int) < 62) = true := by simp; omega
                    have dk' : decide (k < 62) = true := by simpa using hk6
                    have vk : IntKind.i64.wrap ((k : Int) + 1) = (k : Int) + 1 := IntWalk.i64_in _ (by omega)
                    have c0 := HCE.out k hk6
                    have lA : LtW As w3 := World.block_lt_of_cell? _ _ c0
                    have HS1 := Lib.hid (fun w => HSS.out p k w hpN hk6)
                    by_cases e : hasAt (bytesOf s) p (sgL k)
                    · rw [decide_eq_true e] at HS1
                      have HF1 := Lib.hid (fnd_hit (By.bytesOf_lt s) hk6 e)
                      generalize fnd (bytesOf s) p k = z
                      generalize sigS k = t at *
                      exact lfRd82
                    · rw [decide_eq_false e] at HS1
                      have HF1 := Lib.hid (fnd_miss (By.bytesOf_lt s) e)
                      generalize fnd (bytesOf s) p k = z at *
                      generalize sigS k = t at *
                      exact lfRd82
                  · obtain rfl : k = 62 := by omega
                    have hbe : Below w3.heap.size w3 (extW w3 E d) := bExtW (Below.refl _ _) (Nat.le_refl _)
                    have HOV := Lib.hid (ownBelow HOZ.out hbe)
                    have HBV := Lib.hid (HBZ.out.trans (hbe.mono HBZ.out.size))
                    clear HOZ HBZ hbe HCE
                    generalize extW w3 E d = wv at *
                    cases hcc : colAt (bytesOf s) p with
                    | none =>
                      rw [fnd_none hcc]
                      have HU : Hid (readS (bytesOf s) = (GG, .bad 2 p)) := Lib.hid (by
                        have h := HU3.out
                        rw [hcc] at h
                        simp only at h
                        have h2 := HUN.out
                        rw [h] at h2
                        rw [HRS.out, h2])
                      have HRJ := Lib.hid (HR1.out.grow HBV.out)
                      clear hcc HU3 HUN HR1 HOV HBV HG HSS HS10
                      go_wp2_with fail
                      refine (r2Bad_any 2 (p : Int) _).mono ?_
                      rintro r w8 ⟨rfl, hb8⟩
                      have hu8 := HRJ.out.grow hb8
                      have q0 : (w8).cell? ⟨q, 0, none⟩ = some (.int .i64 (0)) := (hu8).res.cell (i := 0) (by omega)
                      have q1' : (w8).cell? ⟨q, 1, none⟩ = some (.int .i64 (0)) := (hu8).res.cell (i := 1) (by omega)
                      have q2 : (w8).cell? ⟨q, 2, none⟩ = some (.int .i64 (0)) := (hu8).res.cell (i := 2) (by omega)
                      have q3 : (w8).cell? ⟨q, 3, none⟩ = some (.slice none 0 0) := (hu8).res.cell (i := 3) (by omega)
                      have f0 := (hu8).res.frozen 0; have f1 := (hu8).res.frozen 1; have f2 := (hu8).res.frozen 2; have f3 := (hu8).res.frozen 3
                      have s0 : (w8).cell? ⟨q1, 0, none⟩ = some (.int .i64 (0)) := (hu8).flt.cell (i := 0) (by omega)
                      have s1 : (w8).cell? ⟨q1, 1, none⟩ = some (.int .i64 (0)) := (hu8).flt.cell (i := 1) (by omega)
                      have e0 := (hu8).flt.frozen 0; have e1 := (hu8).flt.frozen 1
                      have lq : LtW q w8 := (hu8).res.lt
                      have lq1 : LtW q1 w8 := (hu8).flt.lt
                      have HBF := Lib.hid hu8.bel
                      clear hb8 hu8 HRJ
                      go_wp2
                      refine bodyPost_ret (v := .tuple #[.agg #[.int .i64 (0), .int .i64 (0), .int .i64 (0), .slice none 0 0], .agg #[.int .i64 (2), .int .i64 ((p : Int))]]) (by simp [results, Tryz.results13, go_sem, q0, q1', q2, q3, s0, s1]) rfl ?_
                      rw [HU.out]
                      refine ⟨rfl, ?_⟩
                      rw [HQE.out]
                      exact (((((HBF.out.setCell bnq _).setCell bnq _).setCell bnq _).setCell bnq _).setCell bnq _).setCell bnq _
                    | some c =>
                      have h1 := (By.colAt_some (By.bytesOf_lt s)).1 hcc
                      have hc62 := h1.1
                      have hpm := By.hasAt_bd h1.2 (By.sgL_ne c)
                      rw [HBL.out] at hpm
                      have hm1 := (By.sgL_len c).1
                      rw [fnd_some hcc hc62]
                      have HU4 : Hid (rowF (bytesOf s) f2 (p + (sgL c).length) (row ++ [c]) = RR) := Lib.hid (by
                        have h := HU3.out
                        rw [hcc] at h
                        exact h.symm)
                      have HMM := Lib.hid (sgS_size hc62)
                      generalize (sgL c).length = m at *
                      have d5 : decide ((c : Int) < 0) = false := by simp
                      have v2 : IntKind.i64.wrap ((p : Int) + (m : Int)) = (p : Int) + (m : Int) := IntWalk.i64_in _ (by omega)
                      have hsz3 := HBV.out.size
                      clear h1 hcc HU3 HUN HRS HSS HS10 HR1
                      go_wp2_with (at_builtin; refine wpApp okRdI rfl (.tmp 82) (.tmp 84) rfl wo.heap.size _ _ _ #[.int .i64 c] rfl HOV.out rfl rfl (by simp [Value.oneCell']) (by omega) (by omega) hsz3 ?_)
                      intro v' w4 hown4 hb4
                      obtain ⟨A', cp', rfl⟩ := own_form hown4
                      have HO4 : Hid (w4.ownsRow wo.heap.size 3 1 (.slice A' (rl + 1) cp') (row ++ [c]).length (natV (row ++ [c]))) := Lib.hid (by
                        rw [natV_snoc, List.length_append, List.length_singleton, HRL.out]; exact hown4)
                      have HB4 := Lib.hid (HBV.out.trans hb4)
                      clear hown4 hb4 HOV HBV
                      go_wp2_with fail
                      refine (HG.out _).mono ?_
                      rintro r w5 ⟨A2, C2, rfl, hown2, hb5⟩
                      have c2 := sigs_cell hown2 hc62
                      have lA2 : LtW A2 w5 := World.block_lt_of_cell? _ _ c2
                      have HO5 := Lib.hid (ownBelow HO4.out hb5)
                      have HB5 := Lib.hid (HB4.out.trans (hb5.mono HB4.out.size))
                      have hms := HMM.out
                      generalize sigS c = t at *
                      clear hown2 hb5 HO4 HB4 HG
                      go_wp2
                      go_roundw
                      case rel => exact ⟨p + m, f2, row ++ [c], by omega, by omega, by omega, by rw [List.length_append, List.length_singleton, HRL.out]; omega, rfl, HU4, HO5, HB5⟩
                      case measure => simp [intOf]; omega
              | false =>
                have hend : rl ≠ 0 ∧ hasAt (bytesOf s) p [10] := Decidable.not_not.1 (of_decide_eq_false HBC.out)
                have hrl1 := hend.1
                have hpN1 : p + 1 ≤ N := by
                  have := By.hasAt_bd hend.2 (by simp)
                  rw [HBL.out] at this
                  exact this
                have hun2 : RES = if ¬ ht = 0 ∧ ¬ row.length = wd then .bad 8 i else if 64 < row.length ∨ ht = 64 then .bad 5 i else rowsF (bytesOf s) f (p + 1) (rows ++ [row]) := by
                  have h1 := HU2.out
                  rw [if_pos hend] at h1
                  have h := HUN.out
                  rw [h1] at h
                  exact h
                rw [HRL.out] at hun2
                have HUZ := Lib.hid hun2
                have HRJ := Lib.hid (HR1.out.grow HBY.out)
                have HIR := Lib.hid (IntRow.of_nats (L := row) (by rw [HRL.out]; exact HOX.out))
                have v1 : IntKind.i64.wrap ((p : Int) + 1) = (p : Int) + 1 := IntWalk.i64_in _ (by omega)
                clear hun2 hend HU2 HUN HR1 HBY HOX HG HSS HS10 HBC
                by_cases h0 : ht = 0
                · subst h0
                  by_cases h64 : 64 < rl
                  · have e5 : decide ((rl : Int) > 64) = true := by simp; omega
                    have e6 : decide ((64 : Int) < (rl : Int)) = true := by simp; omega
                    have e7 : decide (64 < rl) = true := by simp; omega
                    have HU : Hid (readS (bytesOf s) = (GG, .bad 5 i)) := Lib.hid (by rw [HRS.out, HUZ.out, if_neg (fun x => x.1 rfl), if_pos (.inl h64)])
                    exact lfRd80
                  · have e5 : decide ((rl : Int) > 64) = false := by simp; omega
                    have e6 : decide ((64 : Int) < (rl : Int)) = false := by simp; omega
                    have e7 : decide (64 < rl) = false := by simp; omega
                    have HRZ : Hid (rowsF (bytesOf s) f (p + 1) (rows ++ [row]) = RES) := Lib.hid (by rw [HUZ.out, if_neg (fun x => x.1 rfl), if_neg (by omega)])
                    obtain ⟨vs, ho, hr⟩ := HRJ.out.out
                    have ho2 := ho
                    rw [natLL_len, HHT.out] at ho2
                    have HOV := Lib.hid ho2
                    have HOO := Lib.hid ho
                    have HRRR := Lib.hid hr
                    have hsb := HRJ.out.siz
                    clear ho ho2 hr
                    go_wp2_with (at_builtin; refine wpAppG okLists rfl (.tmp 125) (.tmp 127) rfl base _ _ _ #[.slice A9 rl C9] wc.heap.size rfl (HOV.out.alloc _) rfl ?_ rfl ?_ (by omega) (by omega) (by rw [World.size_alloc]; omega) ?_)
                    · first | rfl | simp [Value.oneCell']
                    · intro v' w4 hown4 hg4
                      obtain ⟨A', c', rfl⟩ := own_form hown4
                      have hal : Below wc.heap.size wc (wc.alloc (.cells #[.slice A9 rl C9] 22)) := (Below.refl _ _).alloc (Nat.le_refl _) _
                      have HRN := Lib.hid (HRJ.out.app hoa hob hoc HOO.out HRRR.out HIR.out hal (by rw [natLL_len, HHT.out]; exact hown4) hg4)
                      have HHE : Hid ((rows ++ [row]).length = 0 + 1) := Lib.hid (by rw [List.length_append, HHT.out]; rfl)
                      exact lfRd81
                · have e1 : decide ((ht : Int) > 0) = true := by simp; omega
                  have e2 : decide ((0 : Int) < (ht : Int)) = true := by simp; omega
                  have e3 : decide (0 < ht) = true := by simp; omega
                  obtain ⟨a9, c9, e9, hL9⟩ := HRJ.out.out.lists
                  rw [natLL_len, HHT.out] at e9 hL9
                  injection e9 with e91 _ e92
                  subst e91 e92
                  obtain ⟨gb, ob, eA, hgb, hcl⟩ := hL9.2 (by omega)
                  subst eA
                  obtain ⟨A0, C0, hc0, _⟩ := hcl 0 (by omega)
                  have hw0 : ((natLL rows).getD 0 []).length = wd := by
                    rw [natLL_get, natI, List.length_map, ← HWD.out]
                    cases rows <;> rfl
                  rw [hw0, Nat.add_zero] at hc0
                  have lgb : LtW gb wc := hgb
                  clear hL9 hcl hw0 hgb
                  by_cases hrw : rl = wd
                  · have e5 : ((rl : Int) != (wd : Int)) = false := by simp; omega
                    have e6 : (rl != wd) = false := by simp; omega
                    by_cases h64 : 64 < rl
                    · have e7 : decide ((rl : Int) > 64) = true := by simp; omega
                      have e8 : decide ((64 : Int) < (rl : Int)) = true := by simp; omega
                      have e9 : decide (64 < rl) = true := by simp; omega
                      have HU : Hid (readS (bytesOf s) = (GG, .bad 5 i)) := Lib.hid (by rw [HRS.out, HUZ.out, if_neg (fun x => x.2 hrw), if_pos (.inl h64)])
                      clear hrw
                      exact lfRd80
                    · have e7 : decide ((rl : Int) > 64) = false := by simp; omega
                      have e8 : decide ((64 : Int) < (rl : Int)) = false := by simp; omega
                      have e9 : decide (64 < rl) = false := by simp; omega
                      by_cases hh64 : ht = 64
                      · have e10 : ((ht : Int) == 64) = true := by simp; omega
                        have e11 : (ht == 64) = true := by simp; omega
                        have HU : Hid (readS (bytesOf s) = (GG, .bad 5 i)) := Lib.hid (by rw [HRS.out, HUZ.out, if_neg (fun x => x.2 hrw), if_pos (.inr hh64)])
                        clear hrw
                        subst hh64
                        clear e10 e11 e1 e2 e3
                        exact lfRd80
                      · have e10 : ((ht : Int) == 64) = false := by simp; omega
                        have e11 : (ht == 64) = false := by simp; omega
                        have HRZ : Hid (rowsF (bytesOf s) f (p + 1) (rows ++ [row]) = RES) := Lib.hid (by rw [HUZ.out, if_neg (fun x => x.2 hrw), if_neg (by omega)])
                        clear hrw
                        obtain ⟨vs, ho, hr⟩ := HRJ.out.out
                        have ho2 := ho
                        rw [natLL_len, HHT.out] at ho2
                        have HOV := Lib.hid ho2
                        have HOO := Lib.hid ho
                        have HRRR := Lib.hid hr
                        have hsb := HRJ.out.siz
                        clear ho ho2 hr
                        go_wp2_with (at_builtin; refine wpAppG okLists rfl (.tmp 125) (.tmp 127) rfl base _ _ _ #[.slice A9 rl C9] wc.heap.size rfl (HOV.out.alloc _) rfl ?_ rfl ?_ (by omega) (by omega) (by rw [World.size_alloc]; omega) ?_)
                        · first | rfl | simp [Value.oneCell']
                        · intro v' w4 hown4 hg4
                          obtain ⟨A', c', rfl⟩ := own_form hown4
                          have hal : Below wc.heap.size wc (wc.alloc (.cells #[.slice A9 rl C9] 22)) := (Below.refl _ _).alloc (Nat.le_refl _) _
                          have HRN := Lib.hid (HRJ.out.app hoa hob hoc HOO.out HRRR.out HIR.out hal (by rw [natLL_len, HHT.out]; exact hown4) hg4)
                          have HHE : Hid ((rows ++ [row]).length = ht + 1) := Lib.hid (by rw [List.length_append, HHT.out]; rfl)
                          exact lfRd81
                  · have e5 : ((rl : Int) != (wd : Int)) = true := by simp; omega
                    have e6 : (rl != wd) = true := by simp; omega
                    have HU : Hid (readS (bytesOf s) = (GG, .bad 8 i)) := Lib.hid (by rw [HRS.out, HUZ.out, if_pos ⟨h0, hrw⟩])
                    clear hrw
                    go_wp2_with fail
                    refine (r2Bad_any 8 (i : Int) _).mono ?_
                    rintro r w8 ⟨rfl, hb8⟩
                    have hu8 := HRJ.out.grow hb8
                    have q0 : (w8).cell? ⟨q, 0, none⟩ = some (.int .i64 (0)) := (hu8).res.cell (i := 0) (by omega)
                    have q1' : (w8).cell? ⟨q, 1, none⟩ = some (.int .i64 (0)) := (hu8).res.cell (i := 1) (by omega)
                    have q2 : (w8).cell? ⟨q, 2, none⟩ = some (.int .i64 (0)) := (hu8).res.cell (i := 2) (by omega)
                    have q3 : (w8).cell? ⟨q, 3, none⟩ = some (.slice none 0 0) := (hu8).res.cell (i := 3) (by omega)
                    have f0 := (hu8).res.frozen 0; have f1 := (hu8).res.frozen 1; have f2 := (hu8).res.frozen 2; have f3 := (hu8).res.frozen 3
                    have s0 : (w8).cell? ⟨q1, 0, none⟩ = some (.int .i64 (0)) := (hu8).flt.cell (i := 0) (by omega)
                    have s1 : (w8).cell? ⟨q1, 1, none⟩ = some (.int .i64 (0)) := (hu8).flt.cell (i := 1) (by omega)
                    have e0 := (hu8).flt.frozen 0; have e1 := (hu8).flt.frozen 1
                    have lq : LtW q w8 := (hu8).res.lt
                    have lq1 : LtW q1 w8 := (hu8).flt.lt
                    have HBF := Lib.hid hu8.bel
                    clear hb8 hu8 HRJ
                    go_wp2
                    refine bodyPost_ret (v := .tuple #[.agg #[.int .i64 (0), .int .i64 (0), .int .i64 (0), .slice none 0 0], .agg #[.int .i64 (8), .int .i64 ((i : Int))]]) (by simp [results, Tryz.results13, go_sem, q0, q1', q2, q3, s0, s1]) rfl ?_
                    rw [HU.out]
                    refine ⟨rfl, ?_⟩
                    rw [HQE.out]
                    exact (((((HBF.out.setCell bnq _).setCell bnq _).setCell bnq _).setCell bnq _).setCell bnq _).setCell bnq _
          · have hht0 : ht ≠ 0 := fun h => hc (.inr h)
            have e0 : ((ht : Int) == 0) = false := by simp; omega
            have e0' : (ht == 0) = false := by simp; omega
            have t1 : decide ((i : Int) < (N : Int)) = false := by simp; omega
            have t2 : decide (i < N) = false := by simp; omega
            rw [if_neg (by rw [hrow0]; exact hc)] at hun
            have HU : Hid (readS (bytesOf s) = (GG, .ok rows)) := Lib.hid (by rw [HRS.out, hun])
            clear hun hrow0 hc HG HSS HS10
            obtain ⟨gb, A0, C0, eA, hgb, hc0, _, _⟩ := HR1.out.out.at (j := 0) (by rw [natLL_len, HHT.out]; omega)
            subst eA
            have hw0 : ((natLL rows).getD 0 []).length = wd := by
              rw [natLL_get, natI, List.length_map, ← HWD.out]
              cases rows <;> rfl
            rw [hw0] at hc0
            have lgb : LtW gb wr := hgb
            have c1 : wr.cell? ⟨cb, 1, none⟩ = some (.int .i64 (0)) := HR1.out.row.cell (i := 1) (by omega)
            have c2 : wr.cell? ⟨cb, 2, none⟩ = some (.int .i64 (0)) := HR1.out.row.cell (i := 2) (by omega)
            have g1 := HR1.out.row.frozen 1; have g2 := HR1.out.row.frozen 2
            have lc : LtW cb wr := HR1.out.row.lt
            clear hw0 hgb
            go_wp2_with fail
            have hrw3 : ((wr.setCell ⟨cb, 1, none⟩ (.int .i64 ((wd : Int)))).setCell ⟨cb, 2, none⟩ (.int .i64 ((ht : Int)))).rowIs cb 38 4 (ctF GG wd ht (.slice none 0 0)) :=
              ((((HR1.out.row.set 1 (.int .i64 ((wd : Int)))).congr (fun j hj => ctF_1 j hj)).set 2 (.int .i64 ((ht : Int)))).congr (fun j hj => ctF_2 j hj))
            have hx3 : BelowX wr.heap.size cb wr ((wr.setCell ⟨cb, 1, none⟩ (.int .i64 ((wd : Int)))).setCell ⟨cb, 2, none⟩ (.int .i64 ((ht : Int)))) :=
              ⟨rfl, rfl, rfl, by rw [World.size_setCell, World.size_setCell]; exact Nat.le_refl _, fun k hk hne => by rw [Below.heap_setCell _ _ _ k (fun e => hne e), Below.heap_setCell _ _ _ k (fun e => hne e)]⟩
            have hol3 := HR1.out.out.belowX hx3 HR1.out.row (by decide) (by decide)
            have hres3 := hx3.rowIs HR1.out.res HR1.out.res.lt (by omega)
            have hflt3 := hx3.rowIs HR1.out.flt HR1.out.flt.lt (by omega)
            have hbel3 := (HR1.out.bel.setCell (p := ⟨cb, 1, none⟩) (by simp; omega) (.int .i64 ((wd : Int)))).setCell (p := ⟨cb, 2, none⟩) (by simp; omega) (.int .i64 ((ht : Int)))
            clear hx3 c1 c2 g1 g2 lc lgb hc0 HR1
            generalize (wr.setCell ⟨cb, 1, none⟩ (.int .i64 ((wd : Int)))).setCell ⟨cb, 2, none⟩ (.int .i64 ((ht : Int))) = w3 at *
            have HW3 := Lib.hid hrw3; have HOL := Lib.hid hol3; have HRES3 := Lib.hid hres3; have HFLT3 := Lib.hid hflt3; have HBEL := Lib.hid hbel3
            have hcl3 : cb < w3.heap.size := hrw3.lt
            have HK0 : Hid (RK cb w3 GG wd ht [] (.slice none 0 0) w3) := Lib.hid ⟨hrw3, World.ownsRow_nil _ _ _ _, BelowX.refl (Nat.le_refl _)⟩
            clear hrw3 hol3 hres3 hflt3 hbel3
            go_loopw [139] (fun iv wr => ∃ (j : Nat) (v : Value), j ≤ ht ∧ iv = .int .i64 j ∧ Hid (RK cb w3 GG wd ht ((rows.reverse.take j).flatten) v wr)) (fun iv _ => ht - (intOf iv).toNat)
            case atStart => exact ⟨0, _, by omega, rfl, HK0⟩
            case round =>
              obtain ⟨j, v, hj, rfl, HK⟩ := hrel
              clear HK0
              obtain ⟨A, C, rfl⟩ := own_form HK.out.own
              obtain ⟨acc, hacc⟩ : ∃ x, (rows.reverse.take j).flatten = x := ⟨_, rfl⟩
              rw [hacc] at HK
              have HAC := Lib.hid hacc
              clear hacc
              by_cases hjh : j < ht
              · obtain ⟨kk, hkk⟩ : ∃ kk, ht - 1 - j = kk := ⟨_, rfl⟩
                have hk1 : kk < ht := by omega
                have b1 : IntKind.i64.wrap ((ht : Int) - 1) = (ht : Int) - 1 := IntWalk.i64_in _ (by omega)
                have b2 : (ht : Int) - 1 - (j : Int) = (kk : Int) := by omega
                have b3 : IntKind.i64.wrap (kk : Int) = (kk : Int) := IntWalk.i64_in _ (by omega)
                have hfl : acc.length ≤ 64 * j := by
                  rw [← HAC.out]
                  have h := flat_le (rows.reverse.take j) (fun r hr => HR64.out r (by have := List.mem_of_mem_take hr; simpa using this))
                  rw [List.length_take, List.length_reverse, HHT.out, Nat.min_eq_left hj] at h
                  exact h
                have hnx : (rows.reverse.take (j + 1)).flatten = acc ++ rows.getD kk [] := by
                  have h := rev_take rows (j := j) (by rw [HHT.out]; exact hjh)
                  rw [HHT.out, hkk, HAC.out] at h
                  exact h
                obtain ⟨rw_, hrw_⟩ : ∃ r, rows.getD kk [] = r := ⟨_, rfl⟩
                have hr64 : rw_.length ≤ 64 := by
                  rw [← hrw_, List.getD_eq_getElem?_getD, List.getElem?_eq_getElem (by rw [HHT.out]; exact hk1)]
                  exact HR64.out _ (List.getElem_mem _)
                rw [hrw_] at hnx
                have HNX := Lib.hid hnx
                have hol := HOL.out.belowX HK.out.bel HW3.out (by decide) (by decide)
                obtain ⟨gk, Aj, Cj, eA, hgk, hcj, hIj, hzj⟩ := hol.at (j := kk) (by rw [natLL_len, HHT.out]; exact hk1)
                injection eA with eA
                injection eA with eg
                subst eg
                have hlr : (natI rw_).length = rw_.length := by simp [natI]
                rw [natLL_get, hrw_, hlr] at hcj hIj
                have HZJ := Lib.hid hzj
                have HIJ := Lib.hid hIj
                have lgk : LtW gb wr := hgk
                have c3 : wr.cell? ⟨cb, 3, none⟩ = some (.slice A acc.length C) := HK.out.row.cell (i := 3) (by omega)
                have g3 := HK.out.row.frozen 3
                have lc : LtW cb wr := HK.out.row.lt
                have dj : decide ((j : Int) < (ht : Int)) = true := by simp; omega
                have dj' : decide (j < ht) = true := by simp; omega
                clear hkk hnx hrw_ hol hIj hgk hjh hlr hzj
                go_wp2_with fail
                (refine wp_region_ext_tail 10 (by kernel_rfl) (by kernel_rfl) ?_; simp only [List.take_succ_cons, List.take_zero, List.drop_succ_cons, List.drop_zero]; (repeat (first | ((with_reducible refine ext_step (fun K hK => ?_)); go_simp; first | (refine hK _ ?_; clear hK K) | (apply Exists.intro; refine ⟨fun _ _ => ?_, hK _ ?_⟩; fail; clear hK K)))); refine wpQuiet_nil ?_; intro E d)
                have hbe : Below wr.heap.size wr (extW wr E d) := bExtW (Below.refl _ _) (Nat.le_refl _)
                have HIX := Lib.hid (HIJ.out.below hbe)
                have HOX := Lib.hid (ownBelow HK.out.own hbe)
                have HRX := Lib.hid (rowBelow HK.out.row hbe HK.out.row.lt)
                have HBX := Lib.hid (HK.out.bel.trans (BelowX.of_below HK.out.bel.size (hbe.mono HK.out.bel.size)))
                clear c3 g3 lc lgk hcj hbe HIJ
                generalize extW wr E d = wx at *
                have c3 : wx.cell? ⟨cb, 3, none⟩ = some (.slice A acc.length C) := HRX.out.cell (i := 3) (by omega)
                have g3 := HRX.out.frozen 3
                have lc : LtW cb wx := HRX.out.lt
                go_wp2_with (at_builtin; refine wpAppV okRdI rfl (.tmp 143) (.tmp 151) rfl w3.heap.size _ acc.length (colsV acc) Aj rw_.length Cj (colsV rw_) rfl HOX.out rfl HZJ.out (by simp [colsV]) (nats_cells HIX.out) (cols_one rw_) (by omega) (by omega) HBX.out.size ?_)
                intro v' w4 hown4 hg4 hat4
                obtain ⟨A', C', rfl⟩ := own_form hown4
                have hb4 : Below w3.heap.size wx w4 := belowGrown hg4 HBX.out.size (fun k hk => by
                  rcases HOX.out.2 with ⟨e, _⟩ | ⟨g, cap, cur, e, hb, _⟩
                  · rw [e] at hk; cases hk
                  · rw [e] at hk
                    have e2 : some g = some k := hk
                    injection e2 with e2
                    omega)
                have hown5 : w4.ownsRow w3.heap.size 3 1 (.slice A' (acc.length + rw_.length) C') (acc ++ rw_).length (colsV (acc ++ rw_)) := by
                  rw [List.length_append]; unfold colsV at hown4 ⊢; rw [List.map_append]; exact hown4
                have hrk : RK cb w3 GG wd ht acc (.slice A acc.length C) wx := ⟨HRX.out, HOX.out, HBX.out⟩
                have HKN := Lib.hid (hrk.app hcl3 hb4 hown5)
                have c3' : w4.cell? ⟨cb, 3, none⟩ = some (.slice A acc.length C) := (hb4.cell (p := ⟨cb, 3, none⟩) hcl3).trans c3
                have g3' := (hb4.frozen (p := ⟨cb, 3, none⟩) hcl3).trans g3
                have lc' : LtW cb w4 := Nat.lt_of_lt_of_le lc hb4.size
                clear hown4 hg4 hat4 hown5 hb4 hrk c3 g3 lc
                go_wp2
                go_roundw
                case rel =>
                  first
                    | exact ⟨j + 1, _, by omega, by go_num, by rw [HNX.out]; exact HKN⟩
                    | (repeat apply Exists.intro
                       exact ⟨⟨j + 1, _, by omega, by go_num, by rw [HNX.out]; exact HKN⟩, rfl⟩)
                case measure => simp [intOf]; omega
              · obtain rfl : j = ht := by omega
                have dj : decide ((j : Int) < (j : Int)) = false := by simp
                have hHT := HHT.out
                have hfull : acc = rows.reverse.flatten := by
                  rw [← HAC.out, List.take_of_length_le (by rw [List.length_reverse, hHT]; exact Nat.le_refl _)]
                have HFU := Lib.hid hfull
                have c0 : wr.cell? ⟨cb, 0, none⟩ = some (.int .i64 ((GG : Int))) := HK.out.row.cell (i := 0) (by omega)
                have c1 : wr.cell? ⟨cb, 1, none⟩ = some (.int .i64 ((wd : Int))) := HK.out.row.cell (i := 1) (by omega)
                have c2 : wr.cell? ⟨cb, 2, none⟩ = some (.int .i64 ((j : Int))) := HK.out.row.cell (i := 2) (by omega)
                have c3 : wr.cell? ⟨cb, 3, none⟩ = some (.slice A acc.length C) := HK.out.row.cell (i := 3) (by omega)
                have lc : LtW cb wr := HK.out.row.lt
                have hresR := HK.out.bel.rowIs HRES3.out HRES3.out.lt (by omega)
                have hfltR := HK.out.bel.rowIs HFLT3.out HFLT3.out.lt (by omega)
                have q0 : wr.cell? ⟨q, 0, none⟩ = some (.int .i64 (0)) := hresR.cell (i := 0) (by omega)
                have q1' : wr.cell? ⟨q, 1, none⟩ = some (.int .i64 (0)) := hresR.cell (i := 1) (by omega)
                have q2 : wr.cell? ⟨q, 2, none⟩ = some (.int .i64 (0)) := hresR.cell (i := 2) (by omega)
                have q3 : wr.cell? ⟨q, 3, none⟩ = some (.slice none 0 0) := hresR.cell (i := 3) (by omega)
                have f0 := hresR.frozen 0; have f1 := hresR.frozen 1; have f2 := hresR.frozen 2; have f3 := hresR.frozen 3
                have s0 : wr.cell? ⟨q1, 0, none⟩ = some (.int .i64 (0)) := hfltR.cell (i := 0) (by omega)
                have s1 : wr.cell? ⟨q1, 1, none⟩ = some (.int .i64 (0)) := hfltR.cell (i := 1) (by omega)
                have e0 := hfltR.frozen 0; have e1 := hfltR.frozen 1
                have lq : LtW q wr := hresR.lt
                have lq1 : LtW q1 wr := hfltR.lt
                have hbW : Below q w wr := HBEL.out.trans ⟨HK.out.bel.os, HK.out.bel.tape, HK.out.bel.output, by have := HK.out.bel.size; omega, fun k hk => HK.out.bel.block k (by omega) (by omega)⟩
                have HBF := Lib.hid hbW
                have hbq : q < w3.heap.size := by omega
                have hbq1 : q1 < w3.heap.size := by omega
                have HOW := Lib.hid HK.out.own
                have HB1 := HBF
                clear hresR hfltR hfull hHT hbW HK HRES3 HFLT3 HBEL
                go_wp2
                refine bodyPost_ret (v := .tuple #[.agg #[.int .i64 ((GG : Int)), .int .i64 ((wd : Int)), .int .i64 ((j : Int)), .slice A acc.length C], .agg #[.int .i64 (0), .int .i64 (0)]]) (by simp [results, Tryz.results13, go_sem, q0, q1', q2, q3, s0, s1]) rfl ?_
                rw [HU.out]
                have hown2 := ownsRow_setCell_below (ownsRow_setCell_below (ownsRow_setCell_below (ownsRow_setCell_below (ownsRow_setCell_below (ownsRow_setCell_below HOW.out (a := ⟨q, 0, none⟩) hbq (.int .i64 ((GG : Int)))) (a := ⟨q, 1, none⟩) hbq (.int .i64 ((wd : Int)))) (a := ⟨q, 2, none⟩) hbq (.int .i64 ((j : Int)))) (a := ⟨q, 3, none⟩) hbq (.slice A acc.length C)) (a := ⟨q1, 0, none⟩) hbq1 (.int .i64 (0))) (a := ⟨q1, 1, none⟩) hbq1 (.int .i64 (0))
                obtain ⟨a9, c9, e9, hI9⟩ := IsInts.of_nats hown2
                injection e9 with e91 _ e92
                subst e91 e92
                refine ⟨?_, ?_⟩
                · simp only
                  rw [HWD.out, HHT.out, ← HFU.out]
                  exact ⟨A, C, rfl, hI9⟩
                · rw [HQE.out]
                  exact (((((HB1.out.setCell bnq _).setCell bnq _).setCell bnq _).setCell bnq _).setCell bnq _).setCell bnq _
      · rw [decide_eq_false h10] at hs3
        have HU : Hid (readS (bytesOf s) = (GG, .bad 2 3)) := Lib.hid (by rw [HR2.out, if_neg h10])
        clear HR2 h10
        go_wp2_with fail
        refine hs3.mono ?_
        rintro r w2 ⟨rfl, hb2⟩
        have hrj := HRJ.out.grow hb2
        clear hb2 HRJ
        have HRJ := Lib.hid hrj
        clear hrj
        clear hs3
        go_wp2_with fail
        refine (r2Bad_any 2 3 _).mono ?_
        rintro r w8 ⟨rfl, hb8⟩
        have hu8 := HRJ.out.grow hb8
        have q0 : (w8).cell? ⟨q, 0, none⟩ = some (.int .i64 (0)) := (hu8).res.cell (i := 0) (by omega)
        have q1' : (w8).cell? ⟨q, 1, none⟩ = some (.int .i64 (0)) := (hu8).res.cell (i := 1) (by omega)
        have q2 : (w8).cell? ⟨q, 2, none⟩ = some (.int .i64 (0)) := (hu8).res.cell (i := 2) (by omega)
        have q3 : (w8).cell? ⟨q, 3, none⟩ = some (.slice none 0 0) := (hu8).res.cell (i := 3) (by omega)
        have f0 := (hu8).res.frozen 0; have f1 := (hu8).res.frozen 1; have f2 := (hu8).res.frozen 2; have f3 := (hu8).res.frozen 3
        have s0 : (w8).cell? ⟨q1, 0, none⟩ = some (.int .i64 (0)) := (hu8).flt.cell (i := 0) (by omega)
        have s1 : (w8).cell? ⟨q1, 1, none⟩ = some (.int .i64 (0)) := (hu8).flt.cell (i := 1) (by omega)
        have e0 := (hu8).flt.frozen 0; have e1 := (hu8).flt.frozen 1
        have lq : LtW q w8 := (hu8).res.lt
        have lq1 : LtW q1 w8 := (hu8).flt.lt
        have HBF := Lib.hid hu8.bel
        clear hb8 hu8 HRJ
        go_wp2
        refine bodyPost_ret (v := .tuple #[.agg #[.int .i64 (0), .int .i64 (0), .int .i64 (0), .slice none 0 0], .agg #[.int .i64 (2), .int .i64 (3)]]) (by simp [results, Tryz.results13, go_sem, q0, q1', q2, q3, s0, s1]) rfl ?_
        rw [HU.out]
        refine ⟨rfl, ?_⟩
        rw [HQE.out]
        exact (((((HBF.out.setCell bnq _).setCell bnq _).setCell bnq _).setCell bnq _).setCell bnq _).setCell bnq _
end
end Go.Proofs.YtajdoobkfbdgoaaGreatDoor
