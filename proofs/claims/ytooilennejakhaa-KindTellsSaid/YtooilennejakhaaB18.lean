/- Lemmas and contracts of functions (what each call returns, and that it changes nothing that was there) that the proof of a law of this seat uses; each lemma states its own conditions. -/
import Derived.Test.YtooilennejakhaaB17
import Derived.Test.YtooilennejakhaaB12
namespace Go.Proofs.Ytooilennejakhaa
open Go.RowKit
set_option linter.unusedVariables false
set_option linter.unusedSimpArgs false
open Z (torN place pnt Mv To lin okT nrm keepB colP idm)
/-- The cells of a move. -/
def mvK (m : Mv) : List Value := [.int .i64 m.t, .bool m.f, .int .i64 m.o.1, .int .i64 m.o.2]
def mvsK (L : List Mv) : List Value := L.flatMap mvK
theorem mvsK_app (L : List Mv) (m : Mv) : mvsK (L ++ [m]) = mvsK L ++ mvK m := by unfold mvsK; rw [List.flatMap_append]; simp
theorem mvsK_len (L : List Mv) : (mvsK L).length = L.length * 4 := by
  unfold mvsK
  induction L with
  | nil => rfl
  | cons m L ih => rw [List.flatMap_cons, List.length_append, ih]; simp [mvK]; omega
theorem mvsK_get : ∀ (L : List Mv) (j r : Nat), j < L.length → r < 4 → (mvsK L)[4 * j + r]? = (mvK (L.getD j idm))[r]?
  | [], j, r, h, _ => absurd h (by simp)
  | m :: L, 0, r, _, hr => by
    unfold mvsK
    rw [List.flatMap_cons, List.getElem?_append_left (by simp [mvK]; omega)]
    simp
  | m :: L, j + 1, r, h, hr => by
    have ih := mvsK_get L j r (by simpa using h) hr
    unfold mvsK at ih ⊢
    rw [List.flatMap_cons, List.getElem?_append_right (by simp [mvK]; omega)]
    rw [show 4 * (j + 1) + r - (mvK m).length = 4 * j + r by simp [mvK]; omega, ih]
    simp
/-- A list of moves in memory. -/
def IsMoves (w : World) (a : Option Addr) (n : Nat) (L : List Mv) : Prop :=
  L.length = n ∧ (0 < n → ∃ b o, a = some ⟨b, o, none⟩ ∧ b < w.heap.size ∧ ∀ j, j < n → w.cell? ⟨b, o + j * 4, none⟩ = some (.int .i64 (L.getD j idm).t) ∧ w.cell? ⟨b, o + j * 4 + 1, none⟩ = some (.bool (L.getD j idm).f) ∧ w.cell? ⟨b, o + j * 4 + 2, none⟩ = some (.int .i64 (L.getD j idm).o.1) ∧ w.cell? ⟨b, o + j * 4 + 3, none⟩ = some (.int .i64 (L.getD j idm).o.2))
theorem IsMoves.below {w w' : World} {a : Option Addr} {n : Nat} {L : List Mv} (h : IsMoves w a n L) (hb : Below w.heap.size w w') : IsMoves w' a n L := by
  refine ⟨h.1, fun hn => ?_⟩
  obtain ⟨b, o, h1, h2, h3⟩ := h.2 hn
  refine ⟨b, o, h1, Nat.lt_of_lt_of_le h2 hb.size, fun j hj => ?_⟩
  obtain ⟨c0, c1, c2, c3⟩ := h3 j hj
  exact ⟨bCs hb c0, bCs hb c1, bCs hb c2, bCs hb c3⟩
/-- A list of moves that the call made. -/
def OwnM (w : World) (base : Nat) (A : Option Addr) (n C : Nat) (L : List Mv) : Prop := L.length = n ∧ w.ownsRow base 39 4 (.slice A n C) n (mvsK L)
theorem OwnM.below {w w' : World} {base n C : Nat} {A : Option Addr} {L : List Mv} (h : OwnM w base A n C L) (hb : Below w.heap.size w w') : OwnM w' base A n C L := ⟨h.1, ownBelow h.2 hb⟩
theorem OwnM.grownT {w w' : World} {base n C b' e' s' n' : Nat} {A : Option Addr} {L : List Mv} {v' : Value} {xs' : List Value} (h : OwnM w base A n C L) (h' : w.ownsRow b' e' s' v' n' xs') (hne : 39 ≠ e') (hg : w.grownBy w' v'.ownBlock) : OwnM w' base A n C L := ⟨h.1, own_grownT h.2 h' hne hg⟩
theorem OwnM.setRow {w : World} {base n C rb rt rn i : Nat} {f : Nat → Value} {A : Option Addr} {L : List Mv} {u : Value} (h : OwnM w base A n C L) (hr : w.rowIs rb rt rn f) (hne : rt ≠ 39) : OwnM (w.setCell ⟨rb, i, none⟩ u) base A n C L := ⟨h.1, own_setRow h.2 hr hne⟩
theorem OwnM.moves {w : World} {base n C : Nat} {A : Option Addr} {L : List Mv} (h : OwnM w base A n C L) : IsMoves w A n L := by
  obtain ⟨hl, h2⟩ := h
  refine ⟨hl, fun hn => ?_⟩
  rcases h2.2 with ⟨e, e0⟩ | ⟨g, cap, cur, e, hb, hg, h3, h4, h5, h6⟩
  · omega
  · injection e with e1
    refine ⟨g, 0, e1, (Array.getElem?_eq_some_iff.1 hg).1, fun j hj => ?_⟩
    have hc : ∀ r, r < 4 → w.cell? ⟨g, 0 + j * 4 + r, none⟩ = (mvK (L.getD j idm))[r]? := fun r hr => by
      have h7 : cur[4 * j + r]? = (mvK (L.getD j idm))[r]? := by
        rw [← Array.getElem?_toList, ← List.getElem?_take_of_lt (show 4 * j + r < n * 4 by omega), h6]
        exact mvsK_get L j r (by omega) hr
      have h8 : (4 * j + r) < cur.size := by omega
      rw [show 0 + j * 4 + r = 4 * j + r by omega]
      simp [World.cell?, hg, h7]
    exact ⟨hc 0 (by omega), hc 1 (by omega), hc 2 (by omega), hc 3 (by omega)⟩
theorem okMv : ElemOk 29 39 4 32 (.agg #[.int .i64 0, .bool false, .int .i64 0, .int .i64 0]) := ⟨Try.underlying29, by kernel_rfl, rfl, by omega⟩
/-- As wpApp, with what has grown. -/
theorem wpAppM {W : World} {ops : Array Oper} {rest : List Oper} {o : Oper} {a : Act} {Q : Exit → Act → World → Prop} {t e size bytes : Nat} {z : Value} (hE : ElemOk t e size bytes z)
    (hgd : o.guard = none) (s x : Operand) (ho : o.op = .call { callee := .builtin .append, args := #[s, x], argTypes := #[t, t] })
    (base : Nat) (v : Value) (n : Nat) (xs : List Value) (cs : Array Value) (hs : a.eval s = v) (hown : W.ownsRow base e size v n xs)
    (hx : a.eval x = .slice (some ⟨W.heap.size, 0, none⟩) 1 1) (hl : cs.size = size) (h1 : ∀ u ∈ cs.toList, u.oneCell' = true)
    (hb : bytes ≤ 4096) (hn : n ≤ 1000000000) (hbase : base ≤ W.heap.size)
    (h : ∀ v' w', w'.ownsRow base e size v' (n + 1) (xs ++ cs.toList) → (W.alloc (.cells cs e)).grownBy w' v.ownBlock → Below base W w' → wpList Try.prog ops Q rest (a.put o.dst v') w') : wpList Try.prog ops Q (o :: rest) a (W.alloc (.cells cs e)) := by
  obtain ⟨h2, h3, h4, h5⟩ := hE
  obtain ⟨i0, hi, hz0, hz1, hz2⟩ := info_parts h3
  refine wpList_append_own _ hgd s x t ho base e i0 z size bytes h2 hi hz0 hz1 hz2 h4 h5 v n xs hs (hown.alloc _) ⟨W.heap.size, 0, none⟩ 1 1 cs.toList hx (by simpa using hl) ?_ h1 (by unfold maxLen; omega) ?_ (by simp; omega) ?_
  · intro j u hj
    have : (⟨W.heap.size, 0, none⟩ : Addr).add j = ⟨W.heap.size, j, none⟩ := by rw [Addr.add_lit]; simp
    rw [this, World.cell?_alloc_new]
    simpa using hj
  · calc (n + 1) * bytes ≤ 1000000001 * 4096 := Nat.mul_le_mul (by omega) hb
      _ ≤ 140737488355328 := by omega
  · intro v' w' hown' hg _
    refine h v' w' hown' hg ?_
    have hk := hown.lt
    exact ((Below.refl base W).alloc hbase _).trans (belowGrown hg (by simp; omega) fun k hk' => (hk k hk').1)
/-- The moves so far. -/
def P3 (K : Mv → Bool) (n t : Nat) (f : Bool) (m : Nat) : List Mv := ((List.range m).map fun k => (⟨t, f, pnt n k⟩ : Mv)).filter K
def P2 (K : Mv → Bool) (n : Nat) (f : Bool) (m : Nat) : List Mv := (List.range m).flatMap fun t => P3 K n t f (n * n)
def P1 (K : Mv → Bool) (n g : Nat) (m : Nat) : List Mv := ([false, true].take m).flatMap fun f => P2 K n f g
theorem P3_succ (K : Mv → Bool) (n t : Nat) (f : Bool) (m : Nat) : P3 K n t f (m + 1) = if K ⟨t, f, pnt n m⟩ then P3 K n t f m ++ [⟨t, f, pnt n m⟩] else P3 K n t f m := by
  unfold P3
  rw [List.range_succ, List.map_append, List.filter_append]
  simp only [List.map_cons, List.map_nil, List.filter_cons, List.filter_nil]
  split <;> simp
theorem P2_succ (K : Mv → Bool) (n : Nat) (f : Bool) (m : Nat) : P2 K n f (m + 1) = P2 K n f m ++ P3 K n m f (n * n) := by
  unfold P2; rw [List.range_succ, List.flatMap_append]; simp
theorem P1_succ (K : Mv → Bool) (n g i : Nat) (hi : i < 2) : P1 K n g (i + 1) = P1 K n g i ++ P2 K n (decide (i = 1)) g := by
  obtain rfl | rfl : i = 0 ∨ i = 1 := by omega
  · simp [P1]
  · simp [P1]
theorem P1_all (W H : Nat) (cs : List Int) (g n : Nat) : P1 (keepB W H cs g n) n g 2 = Z.movesL W H cs g n := by
  unfold P1 P2 P3 Z.movesL Z.allM
  simp [List.filter_flatMap]
theorem P1_zero (K : Mv → Bool) (n g : Nat) : P1 K n g 0 = [] := rfl
theorem P2_zero (K : Mv → Bool) (n : Nat) (f : Bool) : P2 K n f 0 = [] := rfl
theorem P3_zero (K : Mv → Bool) (n t : Nat) (f : Bool) : P3 K n t f 0 = [] := rfl
end Go.Proofs.Ytooilennejakhaa

namespace Go.Proofs.Ytooilennejakhaa
open Go.RowKit
set_option linter.unusedVariables false
set_option linter.unusedSimpArgs false
open Z (torN place pnt Mv To lin okT nrm keepB colP idm)
theorem keepsM_ok (G W H n N t : Nat) (f : Bool) (a ta : Option Addr) (c tc : Nat) (cs : List Int) (ox oy : Int) (w : World) (hn : 0 < n) (h24 : n ≤ 24) (hN : n * n = N) (hW : W ∣ n) (hH : H ∣ n) (hI : IsInts w a N (Z.laidL W H cs n)) (hT : IsInts w ta N (intsN (Z.imageL G n t f))) (hx : -1000000000000 ≤ ox ∧ ox ≤ 1000000000000) (hy : -1000000000000 ≤ oy ∧ oy ≤ 1000000000000) :
    Calls Try.prog 28 #[.agg #[.int .i64 (G), .int .i64 (n), .slice a N c], .slice ta N tc, .agg #[.int .i64 (ox), .int .i64 (oy)]] w fun e w' => e = .returned (.bool (keepB W H cs G n ⟨t, f, (ox, oy)⟩)) ∧ Below w.heap.size w w' := by
  rw [← keepsL_eq hn hW hH]
  exact keeps_ok G n N a ta c tc _ _ ox oy w hn h24 hN hI hT (fun k hk => by rw [Z.imageL_get (by omega), ← hN]; exact Z.place_lt hn _) hx hy
set_option maxRecDepth 100000 in
set_option maxHeartbeats 8000000 in
theorem all_ok (G W H n N : Nat) (a : Option Addr) (c : Nat) (cs : List Int) (w : World) (hI : IsInts w a N (Z.laidL W H cs n)) (hg : G = 4 ∨ G = 6) (hn : 0 < n) (h24 : n ≤ 24) (hN : n * n = N) (hW : W ∣ n) (hH : H ∣ n) :
    Calls Try.prog 24 #[.agg #[.int .i64 (G), .int .i64 (n), .slice a N c]] w fun r w' => (∃ A C, r = .returned (.slice A (Z.movesL W H cs G n).length C) ∧ OwnM w' w.heap.size A (Z.movesL W H cs G n).length C (Z.movesL W H cs G n)) ∧ Below w.heap.size w w' := by
  have hN6 : N ≤ 576 := by rw [← hN]; exact Nat.mul_le_mul h24 h24
  have hG6 : G ≤ 6 := by omega
  have HIM := Lib.hid (fun t f w (ht : t < G) => image_ok G n N t f a c w (by omega) (by omega) hn h24 hN)
  have HKP := Lib.hid (fun t f ta tc (ox oy : Int) w hI hT hx hy => keepsM_ok G W H n N t f a ta c tc cs ox oy w hn h24 hN hW hH hI hT hx hy)
  have HALL := Lib.hid (P1_all W H cs G n)
  have HNN := Lib.hid hN
  have hNi : (n : Int) * (n : Int) = (N : Int) := by rw [← hN]; push_cast; rfl
  have vN : IntKind.i64.wrap (N : Int) = (N : Int) := IntWalk.i64_in _ (by omega)
  have HI := Lib.hid hI
  obtain ⟨K, hK⟩ : ∃ K, keepB W H cs (G : Int) n = K := ⟨_, rfl⟩
  have b1 : ((n : Int) == 0) = false := by simp; omega
  have b2 : (n : Int) ≠ 0 := by omega
  have b3 : ¬ n = 0 := by omega
  rw [hK] at HALL HKP
  generalize Z.movesL W H cs G n = ML at *
  clear hI hg hN hW hH hK
  go_enter Try.func24, Try.ntmps24
  go_wp2_with fail
  have hG0 := GL.nil ((w.alloc (.cells #[.int .i64 G, .int .i64 n, .slice a N c] 60)).alloc (.cells #[.bool false, .bool true] 4)) 39 4
  obtain ⟨W1, hW1⟩ : ∃ W1, W1 = (w.alloc (.cells #[.int .i64 G, .int .i64 n, .slice a N c] 60)).alloc (.cells #[.bool false, .bool true] 4) := ⟨_, rfl⟩
  have HB1 : Hid (Below w.heap.size w W1) := Lib.hid (by rw [hW1]; exact (by repeat (first | exact Below.refl _ _ | refine Below.drew ?_ | refine below_drewN ?_ _ | refine Below.alloc ?_ (by first | exact Nat.le_refl _ | (simp; done) | (simp; omega) | omega) _ | refine Below.setCell ?_ (by first | exact Nat.le_refl _ | (simp; done) | (simp; omega) | omega) _ | refine bExtW ?_ (by first | exact Nat.le_refl _ | (simp; done) | (simp; omega) | omega) | refine Below.trans ?_ (Below.mono (by assumption) (by first | exact Nat.le_refl _ | (simp; done) | (simp; omega) | omega)))))
  have hsz : W1.heap.size = w.heap.size + 2 := by rw [hW1, World.size_alloc, World.size_alloc]
  have hs0 : w.heap.size < W1.heap.size := by omega
  have hs1 : w.heap.size + 1 < W1.heap.size := by omega
  have cb0 : W1.cell? ⟨w.heap.size, 0, none⟩ = some (.int .i64 (G)) := by rw [hW1]; simp [go_sem]
  have cb1 : W1.cell? ⟨w.heap.size, 1, none⟩ = some (.int .i64 (n)) := by rw [hW1]; simp [go_sem]
  have cb2 : W1.cell? ⟨w.heap.size, 2, none⟩ = some (.slice a N c) := by rw [hW1]; simp [go_sem]
  have HBB : Hid (∀ i, i < 2 → W1.cell? ⟨w.heap.size + 1, i, none⟩ = some (.bool (decide (i = 1)))) := Lib.hid fun i hi => by
    obtain rfl | rfl : i = 0 ∨ i = 1 := by omega
    · rw [hW1]; simp [go_sem]
    · rw [hW1]; simp [go_sem]
  have HW1 := Lib.hid hW1
  have HG0 := Lib.hid hG0
  have HSZ := Lib.hid hsz
  clear hW1 hG0 hsz
  go_loopw [3, 12] (fun ov iv wr => ∃ (i : Nat) (L : List Mv), i ≤ 2 ∧ iv = .int .i64 i ∧ Hid (GL 39 4 (mvsK L) L.length W1 ov wr) ∧ Hid (L = P1 K n G i) ∧ L.length ≤ i * 6 * 576) (fun _ iv _ => 2 - (intOf iv).toNat)
  case atStart => exact ⟨0, [], by omega, rfl, Lib.hid (by rw [HW1.out]; exact HG0.out), Lib.hid rfl, by simp⟩
  case round =>
    obtain ⟨i, L, hi, rfl, HG, HL, hlen⟩ := hrel
    have k0 := bCs (HG.out).bel cb0
    have k1 := bCs (HG.out).bel cb1
    have k2 := bCs (HG.out).bel cb2
    have lk : LtW w.heap.size wr := Nat.lt_of_lt_of_le hs0 (HG.out).bel.size
    have hsw : W1.heap.size ≤ (wr).heap.size := (HG.out).bel.size
    by_cases hi2 : i < 2
    · have di : decide (i < 2) = true := by simpa using hi2
      have di2 : decide ((i : Int) < 2) = true := by simp; omega
      have bc := bCs HG.out.bel (HBB.out i hi2)
      have lb : LtW (w.heap.size + 1) wr := Nat.lt_of_lt_of_le hs1 HG.out.bel.size
      have vi : IntKind.i64.wrap ((i : Int) + 1) = (i : Int) + 1 := IntWalk.i64_in _ (by omega)
      have HPS := Lib.hid (P1_succ K n G i hi2)
      obtain ⟨f, hf⟩ : ∃ f, decide (i = 1) = f := ⟨_, rfl⟩
      rw [hf] at bc HPS
      clear hf
      go_wp2_with fail
      obtain ⟨wo, rfl⟩ : ∃ wo : World, wo = wr := ⟨_, rfl⟩
      go_loopw [3, 18] (fun ov tv wr => ∃ (t : Nat) (L : List Mv), t ≤ G ∧ tv = .int .i64 t ∧ Hid (GL 39 4 (mvsK L) L.length W1 ov wr) ∧ Hid (L = P1 K n G i ++ P2 K n f t) ∧ L.length ≤ (i * 6 + t) * 576) (fun _ tv _ => G - (intOf tv).toNat)
      case atStart => exact ⟨0, L, by omega, rfl, HG, Lib.hid (by rw [HL.out, P2_zero, List.append_nil]), by omega⟩
      case round =>
        clear k0 k1 k2 lk hsw
        clear HG HL bc lb hlen
        obtain ⟨t, L, ht, rfl, HG, HL, hlen⟩ := hrel
        have k0 := bCs (HG.out).bel cb0
        have k1 := bCs (HG.out).bel cb1
        have k2 := bCs (HG.out).bel cb2
        have lk : LtW w.heap.size wr := Nat.lt_of_lt_of_le hs0 (HG.out).bel.size
        have hsw : W1.heap.size ≤ (wr).heap.size := (HG.out).bel.size
        by_cases htG : t < G
        · have dt : decide ((t : Int) < (G : Int)) = true := by simpa using htG
          have vt : IntKind.i64.wrap ((t : Int) + 1) = (t : Int) + 1 := IntWalk.i64_in _ (by omega)
          have HIM1 := Lib.hid (fun w => HIM.out t f w htG)
          go_wp2_with fail
          refine (HIM1.out _).mono ?_
          rintro r w2 ⟨⟨TA, TC, rfl, hT⟩, hb2⟩
          have HG2 := Lib.hid (HG.out.below hb2)
          have HT2 := Lib.hid hT
          have HIW := Lib.hid (HI.out.below (HB1.out.trans ((HG.out.bel.trans (hb2.mono HG.out.bel.size)).mono (Nat.le_of_lt hs0))))
          clear k0 k1 k2 lk hsw
          clear hT hb2 HIM1 HG
          have k0 := bCs (HG2.out).bel cb0
          have k1 := bCs (HG2.out).bel cb1
          have k2 := bCs (HG2.out).bel cb2
          have lk : LtW w.heap.size w2 := Nat.lt_of_lt_of_le hs0 (HG2.out).bel.size
          have hsw : W1.heap.size ≤ (w2).heap.size := (HG2.out).bel.size
          go_wp2_with fail
          obtain ⟨wp, rfl⟩ : ∃ wp : World, wp = wr := ⟨_, rfl⟩
          go_loopw [3, 31] (fun ov pv wr => ∃ (p : Nat) (L : List Mv), p ≤ N ∧ pv = .int .i64 p ∧ Hid (GL 39 4 (mvsK L) L.length W1 ov wr) ∧ Hid (L = (P1 K n G i ++ P2 K n f t) ++ P3 K n t f p) ∧ L.length ≤ (i * 6 + t) * 576 + p ∧ Hid (OwnI wr wp.heap.size TA N TC (intsN (Z.imageL G n t f)))) (fun _ pv _ => N - (intOf pv).toNat)
          case atStart => exact ⟨0, L, by omega, rfl, HG2, Lib.hid (by rw [HL.out, P3_zero, List.append_nil]), by omega, HT2⟩
          case round =>
            clear k0 k1 k2 lk hsw
            clear HG2 HL HT2 HIW hlen
            obtain ⟨p, L, hp, rfl, HG, HL, hlen, HT⟩ := hrel
            have k0 := bCs (HG.out).bel cb0
            have k1 := bCs (HG.out).bel cb1
            have k2 := bCs (HG.out).bel cb2
            have lk : LtW w.heap.size wr := Nat.lt_of_lt_of_le hs0 (HG.out).bel.size
            have hsw : W1.heap.size ≤ (wr).heap.size := (HG.out).bel.size
            by_cases hpN : p < N
            · have dp : decide ((p : Int) < (N : Int)) = true := by simpa using hpN
              have vp : IntKind.i64.wrap ((p : Int) + 1) = (p : Int) + 1 := IntWalk.i64_in _ (by omega)
              have HPS3 := Lib.hid (P3_succ K n t f p)
              obtain ⟨u, hu⟩ : ∃ u, p % n = u := ⟨_, rfl⟩
              obtain ⟨v, hv⟩ : ∃ v, p / n = v := ⟨_, rfl⟩
              have hu1 : u < n := by rw [← hu]; exact Nat.mod_lt _ hn
              have hv1 : v < n := by rw [← hv]; exact Nat.div_lt_of_lt_mul (by rw [HNN.out]; exact hpN)
              have hpn : pnt n p = ((u : Int), (v : Int)) := by unfold pnt; rw [hu, hv]
              have t1 : (p : Int).tmod (n : Int) = (u : Int) := by rw [← hu]; rfl
              have t2 : (p : Int).tdiv (n : Int) = (v : Int) := by rw [← hv]; rfl
              have v1 : IntKind.i64.wrap (u : Int) = (u : Int) := IntWalk.i64_in _ (by omega)
              have v2 : IntKind.i64.wrap (v : Int) = (v : Int) := IntWalk.i64_in _ (by omega)
              rw [hpn] at HPS3
              have HKP1 := Lib.hid (fun w hI hT => HKP.out t f TA TC (u : Int) (v : Int) w hI hT (by omega) (by omega))
              clear hu hv hpn HIM HALL
              have HIW := Lib.hid (HI.out.below (HB1.out.trans (HG.out.bel.mono (Nat.le_of_lt hs0))))
              cases hkb : K ⟨t, f, ((u : Int), (v : Int))⟩ with
              | true =>
                rw [hkb] at HKP1 HPS3
                have HPT : Hid (P3 K n t f (p + 1) = P3 K n t f p ++ [⟨t, f, ((u : Int), (v : Int))⟩]) := Lib.hid (by have := HPS3.out; simpa using this)
                go_wp2_with fail
                (refine wp_region_ext_alloc 9 33 (some 9) _ (by kernel_rfl) (by kernel_rfl) rfl allocPt ?_; simp only [List.take_succ_cons, List.take_zero, List.drop_succ_cons, List.drop_zero]; (repeat (first | ((with_reducible refine wpV_step (fun K hK => ?_)); go_simp; first | (refine hK _ ?_; clear hK K) | (apply Exists.intro; refine ⟨fun _ _ => ?_, hK _ ?_⟩; fail; clear hK K)))); refine wpV_nil ?_; intro E d E' d'; go_simp)
                go_wp2_with fail
                have pc0 := built_cell wr E d #[.int .i64 (u : Int), .int .i64 (v : Int)] 33 E' d' 0 _ rfl
                have pc1 := built_cell wr E d #[.int .i64 (u : Int), .int .i64 (v : Int)] 33 E' d' 1 _ rfl
                rw [size_extW] at pc0 pc1
                have lpt := World.block_lt_of_cell? _ _ pc0
                have hbL := built_below wr E d (.cells #[.int .i64 (u : Int), .int .i64 (v : Int)] 33) E' d'
                refine (HKP1.out _ (HIW.out.below hbL) (HT.out.ints.below hbL)).mono ?_
                rintro r w3 ⟨rfl, hb3⟩
                have p0 := bCs hb3 pc0
                have p1 := bCs hb3 pc1
                have HG3 := Lib.hid ((HG.out.below hbL).below hb3)
                have HT3 := Lib.hid ((HT.out.below hbL).below hb3)
                have lp : LtW (wr.heap.size + E.size) w3 := Nat.lt_of_lt_of_le lpt hb3.size
                clear k0 k1 k2 lk hsw
                clear HG HT HIW pc0 pc1 hb3 hbL lpt HPS3
                go_wp2_with (at_builtin; refine wpAppM okMv rfl (.tmp 47) (.tmp 52) rfl W1.heap.size _ _ _ #[.int .i64 t, .bool f, .int .i64 u, .int .i64 v] rfl HG3.out.own rfl rfl ?_ (by omega) (by omega) HG3.out.bel.size ?_)
                · simp [Value.oneCell']
                intro v' w4 hown4 hg4 hb4
                obtain ⟨A', cp', rfl⟩ := own_form hown4
                have HG4 : Hid (GL 39 4 (mvsK (L ++ [⟨t, f, ((u : Int), (v : Int))⟩])) (L ++ [(⟨t, f, ((u : Int), (v : Int))⟩ : Mv)]).length W1 (.slice A' (L.length + 1) cp') w4) := Lib.hid ⟨by rw [mvsK_app, List.length_append]; exact hown4, HG3.out.bel.trans hb4⟩
                have HT4 : Hid (OwnI w4 wp.heap.size TA N TC (intsN (Z.imageL (G : Int) n t f))) := Lib.hid (OwnI.grownT (HT3.out.below ((Below.refl _ _).alloc (Nat.le_refl _) _)) (HG3.out.own.alloc _) (by decide) hg4)
                clear hown4 hg4 hb4 HG3 HT3 p0 p1 lp
                go_wp2
                go_roundw
                case rel => exact ⟨p + 1, L ++ [⟨t, f, ((u : Int), (v : Int))⟩], by omega, by go_num, HG4, Lib.hid (by rw [HPT.out, ← List.append_assoc, ← HL.out]), by simp; omega, HT4⟩
                case measure => simp [intOf]; omega
              | false =>
                rw [hkb] at HKP1 HPS3
                have HPT : Hid (P3 K n t f (p + 1) = P3 K n t f p) := Lib.hid (by have := HPS3.out; simpa using this)
                go_wp2_with fail
                (refine wp_region_ext_alloc 9 33 (some 9) _ (by kernel_rfl) (by kernel_rfl) rfl allocPt ?_; simp only [List.take_succ_cons, List.take_zero, List.drop_succ_cons, List.drop_zero]; (repeat (first | ((with_reducible refine wpV_step (fun K hK => ?_)); go_simp; first | (refine hK _ ?_; clear hK K) | (apply Exists.intro; refine ⟨fun _ _ => ?_, hK _ ?_⟩; fail; clear hK K)))); refine wpV_nil ?_; intro E d E' d'; go_simp)
                go_wp2_with fail
                have pc0 := built_cell wr E d #[.int .i64 (u : Int), .int .i64 (v : Int)] 33 E' d' 0 _ rfl
                have pc1 := built_cell wr E d #[.int .i64 (u : Int), .int .i64 (v : Int)] 33 E' d' 1 _ rfl
                rw [size_extW] at pc0 pc1
                have lpt := World.block_lt_of_cell? _ _ pc0
                have hbL := built_below wr E d (.cells #[.int .i64 (u : Int), .int .i64 (v : Int)] 33) E' d'
                refine (HKP1.out _ (HIW.out.below hbL) (HT.out.ints.below hbL)).mono ?_
                rintro r w3 ⟨rfl, hb3⟩
                have p0 := bCs hb3 pc0
                have p1 := bCs hb3 pc1
                have HG3 := Lib.hid ((HG.out.below hbL).below hb3)
                have HT3 := Lib.hid ((HT.out.below hbL).below hb3)
                clear k0 k1 k2 lk hsw
                clear HG HT HIW pc0 pc1 hb3 hbL lpt HPS3 p0 p1
                go_wp2
                go_roundw
                case rel => exact ⟨p + 1, L, by omega, by go_num, HG3, Lib.hid (by rw [HPT.out]; exact HL.out), by omega, HT3⟩
                case measure => simp [intOf]; omega
            · obtain rfl : p = N := by omega
              have dp : decide ((p : Int) < (p : Int)) = false := by simp
              have HL2 : Hid (L = P1 K n G i ++ P2 K n f (t + 1)) := Lib.hid (by rw [P2_succ, HNN.out, ← List.append_assoc]; exact HL.out)
              clear HT HIM
              go_wp2
              go_roundw
              case rel => exact ⟨t + 1, L, by omega, by go_num, HG, HL2, by omega⟩
              case measure => simp [intOf]; omega
        · obtain rfl : t = G := by omega
          have dt : decide ((t : Int) < (t : Int)) = false := by simp
          have HL2 : Hid (L = P1 K n t (i + 1)) := Lib.hid (by rw [HPS.out]; exact HL.out)
          go_wp2
          go_roundw
          case rel => exact ⟨i + 1, L, by omega, by go_num, HG, HL2, by omega⟩
          case measure => simp [intOf]; omega
    · obtain rfl : i = 2 := by omega
      obtain rfl : L = ML := HL.out.trans HALL.out
      obtain ⟨A, C, rfl⟩ := own_form HG.out.own
      have HO : Hid (OwnM wr w.heap.size A L.length C L) := Lib.hid ⟨rfl, own_baseV HG.out.own (Nat.le_of_lt hs0)⟩
      have HBL := Lib.hid (HB1.out.trans (HG.out.bel.mono (Nat.le_of_lt hs0)))
      clear HG HL HALL HIM HKP
      go_wp2
      go_ret
      exact ⟨⟨A, C, rfl, HO.out⟩, HBL.out⟩
end Go.Proofs.Ytooilennejakhaa

namespace Go.Proofs.Ytooilennejakhaa
open Go.RowKit
set_option linter.unusedVariables false
set_option linter.unusedSimpArgs false
open Z (torN place pnt Mv To lin okT nrm keepB colP idm)
set_option maxRecDepth 100000 in
set_option maxHeartbeats 8000000 in
theorem rAll_ok (G W H n m : Nat) (a : Option Addr) (c : Nat) (cs : List Int) (w : World) (hI : IsInts w a n cs) (h : ChOk G W H n cs) (hm : m ≤ 24) :
    Calls Try.prog 32 #[.agg #[.int .i64 (G), .int .i64 (W), .int .i64 (H), .slice a n c], .int .i64 (m)] w fun r w' => (∃ A C, r = .returned (.slice A (Z.movesL W H cs G m).length C) ∧ OwnM w' w.heap.size A (Z.movesL W H cs G m).length C (Z.movesL W H cs G m)) ∧ Below w.heap.size w w' := by
  have hG6 : G ≤ 6 := by have := h.g; omega
  have HKP := Lib.hid (fun t f (x y : Int) w hI ht hx hy => Kept_ok G W H n m t f x y a c cs w hI h hm ht hx hy)
  have HALL := Lib.hid (P1_all W H cs G m)
  have HI := Lib.hid hI
  obtain ⟨K, hK⟩ : ∃ K, keepB W H cs (G : Int) m = K := ⟨_, rfl⟩
  rw [hK] at HALL HKP
  generalize Z.movesL W H cs G m = ML at *
  clear hI hK h
  go_enter Try.func32, Try.ntmps32
  go_wp2_with fail
  have hG0 := GL.nil (w.alloc (.cells #[.int .i64 (G : Int), .int .i64 (W : Int), .int .i64 (H : Int), .slice a n c] 24)) 39 4
  obtain ⟨W1, hW1⟩ : ∃ W1, W1 = w.alloc (.cells #[.int .i64 (G : Int), .int .i64 (W : Int), .int .i64 (H : Int), .slice a n c] 24) := ⟨_, rfl⟩
  have HB1 : Hid (Below w.heap.size w W1) := Lib.hid (by rw [hW1]; exact (by repeat (first | exact Below.refl _ _ | refine Below.drew ?_ | refine below_drewN ?_ _ | refine Below.alloc ?_ (by first | exact Nat.le_refl _ | (simp; done) | (simp; omega) | omega) _ | refine Below.setCell ?_ (by first | exact Nat.le_refl _ | (simp; done) | (simp; omega) | omega) _ | refine bExtW ?_ (by first | exact Nat.le_refl _ | (simp; done) | (simp; omega) | omega) | refine Below.trans ?_ (Below.mono (by assumption) (by first | exact Nat.le_refl _ | (simp; done) | (simp; omega) | omega)))))
  have hsz : W1.heap.size = w.heap.size + 1 := by rw [hW1, World.size_alloc]
  have hs0 : w.heap.size < W1.heap.size := by omega
  have cb0 : W1.cell? ⟨w.heap.size, 0, none⟩ = some (.int .i64 (G)) := by rw [hW1]; simp [go_sem]
  have cb1 : W1.cell? ⟨w.heap.size, 1, none⟩ = some (.int .i64 (W)) := by rw [hW1]; simp [go_sem]
  have cb2 : W1.cell? ⟨w.heap.size, 2, none⟩ = some (.int .i64 (H)) := by rw [hW1]; simp [go_sem]
  have cb3 : W1.cell? ⟨w.heap.size, 3, none⟩ = some (.slice a n c) := by rw [hW1]; simp [go_sem]
  have HW1 := Lib.hid hW1
  have HG0 := Lib.hid hG0
  clear hW1 hG0 hsz
  go_loopw [5, 6] (fun ov iv wr => ∃ (i : Nat) (L : List Mv), i ≤ 2 ∧ iv = .int .i64 i ∧ Hid (GL 39 4 (mvsK L) L.length W1 ov wr) ∧ Hid (L = P1 K m G i) ∧ L.length ≤ i * 6 * 576) (fun _ iv _ => 2 - (intOf iv).toNat)
  case atStart => exact ⟨0, [], by omega, rfl, Lib.hid (by rw [HW1.out]; exact HG0.out), Lib.hid rfl, by simp⟩
  case round =>
    obtain ⟨i, L, hi, rfl, HG, HL, hlen⟩ := hrel
    have k0 := bCs (HG.out).bel cb0
    have k1 := bCs (HG.out).bel cb1
    have k2 := bCs (HG.out).bel cb2
    have k3 := bCs (HG.out).bel cb3
    have lk : LtW w.heap.size wr := Nat.lt_of_lt_of_le hs0 (HG.out).bel.size
    have hsw : W1.heap.size ≤ (wr).heap.size := (HG.out).bel.size
    by_cases hi2 : i < 2
    · have di : decide (i < 2) = true := by simpa using hi2
      have di2 : decide ((i : Int) < 2) = true := by simp; omega
      have vi : IntKind.i64.wrap ((i : Int) + 1) = (i : Int) + 1 := IntWalk.i64_in _ (by omega)
      have HPS := Lib.hid (P1_succ K m G i hi2)
      have hf0 : ((i : Int) == 1) = decide (i = 1) := by
        obtain rfl | rfl : i = 0 ∨ i = 1 := by omega
        · rfl
        · rfl
      obtain ⟨f, hf⟩ : ∃ f, decide (i = 1) = f := ⟨_, rfl⟩
      rw [hf] at hf0 HPS
      clear hf
      go_wp2_with fail
      obtain ⟨wo, rfl⟩ : ∃ wo : World, wo = wr := ⟨_, rfl⟩
      go_loopw [5, 7] (fun ov tv wr => ∃ (t : Nat) (L : List Mv), t ≤ G ∧ tv = .int .i64 t ∧ Hid (GL 39 4 (mvsK L) L.length W1 ov wr) ∧ Hid (L = P1 K m G i ++ P2 K m f t) ∧ L.length ≤ (i * 6 + t) * 576) (fun _ tv _ => G - (intOf tv).toNat)
      case atStart => exact ⟨0, L, by omega, rfl, HG, Lib.hid (by rw [HL.out, P2_zero, List.append_nil]), by omega⟩
      case round =>
        clear k0 k1 k2 k3 lk hsw
        clear HG HL hlen
        obtain ⟨t, L, ht, rfl, HG, HL, hlen⟩ := hrel
        have k0 := bCs (HG.out).bel cb0
        have k1 := bCs (HG.out).bel cb1
        have k2 := bCs (HG.out).bel cb2
        have k3 := bCs (HG.out).bel cb3
        have lk : LtW w.heap.size wr := Nat.lt_of_lt_of_le hs0 (HG.out).bel.size
        have hsw : W1.heap.size ≤ (wr).heap.size := (HG.out).bel.size
        by_cases htG : t < G
        · have dt : decide ((t : Int) < (G : Int)) = true := by simpa using htG
          have vt : IntKind.i64.wrap ((t : Int) + 1) = (t : Int) + 1 := IntWalk.i64_in _ (by omega)
          go_wp2_with fail
          obtain ⟨wp, rfl⟩ : ∃ wp : World, wp = wr := ⟨_, rfl⟩
          go_loopw [5, 8] (fun ov yv wr => ∃ (y : Nat) (L : List Mv), y ≤ m ∧ yv = .int .i64 y ∧ Hid (GL 39 4 (mvsK L) L.length W1 ov wr) ∧ Hid (L = (P1 K m G i ++ P2 K m f t) ++ P3 K m t f (y * m)) ∧ L.length ≤ (i * 6 + t) * 576 + y * 24) (fun _ yv _ => m - (intOf yv).toNat)
          case atStart => exact ⟨0, L, by omega, rfl, HG, Lib.hid (by rw [HL.out, Nat.zero_mul, P3_zero, List.append_nil]), by omega⟩
          case round =>
            clear k0 k1 k2 k3 lk hsw
            clear HG HL hlen
            obtain ⟨y, L, hy, rfl, HG, HL, hlen⟩ := hrel
            have k0 := bCs (HG.out).bel cb0
            have k1 := bCs (HG.out).bel cb1
            have k2 := bCs (HG.out).bel cb2
            have k3 := bCs (HG.out).bel cb3
            have lk : LtW w.heap.size wr := Nat.lt_of_lt_of_le hs0 (HG.out).bel.size
            have hsw : W1.heap.size ≤ (wr).heap.size := (HG.out).bel.size
            by_cases hym : y < m
            · have dy : decide ((y : Int) < (m : Int)) = true := by simpa using hym
              have vy : IntKind.i64.wrap ((y : Int) + 1) = (y : Int) + 1 := IntWalk.i64_in _ (by omega)
              go_wp2_with fail
              obtain ⟨wq, rfl⟩ : ∃ wq : World, wq = wr := ⟨_, rfl⟩
              go_loopw [5, 9] (fun ov xv wr => ∃ (x : Nat) (L : List Mv), x ≤ m ∧ xv = .int .i64 x ∧ Hid (GL 39 4 (mvsK L) L.length W1 ov wr) ∧ Hid (L = (P1 K m G i ++ P2 K m f t) ++ P3 K m t f (y * m + x)) ∧ L.length ≤ (i * 6 + t) * 576 + y * 24 + x) (fun _ xv _ => m - (intOf xv).toNat)
              case atStart => exact ⟨0, L, by omega, rfl, HG, HL, by omega⟩
              case round =>
                clear k0 k1 k2 k3 lk hsw
                clear HG HL hlen
                obtain ⟨x, L, hx, rfl, HG, HL, hlen⟩ := hrel
                have k0 := bCs (HG.out).bel cb0
                have k1 := bCs (HG.out).bel cb1
                have k2 := bCs (HG.out).bel cb2
                have k3 := bCs (HG.out).bel cb3
                have lk : LtW w.heap.size wr := Nat.lt_of_lt_of_le hs0 (HG.out).bel.size
                have hsw : W1.heap.size ≤ (wr).heap.size := (HG.out).bel.size
                by_cases hxm : x < m
                · have dx : decide ((x : Int) < (m : Int)) = true := by simpa using hxm
                  have vx : IntKind.i64.wrap ((x : Int) + 1) = (x : Int) + 1 := IntWalk.i64_in _ (by omega)
                  have HPS3 := Lib.hid (P3_succ K m t f (y * m + x))
                  rw [pnt_at hxm] at HPS3
                  have HKP1 := Lib.hid (fun w hI => HKP.out t f (x : Int) (y : Int) w hI htG (by omega) (by omega))
                  have hbL : Below wr.heap.size wr (wr.alloc (.cells #[.int .i64 (t : Int), .bool f, .int .i64 (x : Int), .int .i64 (y : Int)] 39)) := (Below.refl _ _).alloc (Nat.le_refl _) _
                  have HIW := Lib.hid (HI.out.below ((HB1.out.trans (HG.out.bel.mono (Nat.le_of_lt hs0))).trans (hbL.mono (Nat.le_trans (Nat.le_of_lt hs0) hsw))))
                  clear HALL
                  cases hkb : K ⟨t, f, ((x : Int), (y : Int))⟩ with
                  | true =>
                    rw [hkb] at HKP1 HPS3
                    have HPT : Hid (P3 K m t f (y * m + (x + 1)) = P3 K m t f (y * m + x) ++ [⟨t, f, ((x : Int), (y : Int))⟩]) := Lib.hid (by have := HPS3.out; rw [← Nat.add_assoc]; simpa using this)
                    go_wp2_with fail
                    refine (HKP1.out _ HIW.out).mono ?_
                    rintro r w3 ⟨rfl, hb3⟩
                    have p0 : w3.cell? ⟨wr.heap.size, 0, none⟩ = some (.int .i64 (t)) := bCs hb3 (by simp [go_sem])
                    have p1 : w3.cell? ⟨wr.heap.size, 1, none⟩ = some (.bool f) := bCs hb3 (by simp [go_sem])
                    have p2 : w3.cell? ⟨wr.heap.size, 2, none⟩ = some (.int .i64 (x)) := bCs hb3 (by simp [go_sem])
                    have p3 : w3.cell? ⟨wr.heap.size, 3, none⟩ = some (.int .i64 (y)) := bCs hb3 (by simp [go_sem])
                    have lp : LtW wr.heap.size w3 := World.block_lt_of_cell? _ _ p0
                    have HG3 := Lib.hid ((HG.out.below hbL).below hb3)
                    clear k0 k1 k2 k3 lk hsw
                    clear HG HIW hb3 hbL HPS3
                    go_wp2_with (at_builtin; refine wpAppM okMv rfl (.tmp 42) (.tmp 44) rfl W1.heap.size _ _ _ #[.int .i64 (t : Int), .bool f, .int .i64 (x : Int), .int .i64 (y : Int)] rfl HG3.out.own rfl rfl ?_ (by omega) (by omega) HG3.out.bel.size ?_)
                    · simp [Value.oneCell']
                    intro v' w4 hown4 hg4 hb4
                    obtain ⟨A', cp', rfl⟩ := own_form hown4
                    have HG4 : Hid (GL 39 4 (mvsK (L ++ [⟨t, f, ((x : Int), (y : Int))⟩])) (L ++ [(⟨t, f, ((x : Int), (y : Int))⟩ : Mv)]).length W1 (.slice A' (L.length + 1) cp') w4) := Lib.hid ⟨by rw [mvsK_app, List.length_append]; exact hown4, HG3.out.bel.trans hb4⟩
                    clear hown4 hg4 hb4 HG3 p0 p1 p2 p3 lp
                    go_wp2
                    go_roundw
                    case rel => exact ⟨x + 1, L ++ [⟨t, f, ((x : Int), (y : Int))⟩], by omega, by go_num, HG4, Lib.hid (by rw [HPT.out, ← List.append_assoc, ← HL.out]), by simp; omega⟩
                    case measure => simp [intOf]; omega
                  | false =>
                    rw [hkb] at HKP1 HPS3
                    have HPT : Hid (P3 K m t f (y * m + (x + 1)) = P3 K m t f (y * m + x)) := Lib.hid (by have := HPS3.out; rw [← Nat.add_assoc]; simpa using this)
                    go_wp2_with fail
                    refine (HKP1.out _ HIW.out).mono ?_
                    rintro r w3 ⟨rfl, hb3⟩
                    have HG3 := Lib.hid ((HG.out.below hbL).below hb3)
                    clear k0 k1 k2 k3 lk hsw
                    clear HG HIW hb3 hbL HPS3
                    go_wp2
                    go_roundw
                    case rel => exact ⟨x + 1, L, by omega, by go_num, HG3, Lib.hid (by rw [HPT.out]; exact HL.out), by omega⟩
                    case measure => simp [intOf]; omega
                · obtain rfl : x = m := by omega
                  have dx : decide ((x : Int) < (x : Int)) = false := by simp
                  rw [← Nat.succ_mul] at HL
                  go_wp2
                  go_roundw
                  case rel => exact ⟨y + 1, L, by omega, by go_num, HG, HL, by omega⟩
                  case measure => simp [intOf]; omega
            · obtain rfl : y = m := by omega
              have dy : decide ((y : Int) < (y : Int)) = false := by simp
              have HL2 : Hid (L = P1 K y G i ++ P2 K y f (t + 1)) := Lib.hid (by rw [P2_succ, ← List.append_assoc]; exact HL.out)
              go_wp2
              go_roundw
              case rel => exact ⟨t + 1, L, by omega, by go_num, HG, HL2, by omega⟩
              case measure => simp [intOf]; omega
        · obtain rfl : t = G := by omega
          have dt : decide ((t : Int) < (t : Int)) = false := by simp
          have HL2 : Hid (L = P1 K m t (i + 1)) := Lib.hid (by rw [HPS.out]; exact HL.out)
          go_wp2
          go_roundw
          case rel => exact ⟨i + 1, L, by omega, by go_num, HG, HL2, by omega⟩
          case measure => simp [intOf]; omega
    · obtain rfl : i = 2 := by omega
      obtain rfl : L = ML := HL.out.trans HALL.out
      obtain ⟨A, C, rfl⟩ := own_form HG.out.own
      have HO : Hid (OwnM wr w.heap.size A L.length C L) := Lib.hid ⟨rfl, own_baseV HG.out.own (Nat.le_of_lt hs0)⟩
      have HBL := Lib.hid (HB1.out.trans (HG.out.bel.mono (Nat.le_of_lt hs0)))
      clear HG HL HALL HKP
      go_wp2
      go_ret
      exact ⟨⟨A, C, rfl, HO.out⟩, HBL.out⟩
end Go.Proofs.Ytooilennejakhaa
