/- Lemmas and contracts of functions (what each call returns, and that it changes nothing that was there) that the proof of a law of this seat uses; each lemma states its own conditions. -/
import Derived.Test.YtikddfjickkhhaaLy1
import Derived.Test.YtikddfjickkhhaaCl7
namespace Go.Proofs.Ytikddfjickkhhaa
open Go.RowKit
set_option linter.unusedVariables false
set_option linter.unusedSimpArgs false
open Cl
/-- 'append(s, x)' of one element x, whose cells are cs, to a list of any length within the reach. -/
theorem wpAppL {W : World} {ops : Array Oper} {rest : List Oper} {o : Oper} {a : Act} {Q : Exit → Act → World → Prop} {t e size bytes : Nat} {z : Value} (hE : ElemOk t e size bytes z)
    (hgd : o.guard = none) (s x : Operand) (ho : o.op = .call { callee := .builtin .append, args := #[s, x], argTypes := #[t, t] })
    (base : Nat) (v : Value) (n : Nat) (xs : List Value) (cs : Array Value) (hs : a.eval s = v) (hown : W.ownsRow base e size v n xs)
    (hx : a.eval x = .slice (some ⟨W.heap.size, 0, none⟩) 1 1) (hl : cs.size = size) (h1 : ∀ u ∈ cs.toList, u.oneCell' = true)
    (hb : (n + 1) * bytes ≤ 140737488355328) (hn : n + 1 ≤ 9223372036854775807) (hbase : base ≤ W.heap.size)
    (h : ∀ v' w', w'.ownsRow base e size v' (n + 1) (xs ++ cs.toList) → Below base (W.alloc (.cells cs e)) w' → wpList Try.prog ops Q rest (a.put o.dst v') w') : wpList Try.prog ops Q (o :: rest) a (W.alloc (.cells cs e)) := by
  obtain ⟨h2, h3, h4, h5⟩ := hE
  obtain ⟨i0, hi, hz0, hz1, hz2⟩ := info_parts h3
  refine wpList_append_own _ hgd s x t ho base e i0 z size bytes h2 hi hz0 hz1 hz2 h4 h5 v n xs hs (hown.alloc _) ⟨W.heap.size, 0, none⟩ 1 1 cs.toList hx (by simpa using hl) ?_ h1 (by unfold maxLen; omega) hb (by simp; omega) ?_
  · intro j u hj
    have : (⟨W.heap.size, 0, none⟩ : Addr).add j = ⟨W.heap.size, j, none⟩ := by rw [Addr.add_lit]; simp
    rw [this, World.cell?_alloc_new]
    simpa using hj
  · intro v' w' hown' hg _
    refine h v' w' hown' ?_
    have hk := hown.lt
    exact belowGrown hg (by simp; omega) fun k hk' => (hk k hk').1
theorem abM_flip {W H : Nat} {bs : List Bool} (hl : bs.length = W * H) (a b : Nat) : abM W H (bs.map fun x => !x) a b = abM W H bs b a := by
  have key : ∀ x y, x < W → y < H → (bs.map fun x => !x).getD (y * W + x) false = !bs.getD (y * W + x) false := fun x y hx hy => by
    have h1 := place_lt hx hy
    rw [← hl] at h1
    rw [List.getD_eq_getElem?_getD, List.getElem?_map, List.getD_eq_getElem?_getD, List.getElem?_eq_getElem h1]
    rfl
  unfold abM
  by_cases h1 : a < W ∧ W ≤ b ∧ b < W + H
  · rw [if_pos h1, if_neg (by omega), if_pos ⟨by omega, by omega, by omega⟩, key a (b - W) h1.1 (by omega)]
  · rw [if_neg h1]
    by_cases h2 : W ≤ a ∧ a < W + H ∧ b < W
    · rw [if_pos h2, if_pos ⟨by omega, by omega, by omega⟩, key b (a - W) h2.2.2 (by omega), Bool.not_not]
    · rw [if_neg h2, if_neg (by omega), if_neg (by omega)]
theorem wrC_N {W H : Int} {n : Nat} (h : wrC W H n = 0) : ∃ W' H' : Nat, W = W' ∧ H = H' ∧ W' ≤ 64 ∧ H' ≤ 64 ∧ n = W' * H' ∧ 0 < W' + H' := by
  obtain ⟨hq, hn0⟩ := wrC_zero h
  obtain ⟨W', H', rfl, rfl, hW, hH, hn⟩ := wrT_zero hq
  refine ⟨W', H', rfl, rfl, hW, hH, hn, ?_⟩
  rcases Nat.eq_zero_or_pos (W' + H') with e | e
  · have : W' = 0 := by omega
    subst this
    rw [Nat.zero_mul] at hn; omega
  · exact e
/-- What Hangs and Layers tell, whatever the truths: of a cloth and of what is seen of it from below alike. -/
theorem flipU (W H : Int) (n : Nat) (bs : List Bool) (hl : bs.length = n) (h1 : (-9223372036854775808 ≤ W ∧ W ≤ 9223372036854775807)) (h2 : (-9223372036854775808 ≤ H ∧ H ≤ 9223372036854775807)) (h3 : n ≤ 9223372036854775807) :
    ∃ (b : Bool) (m : Nat) (e : Int), m ≤ 128 ∧ ∀ (a : Option Addr) (c : Nat) (L : List Bool), (L = bs ∨ L = bs.map fun x => !x) → ∀ w, IsBools w a n L →
      (Calls Try.prog 19 #[.agg #[.int .i64 (W), .int .i64 (H), .slice a n c]] w fun r w' => r = .returned (.tuple #[.bool b, .int .i64 (e)]) ∧ Below w.heap.size w w') ∧
      (Calls Try.prog 27 #[.agg #[.int .i64 (W), .int .i64 (H), .slice a n c]] w fun r w' => ∃ A C, r = .returned (.tuple #[.slice A m C, .int .i64 (e)]) ∧ Below w.heap.size w w') := by
  by_cases he : wrC W H n = 0
  · obtain ⟨W, H, rfl, rfl, hW, hH, hn, h0⟩ := wrC_N he
    have hfl := fun a b => abM_flip (W := W) (H := H) (bs := bs) (by rw [hl, hn]) a b
    have hB1 := abM_bnd W H bs
    have hB2 := abM_bnd W H (bs.map fun x => !x)
    have hhd := heads_flip hB1 hB2 hfl
    have o1 := one_sheet hB1 h0
    have o2 := one_sheet hB2 h0
    have hbool : ∀ L : List Bool, (L = bs ∨ L = bs.map fun x => !x) → (((lift (W+H) (abM W H L)).length : Int) == 0) = (((lift (W+H) (abM W H bs)).length : Int) == 0) := by
      rintro L (rfl | rfl)
      · rfl
      · rw [Bool.eq_iff_iff]
        simp only [beq_iff_eq, Int.natCast_eq_zero, List.length_eq_zero_iff]
        rw [o1, o2, hhd]
    have hlen : ∀ L : List Bool, (L = bs ∨ L = bs.map fun x => !x) → (layers (W+H) (abM W H L)).length = (layers (W+H) (abM W H bs)).length := by
      rintro L (rfl | rfl)
      · rfl
      · unfold layers; rw [List.length_map, List.length_map, hhd]
    refine ⟨(((lift (W+H) (abM W H bs)).length : Int) == 0), (layers (W+H) (abM W H bs)).length, 0, ?_, fun a c L hL w hi => ⟨?_, ?_⟩⟩
    · unfold layers; rw [List.length_map, heads_len]
      exact Nat.le_trans (cnt_le _ _) (by omega)
    · have := Hangs_ok W H a n c L w hi hW hH hn he
      rw [hbool L hL] at this
      exact this
    · refine (Layers_ok W H a n c L w hi hW hH hn he).mono ?_
      rintro r w' ⟨A, C, rfl, _, hb⟩
      rw [hlen L hL]
      exact ⟨A, C, rfl, hb⟩
  · refine ⟨false, 0, wrC W H n, by omega, fun a c L hL w hi => ⟨Hangs_bad W H a n c w h1 h2 h3 he, (Layers_bad W H a n c w h1 h2 h3 he).mono ?_⟩⟩
    rintro r w' ⟨rfl, hb⟩
    exact ⟨none, 0, rfl, hb⟩
set_option maxRecDepth 100000 in
set_option maxHeartbeats 8000000 in
theorem cturned_walk (W H : Int) (a : Option Addr) (n c : Nat) (bs : List Bool) (w : World) (hi : IsBools w a n bs) (h1 : (-9223372036854775808 ≤ W ∧ W ≤ 9223372036854775807)) (h2 : (-9223372036854775808 ≤ H ∧ H ≤ 9223372036854775807)) (h3 : n ≤ 140737488351232) :
    Calls Try.prog 8 #[.agg #[.int .i64 (W), .int .i64 (H), .slice a n c]] w fun e w' => e = .returned (.bool true) ∧ Below w.heap.size w w' := by
  obtain ⟨bb, mm, ee, hmm, hU⟩ := flipU W H n bs hi.1 h1 h2 (by omega)
  have HU := Lib.hid hU
  have HI := Lib.hid hi
  have HL := Lib.hid hi.1
  clear hi hU h1 h2
  go_enter Try.func8, Try.ntmps8
  (go_wp2_with fail; refine (alive8_any _).mono ?_; rintro r w1 ⟨rfl, hb⟩; obtain ⟨E, d, rfl⟩ := bExt hb; clear hb)
  go_wp2_with fail
  have hq := tF_alloc w W H (.slice a n c) rfl
  have hq2 := (rowBelow hq (bExtW (Below.refl _ _) (Nat.le_refl _) : Below (w.alloc (.cells #[.int .i64 (W), .int .i64 (H), .slice a n c] 26)).heap.size _ (extW (w.alloc (.cells #[.int .i64 (W), .int .i64 (H), .slice a n c] 26)) E d)) (by simp)).alloc (.cells #[.int .i64 (W), .int .i64 (H), .slice none 0 0] 26)
  have hm := tF_alloc (extW (w.alloc (.cells #[.int .i64 (W), .int .i64 (H), .slice a n c] 26)) E d) W H (.slice none 0 0) rfl
  have hb0 : Below w.heap.size w ((extW (w.alloc (.cells #[.int .i64 (W), .int .i64 (H), .slice a n c] 26)) E d).alloc (.cells #[.int .i64 (W), .int .i64 (H), .slice none 0 0] 26)) := (by repeat (first | exact Below.refl _ _ | refine Below.drew ?_ | refine below_drewN ?_ _ | refine Below.alloc ?_ (by first | exact Nat.le_refl _ | (simp; done) | (simp; omega) | omega) _ | refine Below.setCell ?_ (by first | exact Nat.le_refl _ | (simp; done) | (simp; omega) | omega) _ | refine bExtW ?_ (by first | exact Nat.le_refl _ | (simp; done) | (simp; omega) | omega) | refine Below.trans ?_ (Below.mono (by assumption) (by first | exact Nat.le_refl _ | (simp; done) | (simp; omega) | omega))))
  have hsz : (extW (w.alloc (.cells #[.int .i64 (W), .int .i64 (H), .slice a n c] 26)) E d).heap.size = w.heap.size + 1 + E.size := by simp
  rw [hsz] at hm
  have hsz2 : ((extW (w.alloc (.cells #[.int .i64 (W), .int .i64 (H), .slice a n c] 26)) E d).alloc (.cells #[.int .i64 (W), .int .i64 (H), .slice none 0 0] 26)).heap.size = w.heap.size + 1 + E.size + 1 := by simp
  generalize (extW (w.alloc (.cells #[.int .i64 (W), .int .i64 (H), .slice a n c] 26)) E d).alloc (.cells #[.int .i64 (W), .int .i64 (H), .slice none 0 0] 26) = W3 at *
  clear hq hsz
  obtain ⟨mb, hmb⟩ : ∃ mb, w.heap.size + 1 + E.size = mb := ⟨_, rfl⟩
  rw [hmb] at hm hsz2 ⊢
  obtain ⟨q, hqe⟩ : ∃ q, w.heap.size = q := ⟨_, rfl⟩
  rw [hqe] at hq2 hb0 ⊢
  have hqm : q < mb := by omega
  obtain ⟨base, hbase⟩ : ∃ b, b = W3.heap.size := ⟨_, rfl⟩
  have hmbb : mb < base := by omega
  have HQ := Lib.hid hq2; have HM := Lib.hid hm; have HB0 := Lib.hid hb0; have HQE := Lib.hid hqe; have HBS := Lib.hid hbase
  clear hq2 hm hb0 hsz2 hmb hqe hbase
  go_loopw [24] (fun i wr => ∃ (k : Nat) (v : Value), k ≤ n ∧ i = .int .i64 k ∧ wr.rowIs mb 26 3 (tF W H v) ∧ wr.ownsRow base 4 1 v k (((bs.take k).map fun x => !x).map Value.bool) ∧ BelowX base mb W3 wr) (fun i _ => n - (intOf i).toNat)
  case atStart => exact ⟨0, _, Nat.zero_le _, rfl, HM.out, World.ownsRow_nil _ _ _ _, BelowX.refl (by rw [HBS.out]; exact Nat.le_refl _)⟩
  case round =>
    obtain ⟨k, v, hk, rfl, hrow, hown, hX⟩ := hrel
    have hbm : Below mb W3 wr := hX.below HBS.out.symm (Nat.le_refl _) hmbb
    have hbw : Below w.heap.size w wr := by rw [HQE.out]; exact HB0.out.trans (hbm.mono (by omega))
    have cM : wr.cell? ⟨mb, 2, none⟩ = some v := hrow.cell (i := 2) (by omega)
    have fM := hrow.frozen 2
    have lm : LtW mb wr := hrow.lt
    by_cases hkn : k < n
    · obtain ⟨b, o, rfl, hbl, hc⟩ := (HI.out.below hbw).2 (by omega)
      have c0 := hc k hkn
      have lb : LtW b wr := hbl
      have hbne : b ≠ mb := by
        rintro rfl
        have hI2 := HI.out.2 (by omega)
        obtain ⟨b', o', e', hb', _⟩ := hI2
        have := HQE.out
        injection e' with e'; injection e' with e1 _; omega
      have HTS : Hid ((bs.take (k+1)).map (fun x => !x) = (bs.take k).map (fun x => !x) ++ [!bs.getD k false]) := Lib.hid (by
        have hkl : k < bs.length := by rw [HL.out]; exact hkn
        rw [List.take_succ_eq_append_getElem hkl, List.map_append, show bs.getD k false = bs[k] by simp [List.getD, hkl]]
        rfl)
      have HO := Lib.hid hown; have HR := Lib.hid hrow; have HX := Lib.hid hX
      have hszX := hX.size
      clear hc hown hrow hX hbm hbw hbl
      generalize bs.getD k false = bit at *
      generalize (bs.take k).map (fun x => !x) = L at *
      go_wp2_with (at_builtin; refine wpAppL okBools rfl (.tmp 29) (.tmp 32) rfl base _ _ _ #[.bool (!bit)] rfl HO.out rfl rfl ?_ (by omega) (by omega) hszX ?_)
      · simp [Value.oneCell']
      intro v' w2 hown2 hb2
      obtain ⟨A', cp', rfl⟩ := own_form hown2
      have hal : Below wr.heap.size wr (wr.alloc (.cells #[.bool (!bit)] 4)) := (Below.refl _ _).alloc (Nat.le_refl _) _
      have cM2 : w2.cell? ⟨mb, 2, none⟩ = some v := (hb2.cell (p := ⟨mb, 2, none⟩) (by simp; omega)).trans (bCs hal cM)
      have fM2 : w2.frozen? ⟨mb, 2, none⟩ = false := (hb2.frozen (p := ⟨mb, 2, none⟩) (by simp; omega)).trans ((hal.frozen (p := ⟨mb, 2, none⟩) lm.lt).trans fM)
      have lm2 : LtW mb w2 := by unfold LtW; have := hb2.size; have := hal.size; have := lm.lt; omega
      have HR2 := Lib.hid (((rowBelow (rowBelow HR.out hal lm.lt) hb2 hmbb).set 2 (.slice A' (k + 1) cp')).congr (g := tF W H (.slice A' (k + 1) cp')) (fun i hi => by
        have hi3 : i = 0 ∨ i = 1 ∨ i = 2 := by omega
        rcases hi3 with rfl | rfl | rfl <;> rfl))
      have HO2 := Lib.hid (ownsRow_setCell_below hown2 (a := ⟨mb, 2, none⟩) hmbb (.slice A' (k + 1) cp'))
      have HX2 := Lib.hid (((HX.out.then (hal.mono hszX)).then hb2).setM 2 (.slice A' (k + 1) cp'))
      clear hown2 hb2 hal c0 cM fM lb
      go_wp2
      go_roundw
      case rel => exact ⟨k + 1, .slice A' (k + 1) cp', by omega, by go_num, HR2.out, by rw [HTS.out, List.map_append]; exact HO2.out, HX2.out⟩
      case measure => simp [intOf]; omega
    · obtain rfl : n = k := by omega
      have m0 : wr.cell? ⟨mb, 0, none⟩ = some (.int .i64 (W)) := hrow.cell (i := 0) (by omega)
      have m1 : wr.cell? ⟨mb, 1, none⟩ = some (.int .i64 (H)) := hrow.cell (i := 1) (by omega)
      have hqr := rowBelow HQ.out hbm hqm
      have q0 : wr.cell? ⟨q, 0, none⟩ = some (.int .i64 (W)) := hqr.cell (i := 0) (by omega)
      have q1 : wr.cell? ⟨q, 1, none⟩ = some (.int .i64 (H)) := hqr.cell (i := 1) (by omega)
      have q2 : wr.cell? ⟨q, 2, none⟩ = some (.slice a n c) := hqr.cell (i := 2) (by omega)
      have lq : LtW q wr := hqr.lt
      have HIW := Lib.hid (HI.out.below hbw)
      have HBW := Lib.hid hbw
      rw [List.take_of_length_le (by rw [HL.out]; exact Nat.le_refl _)] at hown
      obtain ⟨A2, c2, rfl, hI2⟩ := IsBools.of_owns (bs := bs.map fun x => !x) (by rw [List.length_map]; exact HL.out) hown
      have HI2 := Lib.hid hI2
      clear hown hrow hX hbm hqr hbw hI2 fM
      rw [HQE.out] at HBW
      go_wp2_with fail
      refine ((HU.out a c bs (.inl rfl) _ (HIW.out.below (by repeat (first | exact Below.refl _ _ | refine Below.drew ?_ | refine below_drewN ?_ _ | refine Below.alloc ?_ (by first | exact Nat.le_refl _ | (simp; done) | (simp; omega) | omega) _ | refine Below.setCell ?_ (by first | exact Nat.le_refl _ | (simp; done) | (simp; omega) | omega) _ | refine bExtW ?_ (by first | exact Nat.le_refl _ | (simp; done) | (simp; omega) | omega) | refine Below.trans ?_ (Below.mono (by assumption) (by first | exact Nat.le_refl _ | (simp; done) | (simp; omega) | omega)))))).1).mono ?_
      rintro r w1 ⟨rfl, hb⟩
      obtain ⟨E1, d1, rfl⟩ := bExt hb
      clear hb
      go_wp2_with fail
      refine ((HU.out A2 c2 _ (.inr rfl) _ (HI2.out.below (by repeat (first | exact Below.refl _ _ | refine Below.drew ?_ | refine below_drewN ?_ _ | refine Below.alloc ?_ (by first | exact Nat.le_refl _ | (simp; done) | (simp; omega) | omega) _ | refine Below.setCell ?_ (by first | exact Nat.le_refl _ | (simp; done) | (simp; omega) | omega) _ | refine bExtW ?_ (by first | exact Nat.le_refl _ | (simp; done) | (simp; omega) | omega) | refine Below.trans ?_ (Below.mono (by assumption) (by first | exact Nat.le_refl _ | (simp; done) | (simp; omega) | omega)))))).1).mono ?_
      rintro r w1 ⟨rfl, hb⟩
      obtain ⟨E2, d2, rfl⟩ := bExt hb
      clear hb
      go_wp2_with fail
      refine ((HU.out a c bs (.inl rfl) _ (HIW.out.below (by repeat (first | exact Below.refl _ _ | refine Below.drew ?_ | refine below_drewN ?_ _ | refine Below.alloc ?_ (by first | exact Nat.le_refl _ | (simp; done) | (simp; omega) | omega) _ | refine Below.setCell ?_ (by first | exact Nat.le_refl _ | (simp; done) | (simp; omega) | omega) _ | refine bExtW ?_ (by first | exact Nat.le_refl _ | (simp; done) | (simp; omega) | omega) | refine Below.trans ?_ (Below.mono (by assumption) (by first | exact Nat.le_refl _ | (simp; done) | (simp; omega) | omega)))))).2).mono ?_
      rintro r w1 ⟨A3, c3, rfl, hb⟩
      obtain ⟨E3, d3, rfl⟩ := bExt hb
      clear hb
      go_wp2_with fail
      refine ((HU.out A2 c2 _ (.inr rfl) _ (HI2.out.below (by repeat (first | exact Below.refl _ _ | refine Below.drew ?_ | refine below_drewN ?_ _ | refine Below.alloc ?_ (by first | exact Nat.le_refl _ | (simp; done) | (simp; omega) | omega) _ | refine Below.setCell ?_ (by first | exact Nat.le_refl _ | (simp; done) | (simp; omega) | omega) _ | refine bExtW ?_ (by first | exact Nat.le_refl _ | (simp; done) | (simp; omega) | omega) | refine Below.trans ?_ (Below.mono (by assumption) (by first | exact Nat.le_refl _ | (simp; done) | (simp; omega) | omega)))))).2).mono ?_
      rintro r w1 ⟨A4, c4, rfl, hb⟩
      obtain ⟨E4, d4, rfl⟩ := bExt hb
      clear hb
      have b1 : (bb == bb) = true := by simp
      have b2 : (ee == ee) = true := by simp
      have b3 : ((mm : Int) == (mm : Int)) = true := by simp
      have b4 : (mm == mm) = true := by simp
      go_wp2
      go_ret
      exact ⟨rfl, by rw [HQE.out]; exact HBW.out.trans ((show Below wr.heap.size wr _ from (by repeat (first | exact Below.refl _ _ | refine Below.drew ?_ | refine below_drewN ?_ _ | refine Below.alloc ?_ (by first | exact Nat.le_refl _ | (simp; done) | (simp; omega) | omega) _ | refine Below.setCell ?_ (by first | exact Nat.le_refl _ | (simp; done) | (simp; omega) | omega) _ | refine bExtW ?_ (by first | exact Nat.le_refl _ | (simp; done) | (simp; omega) | omega) | refine Below.trans ?_ (Below.mono (by assumption) (by first | exact Nat.le_refl _ | (simp; done) | (simp; omega) | omega))))).mono (by have := lq.lt; omega))⟩
end Go.Proofs.Ytikddfjickkhhaa
