/- Lemmas and contracts of functions (what each call returns, and that it changes nothing that was there) that the proof of a law of this seat uses; each lemma states its own conditions. -/
import Derived.Test.YtoooihoaapfjeaaB05
import Derived.Test.YtoooihoaapfjeaaB06
namespace Go.Proofs.Ytoooihoaapfjeaa
open Go.RowKit
set_option linter.unusedVariables false
set_option linter.unusedSimpArgs false
theorem own_parts {w : World} {base e n c g : Nat} {xs : List Value} (h : w.ownsRow base e 1 (.slice (some ⟨g, 0, none⟩) n c) n xs) : xs.length = n ∧ base ≤ g ∧ n ≤ c ∧ c ≤ maxLen ∧ ∃ cur : Array Value, w.heap[g]? = some (.cells cur e (0, 0)) ∧ cur.size = c ∧ cur.toList.take n = xs := by
  have h0 := h.1
  rcases h.2 with ⟨e1, _⟩ | ⟨g', cap, cur, e1, hb, hg, h1, h2, h3, h4⟩
  · cases e1
  · injection e1 with e1 _ e3
    injection e1 with e1
    injection e1 with e1
    subst e1 e3
    rw [Nat.mul_one] at h0 h3 h4
    exact ⟨h0, hb, h1, h2, cur, hg, h3, h4⟩
theorem own_mk {w : World} {base e n c g : Nat} {xs : List Value} {cur : Array Value} (h0 : xs.length = n) (hb : base ≤ g) (h1 : n ≤ c) (h2 : c ≤ maxLen) (hg : w.heap[g]? = some (.cells cur e (0, 0))) (h3 : cur.size = c) (h4 : cur.toList.take n = xs) : w.ownsRow base e 1 (.slice (some ⟨g, 0, none⟩) n c) n xs :=
  ⟨by omega, .inr ⟨g, c, cur, rfl, hb, hg, h1, h2, by omega, by rw [Nat.mul_one]; exact h4⟩⟩
theorem own_keep {w w' : World} {base e n c g : Nat} {xs : List Value} (h : w.ownsRow base e 1 (.slice (some ⟨g, 0, none⟩) n c) n xs) (he : w'.heap[g]? = w.heap[g]?) : w'.ownsRow base e 1 (.slice (some ⟨g, 0, none⟩) n c) n xs := by
  obtain ⟨a, b, d, f, cur, g1, g2, g3⟩ := own_parts h
  exact own_mk a b d f (he.trans g1) g2 g3
theorem own_base {w : World} {base base' e n c g : Nat} {xs : List Value} (h : w.ownsRow base e 1 (.slice (some ⟨g, 0, none⟩) n c) n xs) (hb : base' ≤ g) : w.ownsRow base' e 1 (.slice (some ⟨g, 0, none⟩) n c) n xs := by
  obtain ⟨a, b, d, f, cur, g1, g2, g3⟩ := own_parts h
  exact own_mk a hb d f g1 g2 g3
theorem own_lt {w : World} {base e n c g : Nat} {xs : List Value} (h : w.ownsRow base e 1 (.slice (some ⟨g, 0, none⟩) n c) n xs) : g < w.heap.size := by
  obtain ⟨a, b, d, f, cur, g1, g2, g3⟩ := own_parts h
  exact (Array.getElem?_eq_some_iff.1 g1).1
theorem own_cell {w : World} {base e n c g i : Nat} {xs : List Value} (h : w.ownsRow base e 1 (.slice (some ⟨g, 0, none⟩) n c) n xs) (hi : i < n) : w.cell? ⟨g, i, none⟩ = xs[i]? ∧ w.frozen? ⟨g, i, none⟩ = false := by
  obtain ⟨a, b, d, f, cur, g1, g2, g3⟩ := own_parts h
  refine ⟨?_, by simp [World.frozen?, g1]⟩
  have h5 : cur[i]? = xs[i]? := by
    rw [← Array.getElem?_toList, ← List.getElem?_take_of_lt hi, g3]
  simp [World.cell?, g1, h5]
theorem own_set {w : World} {base e n c g i : Nat} {xs : List Value} {u : Value} (h : w.ownsRow base e 1 (.slice (some ⟨g, 0, none⟩) n c) n xs) (hi : i < n) : (w.setCell ⟨g, i, none⟩ u).ownsRow base e 1 (.slice (some ⟨g, 0, none⟩) n c) n (xs.set i u) := by
  obtain ⟨a, b, d, f, cur, g1, g2, g3⟩ := own_parts h
  refine own_mk (cur := cur.setIfInBounds i u) (by simpa using a) b d f ?_ (by simpa using g2) ?_
  · simp [World.setCell, Array.getElem?_modify, g1]
  · rw [Array.toList_setIfInBounds, ← g3, List.take_set]
/-- What lies in another block. -/
theorem own_other {w : World} {base e n c g : Nat} {a : Addr} {xs : List Value} {u : Value} (h : w.ownsRow base e 1 (.slice (some ⟨g, 0, none⟩) n c) n xs) (ha : g ≠ a.block) : (w.setCell a u).ownsRow base e 1 (.slice (some ⟨g, 0, none⟩) n c) n xs :=
  own_keep h (Below.heap_setCell _ _ _ g (fun e => ha e))
theorem own_pop {w : World} {base e n c g : Nat} {xs : List Value} {x : Value} (h : w.ownsRow base e 1 (.slice (some ⟨g, 0, none⟩) (n + 1) c) (n + 1) (xs ++ [x])) : w.ownsRow base e 1 (.slice (some ⟨g, 0, none⟩) n c) n xs ∧ w.cell? ⟨g, n, none⟩ = some x := by
  have hc := own_cell h (i := n) (by omega)
  obtain ⟨a, b, d, f, cur, g1, g2, g3⟩ := own_parts h
  have hl : xs.length = n := by simpa using a
  refine ⟨own_mk hl b (by omega) f g1 g2 ?_, ?_⟩
  · have := congrArg (List.take n) g3
    have e2 : (xs ++ [x]).take n = xs := by rw [List.take_append_of_le_length (by omega), List.take_of_length_le (by omega)]
    rw [List.take_take, Nat.min_eq_left (by omega), e2] at this
    exact this
  · rw [hc.1, List.getElem?_append_right (by omega), hl, Nat.sub_self]; rfl
theorem own_some {w : World} {base e n : Nat} {v : Value} {xs : List Value} (h : w.ownsRow base e 1 v n xs) (hn : 0 < n) : ∃ g c, v = .slice (some ⟨g, 0, none⟩) n c := by
  rcases h.2 with ⟨_, e0⟩ | ⟨g', cap, cur, e1, _⟩
  · omega
  · exact ⟨_, _, e1⟩
/-- 'append(s, x)' of one element, which lies in block B; where the new list lies. -/
theorem wpAppK {W : World} {ops : Array Oper} {rest : List Oper} {o : Oper} {a : Act} {Q : Exit → Act → World → Prop} {t e bytes : Nat} {z : Value} (hE : ElemOk t e 1 bytes z)
    (hgd : o.guard = none) (s x : Operand) (ho : o.op = .call { callee := .builtin .append, args := #[s, x], argTypes := #[t, t] })
    (base : Nat) (v : Value) (n : Nat) (xs : List Value) (u : Value) (B : Nat) (hs : a.eval s = v) (hown : W.ownsRow base e 1 v n xs)
    (hx : a.eval x = .slice (some ⟨B, 0, none⟩) 1 1) (hcs : W.cell? ⟨B, 0, none⟩ = some u) (h1 : u.oneCell' = true)
    (hb : bytes ≤ 4096) (hn : n ≤ 100000000) (hbase : base ≤ W.heap.size)
    (h : ∀ v' w', w'.ownsRow base e 1 v' (n + 1) (xs ++ [u]) → W.grownBy w' v.ownBlock → (v'.ownBlock = v.ownBlock ∨ v'.ownBlock = some W.heap.size) → wpList Try.prog ops Q rest (a.put o.dst v') w') : wpList Try.prog ops Q (o :: rest) a W :=
  wpAppV hE hgd s x ho base v n xs (some ⟨B, 0, none⟩) 1 1 [u] hs hown hx (fun e => by cases e) rfl (fun _ => ⟨B, 0, rfl, fun j y hj => by
    have hj0 : j = 0 := by
      have := (List.getElem?_eq_some_iff.1 hj).1
      simpa using this
    subst hj0
    simp at hj
    subst hj
    exact hcs⟩) (fun y hy => by simp at hy; subst hy; exact h1) hb (by omega) hbase h
theorem owns_new {w : World} {base e : Nat} {u : Value} (hb : base ≤ w.heap.size) : (w.alloc (.cells #[u] e)).ownsRow base e 1 (.slice (some ⟨w.heap.size, 0, none⟩) 1 1) 1 [u] :=
  own_mk rfl hb (Nat.le_refl _) (by unfold maxLen; omega) (heap_alloc_new w _) rfl rfl
end Go.Proofs.Ytoooihoaapfjeaa

namespace Go.Proofs.Ytoooihoaapfjeaa
open Go.RowKit
set_option linter.unusedVariables false
set_option linter.unusedSimpArgs false
open Ps
theorem and_one (q : Nat) (h0 : q < 64) : bits .and .i64 (q : Int) 1 = ((q % 2 : Nat) : Int) := by
  have h : ∀ q : Fin 64, bits .and .i64 ((q.val : Nat) : Int) 1 = ((q.val % 2 : Nat) : Int) := by decide +kernel
  exact h ⟨q, h0⟩
theorem div_pow (w i : Nat) : (w : Int) / 2 ^ i = ((w / 2 ^ i : Nat) : Int) := by
  rw [show ((2 : Int) ^ i) = ((2 ^ i : Nat) : Int) by simp]
  exact (Int.natCast_ediv _ _).symm
theorem own_lower1 {w : World} {base base' e size n : Nat} {v : Value} {xs : List Value} (h : w.ownsRow base' e size v n xs) (hb : base ≤ base') : w.ownsRow base e size v n xs := by
  refine ⟨h.1, ?_⟩
  rcases h.2 with h2 | ⟨g, cap, cur, e1, e2, e3⟩
  · exact .inl h2
  · exact .inr ⟨g, cap, cur, e1, Nat.le_trans hb e2, e3⟩
set_option maxRecDepth 100000 in
set_option maxHeartbeats 8000000 in
theorem moved_ok (a : Option Addr) (n c : Nat) (zs : List Int) (b : Int) (wh : Nat) (w : World) (hI : IsInts w a n zs) (hn : n ≤ 5) (hb : ∀ x ∈ zs, -50 ≤ x ∧ x ≤ 50) (hbb : -2 ≤ b ∧ b ≤ 2) (hwh : wh < 32) :
    Calls Try.prog 17 #[.slice a n c, .agg #[.int .i64 (b), .int .i64 (wh)]] w (IPost (mv zs b wh) w) := by
  have HI := Lib.hid hI; have HB := Lib.hid hb; have HL := Lib.hid hI.1
  clear hI hb
  go_enter Try.func17, Try.ntmps17
  go_wp2_with fail
  refine (clone_any a n c zs _ (HI.out.below (by repeat (first | exact Below.refl _ _ | refine Below.drew ?_ | refine below_drewN ?_ _ | refine Below.alloc ?_ (by first | exact Nat.le_refl _ | (simp; done) | (simp; omega) | omega) _ | refine Below.setCell ?_ (by first | exact Nat.le_refl _ | (simp; done) | (simp; omega) | omega) _ | refine bExtW ?_ (by first | exact Nat.le_refl _ | (simp; done) | (simp; omega) | omega) | refine Below.trans ?_ (Below.mono (by assumption) (by first | exact Nat.le_refl _ | (simp; done) | (simp; omega) | omega))))) (by omega)).mono ?_
  rintro r w1 ⟨A1, C1, rfl, ho1, hb1⟩
  have hl := HL.out
  rw [hl] at ho1 ⊢
  have hb1w : Below w.heap.size w w1 := Below.trans (by repeat (first | exact Below.refl _ _ | refine Below.drew ?_ | refine below_drewN ?_ _ | refine Below.alloc ?_ (by first | exact Nat.le_refl _ | (simp; done) | (simp; omega) | omega) _ | refine Below.setCell ?_ (by first | exact Nat.le_refl _ | (simp; done) | (simp; omega) | omega) _ | refine bExtW ?_ (by first | exact Nat.le_refl _ | (simp; done) | (simp; omega) | omega) | refine Below.trans ?_ (Below.mono (by assumption) (by first | exact Nat.le_refl _ | (simp; done) | (simp; omega) | omega)))) (hb1.mono (by simp))
  have hps := rowBelow (World.rowIs_alloc w #[.int .i64 b, .int .i64 (wh : Int)] 43 (fun j => if j = 0 then .int .i64 b else .int .i64 (wh : Int)) (by
    intro i hi
    have hi2 : i = 0 ∨ i = 1 := by simp at hi; omega
    rcases hi2 with rfl | rfl <;> rfl)) hb1 (by simp)
  rw [World.size_alloc] at ho1
  have HO1 := Lib.hid ho1; have HB1 := Lib.hid hb1w; have HPS := Lib.hid hps
  clear hl ho1 hb1 hb1w hps
  go_wp2_with fail
  go_loopw [11] (fun iv wr => ∃ (k : Nat) (L : List Int), k ≤ n ∧ iv = .int .i64 k ∧ Hid (L.length = n ∧ ∀ i, i < n → L.getD i 0 = if i < k ∧ bit wh i = true then zs.getD i 0 + b else zs.getD i 0) ∧ Hid (wr.ownsRow (w.heap.size + 1) 3 1 (.slice A1 n C1) n (L.map i64v)) ∧ Hid (wr.rowIs w.heap.size 43 2 (fun j => if j = 0 then .int .i64 b else .int .i64 (wh : Int))) ∧ Hid (Below w.heap.size w wr)) (fun iv _ => n - (intOf iv).toNat)
  case atStart => exact ⟨0, zs, by omega, rfl, Lib.hid ⟨HL.out, fun i _ => by rw [if_neg (by omega)]⟩, HO1, HPS, HB1⟩
  case round =>
    clear HO1 HB1 HPS
    obtain ⟨k, L, hk, rfl, HLL, HO, HP, HBW⟩ := hrel
    by_cases hkn : k < n
    · obtain ⟨g, C, e⟩ := own_some HO.out (by omega)
      injection e with e1 _ e2
      subst e1 e2
      obtain ⟨hcg, hfg⟩ := own_cell HO.out hkn
      have hLl := HLL.out.1
      have hgk := HLL.out.2 k hkn
      rw [if_neg (by omega)] at hgk
      have hcg2 : wr.cell? ⟨g, k, none⟩ = some (.int .i64 (zs.getD k 0)) := by
        rw [hcg, List.getElem?_map, List.getElem?_eq_getElem (by omega)]
        rw [← hgk, List.getD_eq_getElem?_getD, List.getElem?_eq_getElem (by omega)]
        rfl
      have lg : LtW g wr := own_lt HO.out
      have hx : -50 ≤ zs.getD k 0 ∧ zs.getD k 0 ≤ 50 := by
        rw [List.getD_eq_getElem?_getD, List.getElem?_eq_getElem (by have := HL.out; omega)]
        exact HB.out _ (List.getElem_mem _)
      have p0 : wr.cell? ⟨w.heap.size, 0, none⟩ = some (.int .i64 (b)) := HP.out.cell (i := 0) (by omega)
      have p1 : wr.cell? ⟨w.heap.size, 1, none⟩ = some (.int .i64 (wh)) := HP.out.cell (i := 1) (by omega)
      have lp : LtW w.heap.size wr := HP.out.lt
      have HX := Lib.hid hgk
      have hsh := div_pow wh k
      have hq : wh / 2 ^ k < 64 := Nat.lt_of_le_of_lt (Nat.div_le_self _ _) (by omega)
      have hand := and_one (wh / 2 ^ k) hq
      generalize hzx : zs.getD k 0 = x at *
      have HZX := Lib.hid hzx
      clear hzx
      have v1 : IntKind.i64.wrap (x + b) = x + b := IntWalk.i64_in _ (by omega)
      have dk : decide ((k : Int) < (n : Int)) = true := by simp; omega
      have dk' : decide (k < n) = true := by simpa using hkn
      obtain ⟨Q, hQ⟩ : ∃ Q, wh / 2 ^ k = Q := ⟨_, rfl⟩
      rw [hQ] at hsh hand
      have HQ := Lib.hid hQ
      have HQB : Hid ((Q % 2 == 1) = bit wh k) := Lib.hid (by rw [← hQ]; rfl)
      have hQ2 : Q % 2 = 0 ∨ Q % 2 = 1 := by omega
      clear hQ hq hgk hcg hLl
      rcases hQ2 with h2 | h2
      · have HBT : Hid (bit wh k = false) := Lib.hid (by rw [← HQB.out, h2]; rfl)
        have hand0 : bits .and .i64 (Q : Int) 1 = 0 := by rw [hand, h2]; rfl
        clear h2 hand
        go_wp2
        go_roundw
        case rel =>
          refine ⟨k + 1, L, by omega, by go_num, Lib.hid ⟨HLL.out.1, fun i hi => ?_⟩, HO, HP, HBW⟩
          have h9 := HLL.out.2 i hi
          by_cases hik : i = k
          · subst hik
            rw [h9, HBT.out]
            simp
          · rw [h9]
            congr 1
            simp only [eq_iff_iff]
            constructor
            · rintro ⟨h, h'⟩; exact ⟨by omega, h'⟩
            · rintro ⟨h, h'⟩; exact ⟨by omega, h'⟩
        case measure => simp [intOf]; omega
      · have HBT : Hid (bit wh k = true) := Lib.hid (by rw [← HQB.out, h2]; rfl)
        have hand0 : bits .and .i64 (Q : Int) 1 = 1 := by rw [hand, h2]; rfl
        clear h2 hand
        have hgw : g ≠ w.heap.size := by
          have := (HO.out.lt g rfl).1
          omega
        have hgw' := hgw.symm
        go_wp2_with fail
        go_region
        have hdr : Below (wr.setCell ⟨g, k, none⟩ (.int .i64 (x + b))).heap.size (wr.setCell ⟨g, k, none⟩ (.int .i64 (x + b))) (wr.setCell ⟨g, k, none⟩ (.int .i64 (x + b))).drew := (Below.refl _ _).drew
        have HO2 : Hid ((wr.setCell ⟨g, k, none⟩ (.int .i64 (x + b))).drew.ownsRow (w.heap.size + 1) 3 1 (.slice (some ⟨g, 0, none⟩) n C1) n ((L.set k (x + b)).map i64v)) := Lib.hid (by
          rw [List.map_set]
          exact ownBelow (own_set HO.out hkn) hdr)
        have HP2 := Lib.hid (rowBelow (HP.out.of_block (w' := wr.setCell ⟨g, k, none⟩ (.int .i64 (x + b))) (Below.heap_setCell _ _ _ w.heap.size hgw')) hdr (by rw [World.size_setCell]; exact HP.out.lt))
        have HB2 : Hid (Below w.heap.size w (wr.setCell ⟨g, k, none⟩ (.int .i64 (x + b))).drew) := Lib.hid ((HBW.out.setCell (by have := (HO.out.lt g rfl).1; simp only; omega) _).trans (hdr.mono (by have := HBW.out.size; rw [World.size_setCell]; omega)))
        clear hdr
        generalize (wr.setCell ⟨g, k, none⟩ (.int .i64 (x + b))).drew = w5 at *
        clear hcg2 hfg lg p0 p1 lp hsh hand0
        go_wp2
        go_roundw
        case rel =>
          refine ⟨k + 1, L.set k (x + b), by omega, by go_num, Lib.hid ⟨by rw [List.length_set]; exact HLL.out.1, fun i hi => ?_⟩, HO2, HP2, HB2⟩
          have h9 := HLL.out.2 i hi
          rw [getD_set _ _ _ _ (by rw [HLL.out.1]; exact hkn)]
          by_cases hik : i = k
          · subst hik
            rw [if_pos rfl, HBT.out, if_pos ⟨by omega, rfl⟩, HZX.out]
          · rw [if_neg hik, h9]
            congr 1
            simp only [eq_iff_iff]
            constructor
            · rintro ⟨h, h'⟩; exact ⟨by omega, h'⟩
            · rintro ⟨h, h'⟩; exact ⟨by omega, h'⟩
        case measure => simp [intOf]; omega
    · obtain rfl : k = n := by omega
      have dk : decide ((k : Int) < (k : Int)) = false := by simp
      have e : L = mv zs b wh := by
        refine ext_getD (by rw [mv_len, HLL.out.1, HL.out]) fun i hi => ?_
        rw [HLL.out.1] at hi
        rw [HLL.out.2 i hi, mv_get _ _ _ _ (by rw [HL.out]; exact hi)]
        simp [hi]
      have HE := Lib.hid e
      clear e
      go_wp2
      go_ret
      have hml : (mv zs b wh).length = k := by rw [mv_len]; exact HL.out
      refine ⟨A1, C1, by rw [hml]; rfl, ?_, HBW.out⟩
      rw [hml, ← HE.out]
      exact own_lower1 HO.out (by omega)
end Go.Proofs.Ytoooihoaapfjeaa
