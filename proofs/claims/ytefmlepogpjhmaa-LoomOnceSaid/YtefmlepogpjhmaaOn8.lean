/- Chapter 10: each pick is beaten once: the law's walk. -/
import Derived.Test.YtefmlepogpjhmaaOn7
namespace Go.Proofs.Ytefmlepogpjhmaa
open Go.RowKit
set_option linter.unusedVariables false
set_option linter.unusedSimpArgs false
open Lm
/-- 'append(s, l...)' of lists of any length within the reach. -/
theorem wpAppVL {W : World} {ops : Array Oper} {rest : List Oper} {o : Oper} {a : Act} {Q : Exit → Act → World → Prop} {t e bytes : Nat} {z : Value} (hE : ElemOk t e 1 bytes z)
    (hgd : o.guard = none) (s x : Operand) (ho : o.op = .call { callee := .builtin .append, args := #[s, x], argTypes := #[t, t] })
    (base : Nat) (v : Value) (n : Nat) (xs : List Value) (A : Option Addr) (m c : Nat) (news : List Value) (hs : a.eval s = v) (hown : W.ownsRow base e 1 v n xs)
    (hx : a.eval x = .slice A m c) (hc : A = none → c = 0) (hl : news.length = m) (hI : 0 < m → ∃ b of, A = some ⟨b, of, none⟩ ∧ ∀ j u, news[j]? = some u → W.cell? ⟨b, of + j, none⟩ = some u)
    (h1 : ∀ u ∈ news, u.oneCell' = true) (hb : (n + m) * bytes ≤ 140737488355328) (hn : n + m ≤ 9223372036854775807) (hbase : base ≤ W.heap.size)
    (h : ∀ v' w', w'.ownsRow base e 1 v' (n + m) (xs ++ news) → W.grownBy w' v.ownBlock → (v'.ownBlock = v.ownBlock ∨ v'.ownBlock = some W.heap.size) → wpList Try.prog ops Q rest (a.put o.dst v') w') : wpList Try.prog ops Q (o :: rest) a W := by
  obtain ⟨h2, h3, h4, h5⟩ := hE
  obtain ⟨i0, hi, hz0, hz1, hz2⟩ := info_parts h3
  rcases A with _ | ad
  · have hm : m = 0 := by
      rcases Nat.eq_zero_or_pos m with h0 | h0
      · exact h0
      · obtain ⟨_, _, e, _⟩ := hI h0; cases e
    subst hm
    have hc0 := hc rfl
    subst hc0
    have hnn : news = [] := List.length_eq_zero_iff.1 hl
    subst hnn
    refine wpList_append_own_none hgd s x t ho base e i0 1 h2 hi v n xs hs hown hx (h v W ?_ (World.grownBy.refl _ _) (.inl rfl))
    simpa using hown
  · refine wpList_append_own_at _ hgd s x t ho base e i0 z 1 bytes h2 hi hz0 hz1 hz2 h4 h5 v n xs hs hown ad m c news hx (by simpa using hl) ?_ h1 (by unfold maxLen; omega) ?_ hbase ?_
    · intro j u hj
      have hjm : j < m := by rw [← hl]; exact (List.getElem?_eq_some_iff.1 hj).1
      obtain ⟨b, of, e, hcell⟩ := hI (by omega)
      cases e
      rw [Addr.add_lit]
      exact hcell j u hj
    · exact hb
    · intro v' w' hown' hg _ hat
      exact h v' w' hown' hg hat
theorem wpAppL1 {W : World} {ops : Array Oper} {rest : List Oper} {o : Oper} {a : Act} {Q : Exit → Act → World → Prop} {t e size bytes : Nat} {z : Value} (hE : ElemOk t e size bytes z)
    (hgd : o.guard = none) (s x : Operand) (ho : o.op = .call { callee := .builtin .append, args := #[s, x], argTypes := #[t, t] })
    (base : Nat) (v : Value) (n : Nat) (xs : List Value) (cs : Array Value) (hs : a.eval s = v) (hown : W.ownsRow base e size v n xs)
    (hx : a.eval x = .slice (some ⟨W.heap.size, 0, none⟩) 1 1) (hl : cs.size = size) (h1 : ∀ u ∈ cs.toList, u.oneCell' = true)
    (hb : (n + 1) * bytes ≤ 140737488355328) (hn : n + 1 ≤ 9223372036854775807) (hbase : base ≤ W.heap.size)
    (h : ∀ v' w', w'.ownsRow base e size v' (n + 1) (xs ++ cs.toList) → Below base (W.alloc (.cells cs e)) w' → wpList Try.prog ops Q rest (a.put o.dst v') w') : wpList Try.prog ops Q (o :: rest) a (W.alloc (.cells cs e)) := by
  obtain ⟨h2, h3, h4, h5⟩ := hE
  obtain ⟨i0, hi, hz0, hz1, hz2⟩ := info_parts h3
  refine wpList_append_own _ hgd s x t ho base e i0 z size bytes h2 hi hz0 hz1 hz2 h4 h5 v n xs hs (hown.alloc _) ⟨W.heap.size, 0, none⟩ 1 1 cs.toList hx (by simpa using hl) ?_ h1 (by unfold maxLen; omega) hb (by simp; omega) ?_
  · intro j u hj
    have : (⟨W.heap.size, 0, none⟩ : Addr).add j = ⟨W.heap.size, j, none⟩ := by rw [Addr.add_lit]; simp
    rw [this, World.cell?_alloc_new]
    simpa using hj
  · intro v' w' hown' hg _
    refine h v' w' hown' ?_
    have hk := hown.lt
    exact belowGrown hg (by simp; omega) fun k hk' => (hk k hk').1

def lvG (v : Value) (a b : Int) (g : Bool) : Nat → Value := fun j => if j = 0 then v else if j = 1 then .int .i64 a else if j = 2 then .int .i64 b else .bool g
theorem lvG_alloc (w : World) (v : Value) (a b : Int) (g : Bool) : (w.alloc (.cells #[v, .int .i64 (a), .int .i64 (b), .bool g] 42)).rowIs w.heap.size 42 4 (lvG v a b g) :=
  World.rowIs_alloc w #[v, .int .i64 (a), .int .i64 (b), .bool g] 42 _ (by
    intro i hi
    have hi2 : i = 0 ∨ i = 1 ∨ i = 2 ∨ i = 3 := by simp at hi; omega
    rcases hi2 with rfl | rfl | rfl | rfl <;> rfl)
theorem ownsI_empty (w : World) (base : Nat) (hb : base ≤ w.heap.size) : (w.alloc (.cells #[] 3)).ownsRow base 3 1 (.slice (some ⟨w.heap.size, 0, none⟩) 0 0) 0 [] :=
  own_mk rfl hb (Nat.le_refl _) (by unfold maxLen; omega) (heap_alloc_new w _) rfl rfl
theorem okIntsO : ElemOk 37 3 1 8 (.int .i64 0) := ⟨Try.underlying37, by kernel_rfl, rfl, by omega⟩
theorem bits64 {A : Option Addr} {n : Nat} {z : List Int} {w : World} (h : IsInts w A n z) : 0 < n → ∃ b o, A = some ⟨b, o, none⟩ ∧ ∀ j u, (z.map (Value.int .i64))[j]? = some u → w.cell? ⟨b, o + j, none⟩ = some u := by
  intro hn
  obtain ⟨b, o, e, _, hc⟩ := h.2 hn
  refine ⟨b, o, e, fun j u hj => ?_⟩
  have hl : j < z.length := by
    have := (List.getElem?_eq_some_iff.1 hj).1
    simpa using this
  rw [hc j (by rw [← h.1]; exact hl)]
  rw [List.getElem?_map, List.getElem?_eq_getElem hl] at hj
  simp at hj
  rw [List.getD_eq_getElem?_getD, List.getElem?_eq_getElem hl, ← hj]
  rfl
set_option maxRecDepth 100000 in
set_option maxHeartbeats 8000000 in
theorem loomOnce_ok (W H : Nat) (A : Option Addr) (n c : Nat) (bs : List Bool) (TA : Option Addr) (tn tc : Nat) (ts : List Int) (w : World) (hT : OkT w A n c bs) (hw : wrT W H n = 0) (hn0 : n ≠ 0) (hI : IsInts w TA tn ts) (hz : TA = none → tc = 0) (htn : tn * 8 ≤ 140737488351232) :
    Calls Try.prog 4 #[.agg #[.int .i64 (W), .int .i64 (H), .slice A n c], .slice TA tn tc] w fun e w' => e = .returned (.bool true) ∧ Below w.heap.size w w' := by
  obtain ⟨W', H', eW, eH, hW, hH, hn⟩ := wrT_zero hw
  obtain rfl : W = W' := by omega
  obtain rfl : H = H' := by omega
  have hH1 : 1 ≤ H := by
    rcases Nat.eq_zero_or_pos H with h | h
    · exfalso; apply hn0; rw [hn, h, Nat.mul_zero]
    · exact h
  have hn4 : n ≤ 4096 := by rw [hn]; exact Nat.mul_le_mul hW hH
  have HWR := Lib.hid (fun w => r5Wrong_any W H A n c w (by omega) (by omega) (by omega))
  rw [hw] at HWR
  have HT := Lib.hid hT; have HN := Lib.hid hn; have HIT := Lib.hid hI; have HZ := Lib.hid hz
  have HLV := Lib.hid (fun w' TA tn tc ts (hB : IsBools w' A n bs) (hT : IsInts w' TA tn ts) (h : tn ≤ 9223372036854775807) => Live_ok W H A n c bs TA tn tc ts w' hB hw hn0 hT h)
  have HFS := Lib.hid (fun k LA lc base w' (hT : OkT w' A n c bs) (hk : k ≤ H) (hr : OutR base (.slice LA (firstR W bs k).length lc) (firstR W bs k) w') => first_ok W H A n c bs k LA lc base w' hT hn hW hH hk hr)
  have HINV := Lib.hid (fun ts k => liveW_inv (W := W) (H := H) (bs := bs) ts hH1 k)
  have bn0 : ((n : Int) == 0) = false := by simp; omega
  have bn0' : (n == 0) = false := by simp; omega
  clear hT hw hI hz hn eW eH
  go_enter Try.func4, Try.ntmps4
  have hm := tF_alloc w W H (.slice A n c) rfl
  have hb0 : Below w.heap.size w (w.alloc (.cells #[.int .i64 (W), .int .i64 (H), .slice A n c] 24)) := (by repeat (first | exact Below.refl _ _ | refine Below.drew ?_ | refine below_drewN ?_ _ | refine Below.alloc ?_ (by first | exact Nat.le_refl _ | (simp; done) | (simp; omega) | omega) _ | refine Below.setCell ?_ (by first | exact Nat.le_refl _ | (simp; done) | (simp; omega) | omega) _ | refine bExtW ?_ (by first | exact Nat.le_refl _ | (simp; done) | (simp; omega) | omega) | refine Below.trans ?_ (Below.mono (by assumption) (by first | exact Nat.le_refl _ | (simp; done) | (simp; omega) | omega))))
  have HM := Lib.hid hm; have HB0 := Lib.hid hb0
  clear hm hb0
  go_wp2_with fail
  refine (alive10_ok _).mono ?_
  rintro r w1 ⟨rfl, hb1⟩
  have hm1 := rowBelow HM.out hb1 HM.out.lt
  have HM1 := Lib.hid hm1; have HB1 := Lib.hid (HB0.out.trans (hb1.mono HB0.out.size))
  have q0 : w1.cell? ⟨w.heap.size, 0, none⟩ = some (.int .i64 (W)) := hm1.cell (i := 0) (by omega)
  have q1 : w1.cell? ⟨w.heap.size, 1, none⟩ = some (.int .i64 (H)) := hm1.cell (i := 1) (by omega)
  have q2 : w1.cell? ⟨w.heap.size, 2, none⟩ = some (.slice A n c) := hm1.cell (i := 2) (by omega)
  have lmb : LtW w.heap.size w1 := hm1.lt
  clear hm1 hb1 HM HB0
  go_wp2_with fail
  refine (HWR.out w1).mono ?_
  rintro r w2 ⟨rfl, hb2⟩
  have hm2 := rowBelow HM1.out hb2 HM1.out.lt
  have HM2 := Lib.hid hm2; have HB2 := Lib.hid (HB1.out.trans (hb2.mono HB1.out.size))
  clear q0 q1 q2 lmb hb2 HM1 HB1
  have q0 : w2.cell? ⟨w.heap.size, 0, none⟩ = some (.int .i64 (W)) := hm2.cell (i := 0) (by omega)
  have q1 : w2.cell? ⟨w.heap.size, 1, none⟩ = some (.int .i64 (H)) := hm2.cell (i := 1) (by omega)
  have q2 : w2.cell? ⟨w.heap.size, 2, none⟩ = some (.slice A n c) := hm2.cell (i := 2) (by omega)
  have lmb : LtW w.heap.size w2 := hm2.lt
  clear hm2
  go_wp2_with fail
  refine (HLV.out w2 TA tn tc ts (HT.out.bits.below HB2.out) (HIT.out.below HB2.out) (by omega)).mono ?_
  rintro r w3 ⟨v, rfl, ho3, hb3⟩
  have hinv := HINV.out ts tn
  generalize liveW W H bs ts tn = x at *
  have hgood := hinv.good
  obtain ⟨k, hrk, hkH, hk1, hk2⟩ := hinv.first
  rw [hrk] at ho3
  rw [hgood]
  obtain ⟨VA, VC, rfl⟩ := ho3.form
  have HO3 := Lib.hid ho3
  have hkl : (firstR W bs k).length = k := firstR_len W bs k
  rw [hkl]
  obtain ⟨wv, hwv⟩ : ∃ v, x.l.wv = v := ⟨_, rfl⟩
  obtain ⟨at_, hat⟩ : ∃ v, x.l.at_ = v := ⟨_, rfl⟩
  rw [hwv] at hk1 hk2 ⊢
  rw [hat]
  have hm3 := rowBelow HM2.out hb3 HM2.out.lt
  have HM3 := Lib.hid hm3; have HB3 := Lib.hid (HB2.out.trans (hb3.mono HB2.out.size))
  clear q0 q1 q2 lmb hb3 HM2 HB2 hinv hgood hrk hkl hwv hat ho3
  have q0 : w3.cell? ⟨w.heap.size, 0, none⟩ = some (.int .i64 (W)) := hm3.cell (i := 0) (by omega)
  have q1 : w3.cell? ⟨w.heap.size, 1, none⟩ = some (.int .i64 (H)) := hm3.cell (i := 1) (by omega)
  have q2 : w3.cell? ⟨w.heap.size, 2, none⟩ = some (.slice A n c) := hm3.cell (i := 2) (by omega)
  have lmb : LtW w.heap.size w3 := hm3.lt
  clear hm3
  have v1 : IntKind.i64.wrap ((wv : Int) + 1) = (wv : Int) + 1 := IntWalk.i64_in _ (by omega)
  have e1 : decide ((k : Int) < (wv : Int)) = false := by simp; omega
  have e1' : decide (k < wv) = false := by simp; omega
  have e2 : decide ((wv : Int) + 1 < (k : Int)) = false := by simp; omega
  have e2' : decide (wv + 1 < k) = false := by simp; omega
  go_wp2_with fail
  have hb4 : Below w3.heap.size w3 (w3.alloc (.cells #[.slice VA k VC, .int .i64 (at_), .int .i64 (wv), .bool false] 42)) := (by repeat (first | exact Below.refl _ _ | refine Below.drew ?_ | refine below_drewN ?_ _ | refine Below.alloc ?_ (by first | exact Nat.le_refl _ | (simp; done) | (simp; omega) | omega) _ | refine Below.setCell ?_ (by first | exact Nat.le_refl _ | (simp; done) | (simp; omega) | omega) _ | refine bExtW ?_ (by first | exact Nat.le_refl _ | (simp; done) | (simp; omega) | omega) | refine Below.trans ?_ (Below.mono (by assumption) (by first | exact Nat.le_refl _ | (simp; done) | (simp; omega) | omega))))
  have ho4 := (TyK.below (T := fun _ => false) hb4).outR HO3.out rfl rfl
  refine (HFS.out k VA VC _ _ (HT.out.below (HB3.out.trans (hb4.mono HB3.out.size))) hkH ho4).mono ?_
  rintro r w5 ⟨rfl, hb5⟩
  have hx5 := rowBelow (lvG_alloc w3 (.slice VA k VC) at_ wv false) hb5 (by simp)
  have hm5 := rowBelow (HM3.out.alloc _) hb5 (by have := HM3.out.lt; unfold LtW at this; simp; omega)
  have hb35 : Below w3.heap.size w3 w5 := hb4.trans (hb5.mono hb4.size)
  have HM5 := Lib.hid hm5; have HB5 := Lib.hid (HB3.out.trans (hb35.mono HB3.out.size))
  clear q0 q1 q2 lmb hb4 ho4 hb5 hb35 HM3 HB3 HO3
  have q0 : w5.cell? ⟨w.heap.size, 0, none⟩ = some (.int .i64 (W)) := hm5.cell (i := 0) (by omega)
  have q1 : w5.cell? ⟨w.heap.size, 1, none⟩ = some (.int .i64 (H)) := hm5.cell (i := 1) (by omega)
  have q2 : w5.cell? ⟨w.heap.size, 2, none⟩ = some (.slice A n c) := hm5.cell (i := 2) (by omega)
  have lmb : LtW w.heap.size w5 := hm5.lt
  have x0 : w5.cell? ⟨w3.heap.size, 0, none⟩ = some (.slice VA k VC) := hx5.cell (i := 0) (by omega)
  have x2 : w5.cell? ⟨w3.heap.size, 2, none⟩ = some (.int .i64 (wv)) := hx5.cell (i := 2) (by omega)
  have lxb : LtW w3.heap.size w5 := hx5.lt
  clear hm5 hx5
  have hlen := HIT.out.1
  go_wp2_with (at_builtin; go_loud (refine wpAppVL okIntsO rfl (.tmp 49) (.tmp 50) rfl w5.heap.size _ 0 [] TA tn tc (ts.map (Value.int .i64)) rfl (ownsI_empty w5 w5.heap.size (Nat.le_refl _)) rfl HZ.out (by simpa using hlen) (bits64 ((HIT.out.below HB5.out).below (by repeat (first | exact Below.refl _ _ | refine Below.drew ?_ | refine below_drewN ?_ _ | refine Below.alloc ?_ (by first | exact Nat.le_refl _ | (simp; done) | (simp; omega) | omega) _ | refine Below.setCell ?_ (by first | exact Nat.le_refl _ | (simp; done) | (simp; omega) | omega) _ | refine bExtW ?_ (by first | exact Nat.le_refl _ | (simp; done) | (simp; omega) | omega) | refine Below.trans ?_ (Below.mono (by assumption) (by first | exact Nat.le_refl _ | (simp; done) | (simp; omega) | omega)))))) ?_ (by omega) (by omega) (by simp) ?_))
  · intro u hu
    simp only [List.mem_map] at hu
    obtain ⟨y, _, rfl⟩ := hu
    rfl
  intro v6 w6 hown6 hg6 hat6
  have hb6 : Below w5.heap.size w5 w6 := Below.trans (show Below w5.heap.size w5 (w5.alloc (.cells #[] 3)) from (by repeat (first | exact Below.refl _ _ | refine Below.drew ?_ | refine below_drewN ?_ _ | refine Below.alloc ?_ (by first | exact Nat.le_refl _ | (simp; done) | (simp; omega) | omega) _ | refine Below.setCell ?_ (by first | exact Nat.le_refl _ | (simp; done) | (simp; omega) | omega) _ | refine bExtW ?_ (by first | exact Nat.le_refl _ | (simp; done) | (simp; omega) | omega) | refine Below.trans ?_ (Below.mono (by assumption) (by first | exact Nat.le_refl _ | (simp; done) | (simp; omega) | omega))))) (belowGrown hg6 (by simp) (fun k hk => by have e : some w5.heap.size = some k := hk; injection e with e; omega))
  have HO6 := Lib.hid hown6; have HB6 := Lib.hid hb6
  clear hown6 hg6 hat6 hb6
  go_wp2_with (at_builtin; go_loud (refine wpAppL1 okIntsO rfl (.tmp 51) (.tmp 52) rfl w5.heap.size _ _ _ #[.int .i64 (3)] rfl HO6.out rfl rfl ?_ (by omega) (by omega) HB6.out.size ?_))
  · simp [Value.oneCell']
  intro v7 w7 hown7 hb7
  have hb57 : Below w5.heap.size w5 w7 := (HB6.out.alloc HB6.out.size _).trans hb7
  have hown7' : w7.ownsRow w5.heap.size 3 1 v7 (tn + 1 + 0) ((ts ++ [3] ++ List.replicate 0 0).map (Value.int .i64)) := by
    simpa using hown7
  have HO7 := Lib.hid hown7'; have HB7 := Lib.hid hb57
  have hm7 := rowBelow HM5.out hb57 HM5.out.lt
  have hb7w : Below w.heap.size w w7 := HB5.out.trans (hb57.mono HB5.out.size)
  have HM7 := Lib.hid hm7; have HBW := Lib.hid hb7w
  clear hown7 hown7' hb7 hb57 hm7 hb7w q0 q1 q2 lmb x0 x2 lxb HO6 HB6
  have hw57 : w5.heap.size ≤ w7.heap.size := HB7.out.size
  clear HB7
  have hwb : w.heap.size < w5.heap.size := HM5.out.lt
  generalize hbb : w5.heap.size = bb at *
  have HBBB := Lib.hid hbb
  clear hbb HM5 HB5
  go_wp2_with fail
  go_loopw [6, 7] (fun av iv wr => ∃ j : Nat, j ≤ 5 * H + 5 ∧ iv = .int .i64 j ∧ Hid (wr.ownsRow bb 3 1 av (tn + 1 + j) ((ts ++ [3] ++ List.replicate j 0).map (Value.int .i64))) ∧ Hid (wr.rowIs w.heap.size 24 3 (tF W H (.slice A n c))) ∧ Hid (Below w.heap.size w wr) ∧ bb ≤ wr.heap.size) (fun _ iv _ => 5 * H + 5 - (intOf iv).toNat)
  case atStart => exact ⟨0, by omega, rfl, HO7, HM7, HBW, hw57⟩
  case round =>
    clear HO7 HM7 HBW hw57
    obtain ⟨j, hj, rfl, HO, HM, HBW, hbb⟩ := hrel
    obtain ⟨AV, CV, rfl⟩ := own_form HO.out
    have q0 : wr.cell? ⟨w.heap.size, 0, none⟩ = some (.int .i64 (W)) := HM.out.cell (i := 0) (by omega)
    have q1 : wr.cell? ⟨w.heap.size, 1, none⟩ = some (.int .i64 (H)) := HM.out.cell (i := 1) (by omega)
    have q2 : wr.cell? ⟨w.heap.size, 2, none⟩ = some (.slice A n c) := HM.out.cell (i := 2) (by omega)
    have lmb : LtW w.heap.size wr := HM.out.lt
    have v5 : IntKind.i64.wrap (5 * (H : Int)) = 5 * (H : Int) := IntWalk.i64_in _ (by omega)
    have v6' : IntKind.i64.wrap (5 * (H : Int) + 5) = 5 * (H : Int) + 5 := IntWalk.i64_in _ (by omega)
    by_cases hjN : j < 5 * H + 5
    · have dj : decide ((j : Int) < 5 * (H : Int) + 5) = true := by simp; omega
      have dj' : decide (j < 5 * H + 5) = true := by simpa using hjN
      have hwl : w.heap.size < wr.heap.size := lmb
      go_wp2_with (at_builtin; go_loud (refine wpAppL1 okIntsO rfl (.tmp 62) (.tmp 63) rfl bb _ _ _ #[.int .i64 (0)] rfl HO.out rfl rfl ?_ (by omega) (by omega) hbb ?_))
      · simp [Value.oneCell']
      intro v8 w8 hown8 hb8
      have hown8' : w8.ownsRow bb 3 1 v8 (tn + 1 + (j + 1)) ((ts ++ [3] ++ List.replicate (j + 1) 0).map (Value.int .i64)) := by
        rw [List.replicate_succ', ← Nat.add_assoc]
        simpa using hown8
      have HO8 := Lib.hid hown8'
      have hal : Below wr.heap.size wr (wr.alloc (.cells #[.int .i64 (0)] 3)) := (Below.refl _ _).alloc (Nat.le_refl _) _
      have HM8 := Lib.hid (rowBelow (HM.out.alloc (.cells #[.int .i64 (0)] 3)) hb8 hwb)
      have HBW8 : Hid (Below w.heap.size w w8) := Lib.hid ((HBW.out.alloc (by omega) (.cells #[.int .i64 (0)] 3)).trans (hb8.mono (by omega)))
      have hbb8 : bb ≤ w8.heap.size := by
        have h := hb8.size
        rw [World.size_alloc] at h
        omega
      clear hown8 hown8' hb8 hal HO HM HBW q0 q1 q2 lmb hbb
      go_wp2
      go_roundw
      case rel => exact ⟨j + 1, by omega, by go_num, HO8, HM8, HBW8, hbb8⟩
      case measure => simp [intOf]; omega
    · obtain rfl : j = 5 * H + 5 := by omega
      have dj : decide ((5 * (H : Int) + 5) < 5 * (H : Int) + 5) = false := by simp
      have ho := HO.out
      obtain ⟨AX, CX, eX, hIX⟩ := IsInts.of_owns (zs := ts ++ [3] ++ List.replicate (5 * H + 5) 0) (by simp; omega) ho
      injection eX with eX1 _ eX2
      subst eX1 eX2
      have HIX := Lib.hid hIX
      clear ho hIX HO hjN
      have hdone := live_done (W := W) (H := H) (bs := bs) ts (5 * H + 5) hH1 (by omega)
      rw [hlen] at hdone
      have hinv := HINV.out (ts ++ [3] ++ List.replicate (5 * H + 5) 0) (tn + 1 + (5 * H + 5))
      have hwv := hinv.done hdone
      have hgood := hinv.good
      obtain ⟨k2, hrk, hkH2, hk12, hk22⟩ := hinv.first
      have hk2H : k2 = H := by omega
      subst hk2H
      obtain ⟨N, hN⟩ : ∃ N, tn + 1 + (5 * k2 + 5) = N := ⟨_, rfl⟩
      have hN9 : N ≤ 9223372036854775807 := by omega
      rw [hN] at HIX hdone hwv hgood hrk ⊢
      obtain ⟨y, hy⟩ : ∃ y, liveW W k2 bs (ts ++ [3] ++ List.replicate (5 * k2 + 5) 0) N = y := ⟨_, rfl⟩
      rw [hy] at hdone hwv hgood hrk
      have HY := Lib.hid hy
      have HDN := Lib.hid hdone; have HWVY := Lib.hid hwv; have HGD := Lib.hid hgood; have HRK := Lib.hid hrk
      clear hinv hdone hwv hgood hrk hy hk12 hk22 hkH2 hN
      go_wp2_with fail
      have hlv := HLV.out wr (AV) N CV _ (HT.out.bits.below HBW.out) HIX.out hN9
      rw [HY.out] at hlv
      refine hlv.mono ?_
      clear hlv HLV
      rintro r w9 ⟨v9, rfl, ho9, hb9⟩
      rw [HRK.out] at ho9
      rw [HGD.out, HDN.out, HWVY.out]
      obtain ⟨V9, C9, rfl⟩ := ho9.form
      have hkl : (firstR W bs k2).length = k2 := firstR_len W bs k2
      have HO9 := Lib.hid ho9
      rw [hkl]
      have hm9 := rowBelow HM.out hb9 HM.out.lt
      have HB9 := Lib.hid (HBW.out.trans (hb9.mono HBW.out.size))
      clear q0 q1 q2 lmb
      have q0 : w9.cell? ⟨w.heap.size, 0, none⟩ = some (.int .i64 (W)) := hm9.cell (i := 0) (by omega)
      have q1 : w9.cell? ⟨w.heap.size, 1, none⟩ = some (.int .i64 (k2)) := hm9.cell (i := 1) (by omega)
      have q2 : w9.cell? ⟨w.heap.size, 2, none⟩ = some (.slice A n c) := hm9.cell (i := 2) (by omega)
      have lmb : LtW w.heap.size w9 := hm9.lt
      clear hm9 hb9 HM HBW ho9 hkl HY HDN HWVY HGD HRK HIX HINV
      go_wp2_with fail
      have hb10 : Below w9.heap.size w9 (w9.alloc (.cells #[.slice V9 k2 C9, .int .i64 (6), .int .i64 (k2), .bool false] 42)) := (by repeat (first | exact Below.refl _ _ | refine Below.drew ?_ | refine below_drewN ?_ _ | refine Below.alloc ?_ (by first | exact Nat.le_refl _ | (simp; done) | (simp; omega) | omega) _ | refine Below.setCell ?_ (by first | exact Nat.le_refl _ | (simp; done) | (simp; omega) | omega) _ | refine bExtW ?_ (by first | exact Nat.le_refl _ | (simp; done) | (simp; omega) | omega) | refine Below.trans ?_ (Below.mono (by assumption) (by first | exact Nat.le_refl _ | (simp; done) | (simp; omega) | omega))))
      have ho10 := (TyK.below (T := fun _ => false) hb10).outR HO9.out rfl rfl
      refine (HFS.out k2 V9 C9 _ _ (HT.out.below (HB9.out.trans (hb10.mono HB9.out.size))) (Nat.le_refl _) ho10).mono ?_
      rintro r w11 ⟨rfl, hb11⟩
      have HB11 := Lib.hid ((HB9.out.trans (hb10.mono HB9.out.size)).trans (hb11.mono (Nat.le_trans HB9.out.size hb10.size)))
      clear hb10 ho10 hb11 q0 q1 q2 lmb
      go_wp2
      go_ret
      exact ⟨rfl, HB11.out⟩
end Go.Proofs.Ytefmlepogpjhmaa
