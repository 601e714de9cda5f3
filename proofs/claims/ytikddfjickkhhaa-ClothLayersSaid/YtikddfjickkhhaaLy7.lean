/- Lemmas and contracts of functions (what each call returns, and that it changes nothing that was there) that the proof of a law of this seat uses; each lemma states its own conditions. -/
import Derived.Test.YtikddfjickkhhaaLL
import Derived.Test.YtikddfjickkhhaaClL
import Derived.Test.YtikddfjickkhhaaCl6
import Derived.Maps.AppendAt
namespace Go.Proofs.Ytikddfjickkhhaa
open Go.RowKit
set_option linter.unusedVariables false
set_option linter.unusedSimpArgs false
open Cl
/-- 'append(s, x)' of one element, which lies in block B; where the new list lies. -/
theorem wpAppH {W : World} {ops : Array Oper} {rest : List Oper} {o : Oper} {a : Act} {Q : Exit → Act → World → Prop} {t e size bytes : Nat} {z : Value} (hE : ElemOk t e size bytes z)
    (hgd : o.guard = none) (s x : Operand) (ho : o.op = .call { callee := .builtin .append, args := #[s, x], argTypes := #[t, t] })
    (base : Nat) (v : Value) (n : Nat) (xs : List Value) (cs : Array Value) (B : Nat) (hs : a.eval s = v) (hown : W.ownsRow base e size v n xs)
    (hx : a.eval x = .slice (some ⟨B, 0, none⟩) 1 1) (hcs : ∀ j u, cs[j]? = some u → W.cell? ⟨B, j, none⟩ = some u) (hl : cs.size = size) (h1 : ∀ u ∈ cs.toList, u.oneCell' = true)
    (hb : bytes ≤ 4096) (hn : n ≤ 1000000000) (hbase : base ≤ W.heap.size)
    (h : ∀ v' w', w'.ownsRow base e size v' (n + 1) (xs ++ cs.toList) → W.grownBy w' v.ownBlock → (v'.ownBlock = v.ownBlock ∨ v'.ownBlock = some W.heap.size) → wpList Try.prog ops Q rest (a.put o.dst v') w') : wpList Try.prog ops Q (o :: rest) a W := by
  obtain ⟨h2, h3, h4, h5⟩ := hE
  obtain ⟨i0, hi, hz0, hz1, hz2⟩ := info_parts h3
  refine wpList_append_own_at _ hgd s x t ho base e i0 z size bytes h2 hi hz0 hz1 hz2 h4 h5 v n xs hs hown ⟨B, 0, none⟩ 1 1 cs.toList hx (by simpa using hl) ?_ h1 (by unfold maxLen; omega) ?_ hbase ?_
  · intro j u hj
    have : (⟨B, 0, none⟩ : Addr).add j = ⟨B, j, none⟩ := by rw [Addr.add_lit]; simp
    rw [this]
    exact hcs j u (by simpa using hj)
  · calc (n + 1) * bytes ≤ 1000000001 * 4096 := Nat.mul_le_mul (by omega) hb
      _ ≤ 140737488355328 := by omega
  · intro v' w' hown' hg _ hat
    exact h v' w' hown' hg hat
/-- Two lists of integers that a call makes, apart. -/
structure TwoL (base : Nat) (vi vo : Value) (Li Lo : List Nat) (w : World) : Prop where
  i : w.ownsRow base 3 1 vi Li.length (natV Li)
  o : w.ownsRow base 3 1 vo Lo.length (natV Lo)
  ap : vi.ownBlock = none ∨ vi.ownBlock ≠ vo.ownBlock
theorem TwoL.swap {base : Nat} {vi vo : Value} {Li Lo : List Nat} {w : World} (h : TwoL base vi vo Li Lo w) : TwoL base vo vi Lo Li w := by
  refine ⟨h.o, h.i, ?_⟩
  rcases h.ap with e | e
  · by_cases e2 : vo.ownBlock = none
    · exact .inl e2
    · exact .inr (by rw [e]; exact e2)
  · exact .inr (Ne.symm e)
theorem TwoL.appI {base x : Nat} {vi vo v' : Value} {Li Lo : List Nat} {w w' : World} {ob : Obj} (h : TwoL base vi vo Li Lo w) (hown : w'.ownsRow base 3 1 v' (Li.length + 1) (natV Li ++ [.int .i64 (x)])) (hg : (w.alloc ob).grownBy w' vi.ownBlock) (hat : v'.ownBlock = vi.ownBlock ∨ ∃ g, v'.ownBlock = some g ∧ w.heap.size ≤ g) : TwoL base v' vo (Li ++ [x]) Lo w' := by
  refine ⟨by rw [List.length_append, natV_snoc]; exact hown, (h.o.alloc ob).kept hg h.swap.ap, ?_⟩
  rcases hat with e | ⟨g, e, hg'⟩
  · rw [e]; exact h.ap
  · refine .inr fun e2 => ?_
    rw [e] at e2
    have := (h.o.lt _ e2.symm).2
    omega
theorem filter_take_succ {SL : List Nat} {k : Nat} (hk : k < SL.length) (p : Nat → Bool) : (SL.take (k+1)).filter p = (SL.take k).filter p ++ (if p (SL.getD k 0) then [SL.getD k 0] else []) := by
  rw [List.take_succ_eq_append_getElem hk, List.filter_append]
  rw [show SL.getD k 0 = SL[k] by simp [List.getD, hk]]
  by_cases h : p SL[k] = true <;> simp [h]
theorem natI_get (L : List Nat) (j : Nat) : (natI L).getD j 0 = ((L.getD j 0 : Nat) : Int) := by
  unfold natI
  rw [List.getD_eq_getElem?_getD, List.getElem?_map, List.getD_eq_getElem?_getD]
  cases L[j]? <;> rfl
theorem getD_mem {L : List Nat} {j : Nat} (h : j < L.length) : L.getD j 0 ∈ L := by
  rw [List.getD_eq_getElem?_getD, List.getElem?_eq_getElem h]; exact List.getElem_mem h
set_option maxRecDepth 100000 in
set_option maxHeartbeats 8000000 in
theorem torn_any (W H : Nat) (a : Option Addr) (n c : Nat) (bs : List Bool) (SA : Option Addr) (sc : Nat) (SL : List Nat) (a2 : Option Addr) (n2 c2 : Nat) (zs : List Int) (w : World) (h : IsBools w a n bs) (hS : IsInts w SA SL.length (natI SL)) (hz : IsInts w a2 n2 zs) (h1 : W ≤ 64) (h2 : H ≤ 64) (hn : n = W * H) (hn2 : n2 ≤ 9223372036854775807) (hsl : SL.length ≤ 128) (hSN : ∀ x ∈ SL, x < W + H)
    (hP : ∀ f : Nat → Bool, (∃ x, x ∈ SL ∧ f x = true) → (∃ x, x ∈ SL ∧ f x = false) → ∃ x y, x ∈ SL ∧ y ∈ SL ∧ f x = false ∧ f y = true ∧ abM W H bs x y = true) :
    Calls Try.prog 30 #[.agg #[.int .i64 (W), .int .i64 (H), .slice a n c], .slice SA SL.length sc, .slice a2 n2 c2] w fun e w' => e = .returned (.bool false) ∧ Below w.heap.size w w' := by
  have HLI := Lib.hid (fun (w' : World) (hC : IsBools w' a n bs) (i j : Nat) (hi : i < W+H) (hj : j < W+H) => lies_any W H a n c bs w' hC h1 h2 hn i j hi hj)
  have HC := Lib.hid h; have HS := Lib.hid hS; have HZ := Lib.hid hz; have HSN := Lib.hid hSN; have HP := Lib.hid hP
  have HZL := Lib.hid hz.1
  clear h hS hz hSN hP hn
  generalize abM W H bs = ab at *
  go_enter Try.func30, Try.ntmps30
  go_wp2_with fail
  have hq := tF_alloc w W H (.slice a n c) rfl
  have hb0 : Below w.heap.size w (w.alloc (.cells #[.int .i64 (W), .int .i64 (H), .slice a n c] 26)) := (by repeat (first | exact Below.refl _ _ | refine Below.drew ?_ | refine below_drewN ?_ _ | refine Below.alloc ?_ (by first | exact Nat.le_refl _ | (simp; done) | (simp; omega) | omega) _ | refine Below.setCell ?_ (by first | exact Nat.le_refl _ | (simp; done) | (simp; omega) | omega) _ | refine bExtW ?_ (by first | exact Nat.le_refl _ | (simp; done) | (simp; omega) | omega) | refine Below.trans ?_ (Below.mono (by assumption) (by first | exact Nat.le_refl _ | (simp; done) | (simp; omega) | omega))))
  generalize w.alloc (.cells #[.int .i64 (W), .int .i64 (H), .slice a n c] 26) = W0 at *
  obtain ⟨q, hqe⟩ : ∃ q, w.heap.size = q := ⟨_, rfl⟩
  rw [hqe] at hq hb0 ⊢
  have HQE := Lib.hid hqe
  have HQ := Lib.hid hq; have HB0 := Lib.hid hb0
  obtain ⟨base, hbase⟩ : ∃ b, b = W0.heap.size := ⟨_, rfl⟩
  have hqb : q < base := by have := hq.lt; omega
  have HBS := Lib.hid hbase
  have HBW : Hid (∀ wq, Below base W0 wq → Below w.heap.size w wq) := Lib.hid fun wq hb => by rw [hqe]; exact hb0.trans (hb.mono (by omega))
  clear hq hb0 hqe hbase
  obtain ⟨sn, hsn⟩ : ∃ s, SL.length = s := ⟨_, rfl⟩
  have HSNN := Lib.hid hsn
  rw [hsn] at hsl HS ⊢
  clear hsn
  go_loopw [20, 7, 8] (fun i vi vo wr => ∃ k : Nat, k ≤ sn ∧ i = .int .i64 k ∧ TwoL base vi vo ((SL.take k).filter (inL zs)) ((SL.take k).filter (fun x => !inL zs x)) wr ∧ Below base W0 wr) (fun i _ _ _ => sn - (intOf i).toNat)
  case atStart => exact ⟨0, Nat.zero_le _, rfl, ⟨World.ownsRow_nil _ _ _ _, World.ownsRow_nil _ _ _ _, .inl rfl⟩, Below.refl _ _⟩
  case round =>
    obtain ⟨k, hk, rfl, hT, hbel⟩ := hrel
    have HT := Lib.hid hT
    have HB := Lib.hid hbel
    by_cases hkn : k < sn
    · obtain ⟨b, o, rfl, hbl, hc⟩ := (HS.out.below (HBW.out _ hbel)).2 (by omega)
      have c0 := hc k hkn
      rw [natI_get] at c0
      have lb : LtW b wr := hbl
      have HF1 := Lib.hid (filter_take_succ (SL := SL) (k := k) (by have := HSNN.out; omega) (inL zs))
      have HF2 := Lib.hid (filter_take_succ (SL := SL) (k := k) (by have := HSNN.out; omega) (fun x => !inL zs x))
      have hl1 : ((SL.take k).filter (inL zs)).length ≤ 128 := Nat.le_trans (List.length_filter_le _ _) (by rw [List.length_take]; omega)
      have hl2 : ((SL.take k).filter (fun x => !inL zs x)).length ≤ 128 := Nat.le_trans (List.length_filter_le _ _) (by rw [List.length_take]; omega)
      have hxN := HSN.out _ (getD_mem (L := SL) (j := k) (by have := HSNN.out; omega))
      clear hc hT hbel hbl
      generalize SL.getD k 0 = x at *
      go_wp2_with fail
      clear c0 lb
      obtain ⟨wo, rfl⟩ : ∃ wo : World, wo = wr := ⟨_, rfl⟩
      go_loopw [26, 11] (fun i t wq => ∃ j : Nat, j ≤ n2 ∧ i = .int .i64 j ∧ t = .bool (inL (zs.take j) x) ∧ wq = wo) (fun i _ _ => n2 - (intOf i).toNat)
      case atStart => exact ⟨0, Nat.zero_le _, rfl, rfl, rfl⟩
      case round =>
        obtain ⟨j, hj, rfl, rfl, rfl⟩ := hrel
        by_cases hjn : j < n2
        · obtain ⟨b, o, rfl, hbl, hc⟩ := (HZ.out.below (HBW.out _ HB.out)).2 (by omega)
          have c0 := hc j hjn
          have lb : LtW b wr := hbl
          have HIS := Lib.hid (inL_take_succ (zs := zs) (k := j) (by rw [HZL.out]; exact hjn) x)
          clear hc hbl
          generalize zs.getD j 0 = z at *
          cases hin : inL (zs.take j) x with
          | true =>
            rw [hin] at HIS
            clear hin
            go_wp2
            go_roundw
            case rel => exact ⟨j + 1, by omega, by go_num, by rw [HIS.out]; rfl, trivial⟩
            case measure => simp [intOf]; omega
          | false =>
            rw [hin] at HIS
            clear hin
            obtain ⟨t, ht⟩ : ∃ t, ((x : Int) == z) = t := ⟨_, rfl⟩
            have hz2 : (z == (x : Int)) = t := by rw [← ht, Bool.beq_comm]
            rw [hz2] at HIS
            clear hz2
            go_wp2
            go_roundw
            case rel => exact ⟨j + 1, by omega, by go_num, by rw [HIS.out]; rfl, trivial⟩
            case measure => simp [intOf]; omega
        · obtain rfl : n2 = j := by omega
          rw [List.take_of_length_le (by rw [HZL.out]; exact Nat.le_refl _)]
          have hTT := HT.out
          obtain ⟨AI, cI, rfl⟩ := own_form hTT.i
          obtain ⟨AO, cO, rfl⟩ := own_form hTT.o
          have hszb : base ≤ wr.heap.size := by have := HB.out.size; have := HBS.out; omega
          clear hTT
          generalize (SL.take k).filter (inL zs) = Li at *
          generalize (SL.take k).filter (fun x => !inL zs x) = Lo at *
          cases hin : inL zs x with
          | true =>
            rw [hin] at HF1 HF2
            have HG1 : Hid ((SL.take (k+1)).filter (inL zs) = Li ++ [x]) := Lib.hid (by rw [HF1.out]; rfl)
            have HG2 : Hid ((SL.take (k+1)).filter (fun x => !inL zs x) = Lo) := Lib.hid (by rw [HF2.out]; simp)
            clear hin
            go_wp2_with (at_builtin; refine wpAppH okInts' rfl (.tmp 38) (.tmp 40) rfl base _ _ _ #[.int .i64 x] wr.heap.size rfl (HT.out.i.alloc _) rfl ?_ rfl ?_ (by omega) (by omega) (by rw [World.size_alloc]; omega) ?_)
            try any_goals (intro j u hj; rw [World.cell?_alloc_new]; exact hj)
            try any_goals (simp [Value.oneCell']; done)
            · intro v' w2 hown2 hg2 hat0
              have hat := hat0.imp id (fun e => (⟨_, e, by first | omega | (rw [World.size_alloc]; omega)⟩ : ∃ g, v'.ownBlock = some g ∧ wr.heap.size ≤ g))
              clear hat0
              have HT2 := Lib.hid (HT.out.appI (x := x) hown2 hg2 hat)
              have HB2 := Lib.hid (((HB.out.alloc hszb _).grown hg2 (by rw [World.size_alloc]; omega) (fun k e => (HT.out.i.lt k e).1)))
              clear hown2 hg2 hat
              go_wp2
              go_roundw
              case rel => exact ⟨k + 1, by omega, by go_num, by rw [HG1.out, HG2.out]; exact HT2.out, HB2.out⟩
              case measure => simp [intOf]; omega
          | false =>
            rw [hin] at HF1 HF2
            have HG1 : Hid ((SL.take (k+1)).filter (inL zs) = Li) := Lib.hid (by rw [HF1.out]; simp)
            have HG2 : Hid ((SL.take (k+1)).filter (fun x => !inL zs x) = Lo ++ [x]) := Lib.hid (by rw [HF2.out]; rfl)
            clear hin
            go_wp2_with (at_builtin; refine wpAppH okInts' rfl (.tmp 42) (.tmp 44) rfl base _ _ _ #[.int .i64 x] wr.heap.size rfl (HT.out.o.alloc _) rfl ?_ rfl ?_ (by omega) (by omega) (by rw [World.size_alloc]; omega) ?_)
            try any_goals (intro j u hj; rw [World.cell?_alloc_new]; exact hj)
            try any_goals (simp [Value.oneCell']; done)
            · intro v' w2 hown2 hg2 hat0
              have hat := hat0.imp id (fun e => (⟨_, e, by first | omega | (rw [World.size_alloc]; omega)⟩ : ∃ g, v'.ownBlock = some g ∧ wr.heap.size ≤ g))
              clear hat0
              have HT2 := Lib.hid ((HT.out.swap.appI (x := x) hown2 hg2 hat).swap)
              have HB2 := Lib.hid (((HB.out.alloc hszb _).grown hg2 (by rw [World.size_alloc]; omega) (fun k e => (HT.out.o.lt k e).1)))
              clear hown2 hg2 hat
              go_wp2
              go_roundw
              case rel => exact ⟨k + 1, by omega, by go_num, by rw [HG1.out, HG2.out]; exact HT2.out, HB2.out⟩
              case measure => simp [intOf]; omega
    · obtain rfl : sn = k := by omega
      rw [List.take_of_length_le (by rw [HSNN.out]; exact Nat.le_refl _)] at hT
      have HMI : Hid (∀ x, x ∈ SL.filter (inL zs) ↔ x ∈ SL ∧ inL zs x = true) := Lib.hid fun x => by rw [List.mem_filter]
      have HMO : Hid (∀ x, x ∈ SL.filter (fun x => !inL zs x) ↔ x ∈ SL ∧ inL zs x = false) := Lib.hid fun x => by rw [List.mem_filter]; simp
      have HFIN : Hid ((∀ x y, x ∈ SL.filter (fun x => !inL zs x) → y ∈ SL.filter (inL zs) → ab x y = false) → (SL.filter (inL zs)).length = 0 ∨ (SL.filter (fun x => !inL zs x)).length = 0) := Lib.hid fun hno => by
        rcases Nat.eq_zero_or_pos (SL.filter (inL zs)).length with e | e
        · exact .inl e
        · rcases Nat.eq_zero_or_pos (SL.filter (fun x => !inL zs x)).length with e2 | e2
          · exact .inr e2
          · exfalso
            obtain ⟨y, hy⟩ := List.exists_mem_of_length_pos e
            obtain ⟨x, hx⟩ := List.exists_mem_of_length_pos e2
            obtain ⟨p, q', h1, h2, h3, h4, h5⟩ := HP.out (inL zs) ⟨y, (HMI.out y).1 hy⟩ ⟨x, (HMO.out x).1 hx⟩
            rw [hno p q' ((HMO.out p).2 ⟨h1, h3⟩) ((HMI.out q').2 ⟨h2, h4⟩)] at h5
            cases h5
      have hl1 : (SL.filter (inL zs)).length ≤ 128 := Nat.le_trans (List.length_filter_le _ _) (by have := HSNN.out; omega)
      have hl2 : (SL.filter (fun x => !inL zs x)).length ≤ 128 := Nat.le_trans (List.length_filter_le _ _) (by have := HSNN.out; omega)
      have HNI : Hid (∀ x, x ∈ SL.filter (inL zs) → x < W + H) := Lib.hid fun x hx => HSN.out x ((HMI.out x).1 hx).1
      have HNO : Hid (∀ x, x ∈ SL.filter (fun x => !inL zs x) → x < W + H) := Lib.hid fun x hx => HSN.out x ((HMO.out x).1 hx).1
      generalize SL.filter (inL zs) = Li at *
      generalize SL.filter (fun x => !inL zs x) = Lo at *
      obtain ⟨AI, cI, rfl, hI⟩ := IsInts.of_nats hT.i
      obtain ⟨AO, cO, rfl, hO⟩ := IsInts.of_nats hT.o
      have HII := Lib.hid hI; have HIO := Lib.hid hO
      have hqr := rowBelow HQ.out hbel hqb
      have HQR := Lib.hid hqr
      have HCW := Lib.hid (HC.out.below (HBW.out _ hbel))
      have HBWR := Lib.hid (HBW.out _ hbel)
      clear hT hbel hI hO hqr HS HZ HP HMI HMO
      obtain ⟨W2, rfl⟩ : ∃ wo : World, wo = wr := ⟨_, rfl⟩
      go_wp2_with fail
      go_loopw [49] (fun i wq => ∃ k : Nat, k ≤ Lo.length ∧ i = .int .i64 k ∧ Below W2.heap.size W2 wq ∧ Hid (∀ j, j < k → ∀ y, y ∈ Li → ab (Lo.getD j 0) y = false)) (fun i _ => Lo.length - (intOf i).toNat)
      case atStart => exact ⟨0, Nat.zero_le _, rfl, Below.refl _ _, Lib.hid fun j h => absurd h (by omega)⟩
      case round =>
        obtain ⟨k, hk, rfl, hbel, HJ⟩ := hrel
        have HB2 := Lib.hid hbel
        by_cases hkn : k < Lo.length
        · obtain ⟨b, o, rfl, hbl, hc⟩ := (HIO.out.below hbel).2 (by omega)
          have c0 := hc k hkn
          rw [natI_get] at c0
          have lb : LtW b wr := hbl
          have hxN := HNO.out _ (getD_mem hkn)
          have HXD : Hid (Lo.getD k 0 = Lo.getD k 0) := Lib.hid rfl
          obtain ⟨x, hx⟩ : ∃ x, Lo.getD k 0 = x := ⟨_, rfl⟩
          have HX := Lib.hid hx
          rw [hx] at c0 hxN
          clear hc hbl hx hbel HXD
          go_wp2_with fail
          clear c0 lb
          go_loopw [55] (fun i wq => ∃ j : Nat, j ≤ Li.length ∧ i = .int .i64 j ∧ Below W2.heap.size W2 wq ∧ Hid (∀ i, i < j → ab x (Li.getD i 0) = false)) (fun i _ => Li.length - (intOf i).toNat)
          case atStart => exact ⟨0, Nat.zero_le _, rfl, HB2.out, Lib.hid fun j h => absurd h (by omega)⟩
          case round =>
            clear HB2
            obtain ⟨j, hj, rfl, hbel, HI2⟩ := hrel
            by_cases hjn : j < Li.length
            · obtain ⟨b, o, rfl, hbl, hc⟩ := (HII.out.below hbel).2 (by omega)
              have c0 := hc j hjn
              rw [natI_get] at c0
              have lb : LtW b wr := hbl
              have hyN := HNI.out _ (getD_mem hjn)
              obtain ⟨y, hy⟩ : ∃ y, Li.getD j 0 = y := ⟨_, rfl⟩
              have HY := Lib.hid hy
              rw [hy] at c0 hyN
              have hqr := rowBelow HQR.out hbel HQR.out.lt
              have q0 : wr.cell? ⟨q, 0, none⟩ = some (.int .i64 (W)) := hqr.cell (i := 0) (by omega)
              have q1 : wr.cell? ⟨q, 1, none⟩ = some (.int .i64 (H)) := hqr.cell (i := 1) (by omega)
              have q2 : wr.cell? ⟨q, 2, none⟩ = some (.slice a n c) := hqr.cell (i := 2) (by omega)
              have lq : LtW q wr := hqr.lt
              have HB3 := Lib.hid hbel
              have HLI2 := Lib.hid (HLI.out wr (HCW.out.below hbel) x y hxN hyN)
              clear hc hbl hy hbel hqr
              cases hab : ab x y with
              | true =>
                rw [hab] at HLI2
                clear hab
                go_wp2_with fail
                refine HLI2.out.mono ?_
                rintro r w5 ⟨rfl, hb5⟩
                have HB5 := Lib.hid (HB3.out.trans (hb5.mono HB3.out.size))
                clear hb5
                go_wp2
                go_ret
                exact ⟨rfl, HBWR.out.trans (HB5.out.mono HBWR.out.size)⟩
              | false =>
                rw [hab] at HLI2
                have HAB := Lib.hid hab
                clear hab
                go_wp2_with fail
                refine HLI2.out.mono ?_
                rintro r w5 ⟨rfl, hb5⟩
                have HB5 := Lib.hid (HB3.out.trans (hb5.mono HB3.out.size))
                clear hb5
                go_wp2
                go_roundw
                case rel => exact ⟨j + 1, by omega, by go_num, HB5.out, Lib.hid fun i hi => by
                  by_cases e : i = j
                  · rw [e, HY.out]; exact HAB.out
                  · exact HI2.out i (by omega)⟩
                case measure => simp [intOf]; omega
            · obtain rfl : j = Li.length := by omega
              have HB3 := Lib.hid hbel
              clear hbel
              go_wp2
              go_roundw
              case rel => exact ⟨k + 1, by omega, by go_num, HB3.out, Lib.hid fun i hi y hy => by
                by_cases e : i = k
                · rw [e, HX.out]
                  obtain ⟨i2, h2, rfl⟩ := List.getElem_of_mem hy
                  have := HI2.out i2 h2
                  rwa [show Li.getD i2 0 = Li[i2] by simp [List.getD, h2]] at this
                · exact HJ.out i (by omega) y hy⟩
              case measure => simp [intOf]; omega
        · obtain rfl : k = Lo.length := by omega
          have hfin := HFIN.out (fun x y hx hy => by
            obtain ⟨i2, h2, rfl⟩ := List.getElem_of_mem hx
            have := HJ.out i2 h2 y hy
            rwa [show Lo.getD i2 0 = Lo[i2] by simp [List.getD, h2]] at this)
          clear hbel
          generalize Li.length = li at *
          generalize Lo.length = lo at *
          rcases hfin with e | e
          · subst e
            go_wp2
            all_goals
              go_ret
              exact ⟨by simp, HBWR.out.trans (HB2.out.mono HBWR.out.size)⟩
          · subst e
            go_wp2
            all_goals
              go_ret
              exact ⟨by simp, HBWR.out.trans (HB2.out.mono HBWR.out.size)⟩
end Go.Proofs.Ytikddfjickkhhaa
