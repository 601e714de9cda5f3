/- Lemmas and contracts of functions (what each call returns, and that it changes nothing that was there) that the proof of a law of this seat uses; each lemma states its own conditions. -/
import Derived.Test.YtoooihoaapfjeaaB21
namespace Go.Proofs.Ytoooihoaapfjeaa
open Go.RowKit
set_option linter.unusedVariables false
set_option linter.unusedSimpArgs false
open Ps Go.Maps
namespace Ps
def bq (q : Nat) : Int := if q = 0 then -2 else if q = 1 then -1 else if q = 2 then 1 else 2
theorem bq_bd (q : Nat) : -2 ≤ bq q ∧ bq q ≤ 2 := by
  unfold bq
  (repeat' split) <;> omega
theorem PLv_q {n q v : Nat} (hq : q < 4) (hv : v < 2 ^ n - 1) : PLv n (q * (2 ^ n - 1) + v) = (bq q, v + 1) := by
  have h0 := PLv_eq n 0 v (by decide) hv
  have h1 := PLv_eq n 1 v (by decide) hv
  have h2 := PLv_eq n 3 v (by decide) hv
  have h3 := PLv_eq n 4 v (by decide) hv
  unfold pos at h0 h1 h2 h3
  simp only [Nat.zero_le, if_true, show (1 ≤ 2) = True by decide, show (3 ≤ 2) = False by decide, show (4 ≤ 2) = False by decide, if_false] at h0 h1 h2 h3
  have hq4 : q = 0 ∨ q = 1 ∨ q = 2 ∨ q = 3 := by omega
  rcases hq4 with rfl | rfl | rfl | rfl
  · exact h0
  · exact h1
  · exact h2
  · exact h3
end Ps
set_option maxRecDepth 100000 in
set_option maxHeartbeats 8000000 in
theorem rfirst_any (a : Option Addr) (n c : Nat) (s : List Int) (ta : Option Addr) (tc : Nat) (to : List Int) (sl : Int) (mb : Nat) (E : List (List Int × Nat)) (k : Nat) (w : World) (hI : IsInts w a n s) (hT : IsInts w ta n to) (hn1 : 1 ≤ n) (hn5 : n ≤ 5) (hso : okS to sl s) (hs : 1 ≤ sl ∧ sl ≤ 11) (hfm : FS mb E w) (hE : EP to sl E) (hk : k ≤ 1000000) (hd : Dmin to sl (k + 1) s) :
    Calls Try.prog 22 #[.slice a n c, .slice ta n tc, .int .i64 sl, .map (some mb), .int .i64 (k)] w fun e w' => Below w.heap.size w w' ∧ ∃ p : Int × Nat, firstP to sl k s p ∧ e = .returned (.agg #[.int .i64 p.1, .int .i64 (p.2 : Nat)]) := by
  have HI := Lib.hid hI; have HT := Lib.hid hT; have HSO := Lib.hid hso; have HFM := Lib.hid hfm; have HE := Lib.hid hE
  have HNL := Lib.hid hT.1; have HSL := Lib.hid hI.1
  have HSG := Lib.hid (some_good hd)
  rw [HNL.out] at HSG
  clear hI hT hso hfm hE hd
  obtain ⟨M, hM⟩ : ∃ M : Nat, 2 ^ n - 1 = M := ⟨_, rfl⟩
  have hM32 : M + 1 ≤ 32 := by
    have : 2 ^ n ≤ 2 ^ 5 := Nat.pow_le_pow_right (by omega) hn5
    omega
  have hPM : 2 ^ n = M + 1 := by have : 1 ≤ 2 ^ n := Nat.one_le_two_pow; omega
  have HPM := Lib.hid hPM
  rw [hM] at HSG
  have HPV : Hid (∀ q v, q < 4 → v < M → PLv n (q * M + v) = (bq q, v + 1)) := Lib.hid (fun q v h1 h2 => by
    have := PLv_q (n := n) h1 (by rw [hM]; exact h2)
    rwa [hM] at this)
  clear hM hPM
  go_enter Try.func22, Try.ntmps22
  go_wp2_with fail
  have hrc := (psI_alloc w 0 0).alloc (.cells #[.int .i64 (-2), .int .i64 (-1), .int .i64 (1), .int .i64 (2)] 3)
  have hrl := World.rowIs_alloc (w.alloc (.cells #[.int .i64 (0), .int .i64 (0)] 43)) #[.int .i64 (-2), .int .i64 (-1), .int .i64 (1), .int .i64 (2)] 3 (fun q => .int .i64 (bq q)) (by
    intro i hi
    have hi2 : i = 0 ∨ i = 1 ∨ i = 2 ∨ i = 3 := by simp at hi; omega
    rcases hi2 with rfl | rfl | rfl | rfl <;> rfl)
  rw [World.size_alloc] at hrl
  have hb2 : Below w.heap.size w ((w.alloc (.cells #[.int .i64 (0), .int .i64 (0)] 43)).alloc (.cells #[.int .i64 (-2), .int .i64 (-1), .int .i64 (1), .int .i64 (2)] 3)) := (by repeat (first | exact Below.refl _ _ | refine Below.drew ?_ | refine below_drewN ?_ _ | refine Below.alloc ?_ (by first | exact Nat.le_refl _ | (simp; done) | (simp; omega) | omega) _ | refine Below.setCell ?_ (by first | exact Nat.le_refl _ | (simp; done) | (simp; omega) | omega) _ | refine bExtW ?_ (by first | exact Nat.le_refl _ | (simp; done) | (simp; omega) | omega) | refine Below.trans ?_ (Below.mono (by assumption) (by first | exact Nat.le_refl _ | (simp; done) | (simp; omega) | omega))))
  have HRC := Lib.hid hrc; have HRL := Lib.hid hrl; have HB2 := Lib.hid hb2
  clear hrc hrl hb2
  generalize (w.alloc (.cells #[.int .i64 (0), .int .i64 (0)] 43)).alloc (.cells #[.int .i64 (-2), .int .i64 (-1), .int .i64 (1), .int .i64 (2)] 3) = w2 at *
  go_loopw [19] (fun qv wr => ∃ q : Nat, q ≤ 4 ∧ qv = .int .i64 (q) ∧ Hid (∀ i, i < q * M → ¬ good to sl k s (PLv n i)) ∧ Hid (Below w2.heap.size w2 wr)) (fun qv _ => 4 - (intOf qv).toNat)
  case atStart => exact ⟨0, by omega, rfl, Lib.hid (fun i h => absurd h (by omega)), Lib.hid (Below.refl _ _)⟩
  case round =>
    obtain ⟨q, hq, rfl, HNG, HBR⟩ := hrel
    by_cases hq4 : q < 4
    · have hrl := rowBelow HRL.out HBR.out HRL.out.lt
      have c0 : wr.cell? ⟨w.heap.size + 1, q, none⟩ = some (.int .i64 (bq q)) := hrl.cell hq4
      have ll : LtW (w.heap.size + 1) wr := hrl.lt
      have dq : decide ((q : Int) < 4) = true := by simp; omega
      have HPQ : Hid (∀ v, v < M → PLv n (q * M + v) = (bq q, v + 1)) := Lib.hid (fun v h => HPV.out q v hq4 h)
      have HNX : Hid ((q + 1) * M = q * M + M) := Lib.hid (Nat.succ_mul q M)
      obtain ⟨b, hb⟩ : ∃ b, bq q = b := ⟨_, rfl⟩
      have hbb := bq_bd q
      rw [hb] at c0 HPQ hbb
      clear hb hrl
      obtain ⟨B0, hB0⟩ : ∃ B0, q * M = B0 := ⟨_, rfl⟩
      rw [hB0] at HNG HPQ HNX
      clear hB0
      go_wp2_with fail
      clear c0 ll
      obtain ⟨wo, rfl⟩ : ∃ wo : World, wo = wr := ⟨_, rfl⟩
      go_loopw [13] (fun vv wr => ∃ v : Nat, v ≤ M ∧ vv = .int .i64 ((v : Int) + 1) ∧ Hid (∀ i, i < B0 + v → ¬ good to sl k s (PLv n i)) ∧ Hid (Below w2.heap.size w2 wr)) (fun vv _ => M + 1 - (intOf vv).toNat)
      case atStart => exact ⟨0, by omega, rfl, HNG, HBR⟩
      case round =>
        clear HNG HBR
        obtain ⟨v, hv, rfl, HNG, HBR⟩ := hrel
        go_wp2_with fail
        refine (rpowerE n (M + 1) (by omega) HPM.out wr).mono ?_
        rintro r wr' ⟨rfl, he⟩
        subst he
        obtain ⟨wr, rfl⟩ : ∃ wr : World, wr = wr' := ⟨_, rfl⟩
        have HBW : Hid (Below w.heap.size w wr) := Lib.hid (HB2.out.trans (HBR.out.mono HB2.out.size))
        by_cases hvM : v < M
        · have dv : decide ((v : Int) + 1 < ((M + 1 : Nat) : Int)) = true := by simp; omega
          have dv2 : decide ((v : Int) + 1 < (M : Int) + 1) = true := by simp; omega
          have dv3 : decide (v < M) = true := by simpa using hvM
          have hbe := rBehind_any a n c s b (v + 1) wr (HI.out.below HBW.out) hn5 (fun y hy => by have := okS_bd HSO.out y hy; omega) hbb (by omega)
          rw [show ((v + 1 : Nat) : Int) = (v : Int) + 1 by omega] at hbe
          have HBH := Lib.hid hbe
          clear hbe
          have HPE : Hid (PLv n (B0 + v) = (b, v + 1)) := Lib.hid (HPQ.out v hvM)
          go_wp2_with fail
          refine HBH.out.mono ?_
          rintro r w5 ⟨A2, C2, rfl, hown, hb5⟩
          have hzl : (mv s b (v + 1)).length = n := by rw [mv_len]; exact HSL.out
          rw [hzl] at hown ⊢
          have hzi : IsInts w5 A2 n (mv s b (v + 1)) := by
            obtain ⟨A3, C3, e3, h3⟩ := (IntRow.of_own (w := w5) (base := wr.heap.size) (v := .slice A2 n C2) (zs := mv s b (v + 1)) (by rw [hzl]; exact hown)).ints
            rw [hzl] at e3 h3
            injection e3 with e4 e5 e6
            rw [e4]; exact h3
          have HBR5 := Lib.hid (HBR.out.trans (hb5.mono HBR.out.size))
          have HZI5 := Lib.hid hzi; have HZL := Lib.hid hzl
          clear hown hzi hzl hb5 HBH HBR HBW
          have HGD : Hid (good to sl k s (PLv n (B0 + v)) ↔ okS to sl (mv s b (v + 1)) ∧ Dmin to sl k (mv s b (v + 1))) := Lib.hid (by rw [HPE.out]; exact Iff.rfl)
          obtain ⟨zb, hzb⟩ : ∃ zb, mv s b (v + 1) = zb := ⟨_, rfl⟩
          rw [hzb] at HZI5 HZL HGD
          clear hzb
          have HNX2 : Hid (¬ (okS to sl zb ∧ Dmin to sl k zb) → ∀ i, i < B0 + (v + 1) → ¬ good to sl k s (PLv n i)) := Lib.hid (fun h i hi hg => by
            by_cases e : i = B0 + v
            · subst e; exact h (HGD.out.1 hg)
            · exact HNG.out i (by omega) hg)
          go_wp2_with fail
          refine (rStands_any ta n tc to sl A2 n C2 zb w5 (HT.out.below (HB2.out.trans (HBR5.out.mono HB2.out.size))) HZI5.out rfl (by omega) hs).mono ?_
          rintro r w6 ⟨rfl, hb6⟩
          have HBR6 := Lib.hid (HBR5.out.trans (hb6.mono HBR5.out.size))
          have HZI6 := Lib.hid (HZI5.out.below hb6)
          clear hb6 HBR5 HZI5
          by_cases hzk : okS to sl zb
          · rw [decide_eq_true hzk]
            have HZK := Lib.hid hzk
            go_wp2_with fail
            refine (rname_any A2 n C2 zb w6 HZI6.out hn5 (fun x hx => okS_bd HZK.out x hx)).mono ?_
            rintro r w7 ⟨rfl, hb7⟩
            have HBR7 := Lib.hid (HBR6.out.trans (hb7.mono HBR6.out.size))
            have hbw7 := HB2.out.trans (HBR7.out.mono HB2.out.size)
            have hfm7 := HFM.out.keep (TyO.below (B := fun _ => false) hbw7) (fun _ _ => rfl)
            obtain ⟨kv, hlk, hkv⟩ := hfm7.lookE (s := zb) (by rw [HZL.out]; omega)
            have hlk1 := hlk w7 (Below.refl _ _)
            rw [any_nm (fun e he => ⟨(HE.out.2.1 e he).1, (HE.out.2.1 e he).2.1⟩) HZK.out] at hlk1
            have HKV := Lib.hid hkv
            clear hlk hkv hb7 hbw7 hfm7 HBR6 HZI6 hzk
            by_cases hm : zb ∈ E.map (·.1)
            · rw [decide_eq_true hm] at hlk1
              obtain ⟨e1, he1, hz1⟩ := List.mem_map.1 hm
              have hkv := HKV.out e1 he1 (by rw [hz1])
              have hdm := (HE.out.2.1 e1 he1).2.2
              rw [hz1] at hdm
              subst hkv
              by_cases hek : e1.2 = k
              · rw [hek] at hdm hlk1
                have b0 : ((k : Int) == (k : Int)) = true := by simp
                have HF : Hid (firstP to sl k s (b, v + 1)) := Lib.hid ⟨B0 + v, by
                  rw [HNL.out]
                  obtain ⟨j, hj, hg⟩ := HSG.out
                  by_cases h : j < B0 + v
                  · exact absurd hg (HNG.out j h)
                  · have : 2 ^ n - 1 = M := by rw [HPM.out]; omega
                    rw [this]; omega, by rw [HNL.out]; exact HPE.out, by
                  have := HGD.out.2 ⟨HZK.out, hdm⟩
                  rw [HPE.out] at this
                  exact this, fun i hi => by rw [HNL.out]; exact HNG.out i hi⟩
                have hrc := rowBelow HRC.out HBR7.out HRC.out.lt
                have r0 : w7.cell? ⟨w.heap.size, 0, none⟩ = some (.int .i64 (0)) := hrc.cell (i := 0) (by omega)
                have r1 : w7.cell? ⟨w.heap.size, 1, none⟩ = some (.int .i64 (0)) := hrc.cell (i := 1) (by omega)
                have f0 := hrc.frozen 0
                have f1 := hrc.frozen 1
                have lr : LtW w.heap.size w7 := hrc.lt
                have HB7 := Lib.hid (HB2.out.trans (HBR7.out.mono HB2.out.size))
                clear hm he1 hz1 hdm hek hrc
                go_wp2
                have hrw := ((HRC.out : w2.rowIs w.heap.size 43 2 _)).lt
                have hrs := ((rowBelow HRC.out HBR7.out HRC.out.lt).set 0 (.int .i64 (b))).set 1 (.int .i64 ((v : Int) + 1))
                generalize hw8 : (w7.setCell ⟨w.heap.size, 0, none⟩ (.int .i64 (b))).setCell ⟨w.heap.size, 1, none⟩ (.int .i64 ((v : Int) + 1)) = w8 at *
                have q0 : w8.cell? ⟨w.heap.size, 0, none⟩ = some (.int .i64 (b)) := by
                  have := hrs.cell (i := 0) (by omega)
                  simpa using this
                have q1 : w8.cell? ⟨w.heap.size, 1, none⟩ = some (.int .i64 ((v : Int) + 1)) := by
                  have := hrs.cell (i := 1) (by omega)
                  simpa using this
                have lq : LtW w.heap.size w8 := hrs.lt
                have HB8 : Hid (Below w.heap.size w w8) := Lib.hid (by
                  rw [← hw8]
                  exact (HB7.out.setCell (by simp) _).setCell (by simp) _)
                clear hw8 r0 r1 f0 f1 lr hrs hrw HB7
                refine bodyPost_ret (v := .agg #[.int .i64 (b), .int .i64 ((v : Int) + 1)]) (by simp [results, Try.results22, go_sem, q0, q1]) rfl ⟨HB8.out, _, HF.out, ?_⟩
                simp
              · have b0 : (((e1.2 : Nat) : Int) == (k : Int)) = false := by simp; omega
                have HN2 := Lib.hid (HNX2.out (fun h => hek (hdm.uniq h.2)))
                clear hm he1 hz1 hdm hek
                go_wp2
                go_roundw
                case rel => exact ⟨v + 1, by omega, by go_num, HN2, HBR7⟩
                case measure => simp [intOf]; omega
            · rw [decide_eq_false hm] at hlk1
              have HN2 := Lib.hid (HNX2.out (fun h => hm (HE.out.2.2 _ _ h.1 (HZL.out.trans HNL.out.symm) h.2)))
              clear hm
              go_wp2
              go_roundw
              case rel => exact ⟨v + 1, by omega, by go_num, HN2, HBR7⟩
              case measure => simp [intOf]; omega
          · rw [decide_eq_false hzk]
            have HN2 := Lib.hid (HNX2.out (fun h => hzk h.1))
            clear hzk
            go_wp2
            go_roundw
            case rel => exact ⟨v + 1, by omega, by go_num, HN2, HBR6⟩
            case measure => simp [intOf]; omega
        · obtain rfl : v = M := by omega
          have dv : decide ((v : Int) + 1 < ((v + 1 : Nat) : Int)) = false := by simp
          have dv2 : decide ((v : Int) + 1 < (v : Int) + 1) = false := by simp
          have HN2 : Hid (∀ i, i < (q + 1) * v → ¬ good to sl k s (PLv n i)) := Lib.hid (by rw [HNX.out]; exact HNG.out)
          go_wp2
          go_roundw
          case rel => exact ⟨q + 1, by omega, by go_num, HN2, HBR⟩
          case measure => simp [intOf]; omega
    · obtain rfl : q = 4 := by omega
      obtain ⟨j, hj, hg⟩ := HSG.out
      exact absurd hg (HNG.out j hj)
end Go.Proofs.Ytoooihoaapfjeaa

namespace Go.Proofs.Ytoooihoaapfjeaa
open Go.RowKit
set_option linter.unusedVariables false
set_option linter.unusedSimpArgs false
open Ps Go.Maps
namespace Ps
theorem rnd_le (to : List Int) (sl : Int) (s : List Int) (d : Nat) : ∀ (l : List (Int × Nat)) (E : List (List Int × Nat)), E.length ≤ (rnd to sl s d E l).length
  | [], E => Nat.le_refl _
  | p :: l, E => by
    have h1 := rnd_le to sl s d l (step1 to sl s d E p)
    have h2 : E.length ≤ (step1 to sl s d E p).length := by
      unfold step1
      split
      · simp
      · exact Nat.le_refl _
    exact Nat.le_trans h2 h1
/-- Breadth first comes to an end. -/
theorem bfs_end {to : List Int} {sl : Int} (ht : okS to sl to) (h5 : to.length ≤ 5) : ∃ i, i = (bfs to sl i).length := by
  have key : ∀ N, (∃ i, i = (bfs to sl i).length) ∨ N ≤ (bfs to sl N).length := by
    intro N
    induction N with
    | zero => exact .inr (Nat.zero_le _)
    | succ N ih =>
      rcases ih with h | h
      · exact .inl h
      · by_cases e : N = (bfs to sl N).length
        · exact .inl ⟨N, e⟩
        · have hlt : N < (bfs to sl N).length := by omega
          have hN : (bfs to sl N).length ≤ (bfs to sl (N + 1)).length := by
            simp only [bfs]
            rw [if_pos hlt]
            exact rnd_le _ _ _ _ _ _
          by_cases e2 : N + 1 ≤ (bfs to sl (N + 1)).length
          · exact .inr e2
          · omega
  rcases key 248833 with h | h
  · exact h
  · have := bfs_len (bfs_in ht 248833 h) h5
    omega
theorem dmin_le {to : List Int} {sl : Int} {k : Nat} {s : List Int} (ht : okS to sl to) (h5 : to.length ≤ 5) (ho : okS to sl s) (hl : s.length = to.length) (hd : Dmin to sl k s) : k ≤ 250000 := by
  obtain ⟨i, hi⟩ := bfs_end ht h5
  obtain ⟨e, he, e1, e2⟩ := (bfs_done ht hi).2 k s ho hl hd.1
  have h1 := bfs_dmin ht hi he
  rw [e1] at h1
  have h2 := h1.uniq hd
  obtain ⟨j, hj, e3⟩ := List.getElem_of_mem he
  have h3 := bfs_d (to := to) (sl := sl) i j hj
  rw [List.getD_eq_getElem?_getD, List.getElem?_eq_getElem hj, Option.getD_some, e3] at h3
  have h4 := bfs_len (bfs_in ht i (by omega)) h5
  omega
end Ps
theorem grown_tyP {w w' : World} {base n : Nat} {v : Value} {xs : List Value} (ho : w.ownsRow base 43 2 v n xs) (hg : w.grownBy w' v.ownBlock) : TyO Bp w w' := by
  rcases ho.2 with ⟨e, _⟩ | ⟨g, cap, cur, e1, e2, e3, e4⟩
  · rw [e] at hg
    exact TyO.none hg
  · rw [e1] at hg
    exact TyO.grown hg e3 rfl
set_option maxRecDepth 100000 in
set_option maxHeartbeats 8000000 in
theorem rPlan_any (fa : Option Addr) (fn fc : Nat) (zs : List Int) (ta : Option Addr) (tn tc : Nat) (to : List Int) (sl : Int) (w : World) (hI : IsInts w fa fn zs) (hT : IsInts w ta tn to) (hfn : fn ≤ 9223372036854775807) (htn : tn ≤ 9223372036854775807) (hs : (-9223372036854775808 ≤ sl ∧ sl ≤ 9223372036854775807)) :
    Calls Try.prog 10 #[.slice fa fn fc, .slice ta tn tc, .int .i64 sl] w (PlanPost zs to sl w) := by
  have HI := Lib.hid hI; have HT := Lib.hid hT
  have HWr := Lib.hid (rWrong_any fa fn fc zs ta tn tc to sl w hI hT hfn htn hs)
  clear hI hT
  go_enter Try.func10, Try.ntmps10
  go_wp2_with fail
  refine HWr.out.mono ?_
  rintro r w1 ⟨rfl, hb1⟩
  have HB1 := Lib.hid hb1
  clear hb1 HWr
  by_cases hw0 : wrP zs to sl = 0
  rotate_left
  · have hne : (wrP zs to sl != 0) = true := by simpa using hw0
    have HW := Lib.hid hw0
    obtain ⟨Er, hEr⟩ : ∃ Er, wrP zs to sl = Er := ⟨_, rfl⟩
    rw [hEr] at hne ⊢
    have HER := Lib.hid hEr
    clear hw0 hEr
    go_wp2
    refine bodyPost_ret (v := .tuple #[.slice none 0 0, .int .i64 (Er)]) (by simp [results, Try.results10, go_sem]) rfl ?_
    exact ⟨HB1.out, .inl ⟨HW.out, by rw [HER.out]⟩⟩
  · obtain ⟨hz1, hz5, hzl, hs1, hs11, hoz, hot⟩ := wrP_zero hw0
    have hnf : fn = zs.length := HI.out.1.symm
    have hnt : tn = fn := by rw [hnf, ← hzl]; exact HT.out.1.symm
    subst hnt
    rw [← hnf] at hz1 hz5 hzl
    have HW0 := Lib.hid hw0; have HOZ := Lib.hid hoz; have HOT := Lib.hid hot; have HZL := Lib.hid hnf; have HTL := Lib.hid hzl
    rw [hw0]
    clear hw0 hoz hot hzl hnf
    go_wp2_with fail
    refine (rLayers_any ta tn tc to sl w1 (HT.out.below HB1.out) hz1 hz5 HOT.out ⟨hs1, hs11⟩).mono ?_
    rintro r w2 ⟨hb2, mb, E, rfl, hfm2, hep⟩
    have HB2 := Lib.hid (HB1.out.trans (hb2.mono HB1.out.size))
    have HFM2 := Lib.hid hfm2; have HEP := Lib.hid hep
    clear hb2 hfm2 hep HB1
    go_wp2_with fail
    refine (rname_any fa tn fc zs w2 (HI.out.below HB2.out) hz5 (fun x hx => okS_bd HOZ.out x hx)).mono ?_
    rintro r w3 ⟨rfl, hb3⟩
    have HB3 := Lib.hid (HB2.out.trans (hb3.mono HB2.out.size))
    have hfm3 := HFM2.out.keep (TyO.below (B := fun _ => false) hb3) (fun _ _ => rfl)
    obtain ⟨kv, hlk, hkv⟩ := hfm3.lookE (s := zs) (by rw [← HZL.out]; omega)
    have hlk1 := hlk w3 (Below.refl _ _)
    rw [any_nm (fun e he => ⟨(HEP.out.2.1 e he).1, (HEP.out.2.1 e he).2.1⟩) HOZ.out] at hlk1
    have HKV := Lib.hid hkv; have HFM3 := Lib.hid hfm3
    clear hlk hkv hfm3 hb3 HFM2 HB2
    by_cases hm : zs ∈ E.map (·.1)
    rotate_left
    · rw [decide_eq_false hm] at hlk1
      have HNO : Hid (∀ k, ¬ dist to sl k zs) := Lib.hid (fun k hd => by
        obtain ⟨k', hk'⟩ := Dmin.of_dist _ hd
        exact hm (HEP.out.2.2 k' zs HOZ.out (by rw [← HZL.out, HTL.out]) hk'))
      clear hm
      go_wp2
      refine bodyPost_ret (v := .tuple #[.slice none 0 0, .int .i64 (6)]) (by simp [results, Try.results10, go_sem]) rfl ?_
      exact ⟨HB3.out, .inr (.inl ⟨HW0.out, HNO.out, rfl⟩)⟩
    · rw [decide_eq_true hm] at hlk1
      obtain ⟨e1, he1, hz9⟩ := List.mem_map.1 hm
      have hkv := HKV.out e1 he1 (by rw [hz9])
      have hdm := (HEP.out.2.1 e1 he1).2.2
      rw [hz9] at hdm
      subst hkv
      obtain ⟨K, hK⟩ : ∃ K, e1.2 = K := ⟨_, rfl⟩
      rw [hK] at hdm hlk1
      have hK9 := dmin_le HOT.out (by rw [HTL.out]; exact hz5) HOZ.out (by rw [← HZL.out, HTL.out]) hdm
      have HDM := Lib.hid hdm
      clear hm he1 hz9 hK hdm HKV
      go_wp2_with fail
      clear hlk1
      go_loopw [10, 12, 13] (fun kv ov av wr => ∃ (j : Nat) (L1 : List (Int × Nat)) (s : List Int) (A : Option Addr) (c : Nat), j + L1.length = K ∧ kv = .int .i64 (j) ∧ av = .slice A tn c ∧ Hid (wr.ownsRow w.heap.size 43 2 ov L1.length (psK L1)) ∧ Hid (EL w wr (.slice A tn c) s) ∧ s.length = tn ∧ Hid (okS to sl s) ∧ Hid (Dmin to sl j s) ∧ Hid (∀ L2, firstL to sl j s L2 → firstL to sl K zs (L1 ++ L2)) ∧ Hid (FS mb E wr) ∧ Hid (Below w.heap.size w wr)) (fun kv _ _ _ => (intOf kv).toNat)
      case atStart => exact ⟨K, [], zs, fa, fc, by simp, rfl, rfl, Lib.hid ⟨rfl, .inl ⟨rfl, rfl⟩⟩, Lib.hid (.inl ⟨fa, fc, by rw [← HZL.out], by rw [← HZL.out]; exact HI.out⟩), HZL.out.symm, HOZ, HDM, Lib.hid (fun L2 h => h), HFM3, HB3⟩
      case round =>
        clear HFM3 HB3
        obtain ⟨j, L1, s, A, c, hjK, rfl, rfl, HO, HEL, hsl, HSO, HDJ, HFL, HFM, HB⟩ := hrel
        cases j with
        | zero =>
          obtain ⟨AO, CO, rfl⟩ := own_form HO.out
          have HP := Lib.hid (own_passes rfl HO.out)
          have HF9 : Hid (firstL to sl K zs L1) := Lib.hid (by have := HFL.out [] rfl; rwa [List.append_nil] at this)
          go_wp2
          refine bodyPost_ret (v := .tuple #[.slice AO L1.length CO, .int .i64 (0)]) (by simp [results, Try.results10, go_sem]) rfl ?_
          exact ⟨HB.out, .inr (.inr ⟨HW0.out, K, L1, AO, CO, by omega, HDM.out, HF9.out, rfl, HP.out⟩)⟩
        | succ j =>
          have hi9 : IsInts wr A tn s := by
            obtain ⟨A', c', e, hi⟩ := HEL.out.ints HB.out
            rw [hsl] at e hi
            injection e with e1 _ e2
            rw [e1]
            exact hi
          have HI9 := Lib.hid hi9
          have dz : decide ((0 : Int) < ((j + 1 : Nat) : Int)) = true := by simp
          have v1 : IntKind.i64.wrap ((j : Int) + 1 - 1) = (j : Int) := by rw [Int.add_sub_cancel]; exact IntWalk.i64_in _ (by omega)
          clear hi9
          go_wp2_with fail
          refine (rfirst_any A tn c s ta tc to sl mb E j wr HI9.out (HT.out.below HB.out) hz1 hz5 HSO.out ⟨hs1, hs11⟩ HFM.out HEP.out (by omega) HDJ.out).mono ?_
          rintro r w4 ⟨hb4, ⟨b, q⟩, hfp, rfl⟩
          obtain ⟨jj, hjj, hPL, hgd, _⟩ := id hfp
          have hval := PLv_valid hjj
          rw [hPL] at hval
          have HGD := Lib.hid hgd
          have HFP := Lib.hid hfp
          have hq32 : q < 32 := by
            have h1 := hval.2.2
            have h2 : 2 ^ to.length ≤ 2 ^ 5 := Nat.pow_le_pow_right (by omega) (by rw [HTL.out]; exact hz5)
            simp only at h1
            omega
          have hbb : -2 ≤ b ∧ b ≤ 2 := by have := hval.1; simp only at this; omega
          have HO4 := Lib.hid (ownBelow HO.out hb4)
          have HEL4 := Lib.hid (HEL.out.keep (TyO.below (B := fun _ => false) hb4) (fun _ _ => rfl))
          have HFM4 := Lib.hid (HFM.out.keep (TyO.below (B := fun _ => false) hb4) (fun _ _ => rfl))
          have HB4 := Lib.hid (HB.out.trans (hb4.mono HB.out.size))
          have hL1 : L1.length ≤ 250000 := by omega
          clear hjj hPL hgd hfp hval hb4 HO HEL HFM HB HI9
          have hb10 : Below w4.heap.size w4 ((w4.alloc (.cells #[.int .i64 (b), .int .i64 (q)] 43)).alloc (.cells #[.int .i64 (b), .int .i64 (q)] 43)) := (by repeat (first | exact Below.refl _ _ | refine Below.drew ?_ | refine below_drewN ?_ _ | refine Below.alloc ?_ (by first | exact Nat.le_refl _ | (simp; done) | (simp; omega) | omega) _ | refine Below.setCell ?_ (by first | exact Nat.le_refl _ | (simp; done) | (simp; omega) | omega) _ | refine bExtW ?_ (by first | exact Nat.le_refl _ | (simp; done) | (simp; omega) | omega) | refine Below.trans ?_ (Below.mono (by assumption) (by first | exact Nat.le_refl _ | (simp; done) | (simp; omega) | omega))))
          have hxr := (psI_alloc w4 b q).alloc (.cells #[.int .i64 (b), .int .i64 (q)] 43)
          have hyr := psI_alloc (w4.alloc (.cells #[.int .i64 (b), .int .i64 (q)] 43)) b q
          have HO10 := Lib.hid (ownBelow HO4.out hb10)
          have HEL10 := Lib.hid (HEL4.out.keep (TyO.below (B := fun _ => false) hb10) (fun _ _ => rfl))
          have HFM10 := Lib.hid (HFM4.out.keep (TyO.below (B := fun _ => false) hb10) (fun _ _ => rfl))
          have HB10 := Lib.hid (HB4.out.trans (hb10.mono HB4.out.size))
          have hsz10 : w4.heap.size < ((w4.alloc (.cells #[.int .i64 (b), .int .i64 (q)] 43)).alloc (.cells #[.int .i64 (b), .int .i64 (q)] 43)).heap.size := by simp; omega
          have HXR := Lib.hid hxr; have HYR := Lib.hid hyr; have HS10 := Lib.hid hsz10
          clear hb10 hxr hyr hsz10 HEL4 HFM4 HB4
          go_wp2_with (at_builtin; refine wpAppG okPass rfl (.tmp 44) (.tmp 46) rfl w.heap.size _ L1.length (psK L1) #[.int .i64 (b), .int .i64 (q)] (w4.heap.size + 1) rfl HO10.out rfl ?_ rfl ?_ (by omega) (by omega) HB10.out.size ?_)
          · intro i u hu
            have hi : i < 2 := (Array.getElem?_eq_some_iff.1 hu).1
            have := HYR.out.cell (i := i) hi
            rw [World.size_alloc] at this
            rw [this]
            have hi2 : i = 0 ∨ i = 1 := by omega
            rcases hi2 with rfl | rfl <;> exact hu
          · exact ⟨rfl, rfl⟩
          intro v' w11 hown11 hg11
          have hsn : w11.ownsRow w.heap.size 43 2 v' (L1 ++ [(b, q)]).length (psK (L1 ++ [(b, q)])) := by
            rw [List.length_append, psK_snoc]
            exact hown11
          have hty := grown_tyP HO10.out hg11
          have hxb := hg11.block w4.heap.size HS10.out (fun e => by
            have := (HO4.out.lt _ e.symm).2
            omega)
          have hx11 := HXR.out.of_block hxb
          have x0 : w11.cell? ⟨w4.heap.size, 0, none⟩ = some (.int .i64 (b)) := hx11.cell (i := 0) (by omega)
          have x1 : w11.cell? ⟨w4.heap.size, 1, none⟩ = some (.int .i64 (q)) := hx11.cell (i := 1) (by omega)
          have lx : LtW w4.heap.size w11 := hx11.lt
          have hb11 : Below w.heap.size w w11 := HB10.out.trans (belowGrown hg11 HB10.out.size (fun k hk => (HO10.out.lt k hk).1))
          have hel11 := HEL10.out.keep hty (fun _ _ => rfl)
          have hi11 : IsInts w11 A tn s := by
            obtain ⟨A', c', e, hi⟩ := hel11.ints hb11
            rw [hsl] at e hi
            injection e with e1 _ e2
            rw [e1]
            exact hi
          have HFM11 := Lib.hid (HFM10.out.keep hty (fun _ _ => rfl))
          have HO11 := Lib.hid hsn; have HB11 := Lib.hid hb11; have HI11 := Lib.hid hi11
          clear hown11 hg11 hsn hty hxb hx11 hb11 hel11 hi11 HO10 HEL10 HFM10 HB10 HXR HYR HS10 HO4
          go_wp2_with fail
          refine (rBehind_any A tn c s b q w11 HI11.out hz5 (fun y hy => by have := okS_bd HSO.out y hy; omega) hbb hq32).mono ?_
          rintro r w12 ⟨A2, C2, rfl, hown, hb12⟩
          have hzl9 : (mv s b q).length = tn := by rw [mv_len]; exact hsl
          rw [hzl9] at hown ⊢
          have hir : IntRow w12 (.slice A2 tn C2) (mv s b q) := IntRow.of_own (base := w11.heap.size) (by rw [hzl9]; exact hown)
          have HIR := Lib.hid hir
          have HO12 := Lib.hid (ownBelow HO11.out hb12)
          have HFM12 := Lib.hid (HFM11.out.keep (TyO.below (B := fun _ => false) hb12) (fun _ _ => rfl))
          have HB12 := Lib.hid (HB11.out.trans (hb12.mono HB11.out.size))
          have HFL2 : Hid (∀ L2, firstL to sl j (mv s b q) L2 → firstL to sl K zs ((L1 ++ [(b, q)]) ++ L2)) := Lib.hid (fun L2 h => by
            rw [List.append_assoc]
            exact HFL.out _ ⟨(b, q), L2, rfl, HFP.out, h⟩)
          clear hown hir hb12 x0 x1 lx HO11 HFM11 HB11 HI11
          go_wp2
          go_roundw
          case rel => exact ⟨j, L1 ++ [(b, q)], mv s b q, A2, C2, by rw [List.length_append, List.length_singleton]; omega, by go_num, rfl, HO12, Lib.hid (.inr HIR.out), hzl9, Lib.hid HGD.out.1, Lib.hid HGD.out.2, HFL2, HFM12, HB12⟩
          case measure => simp [intOf]
end Go.Proofs.Ytoooihoaapfjeaa
