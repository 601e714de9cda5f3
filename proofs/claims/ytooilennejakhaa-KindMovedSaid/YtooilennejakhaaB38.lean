/- Lemmas and contracts of functions (what each call returns, and that it changes nothing that was there) that the proof of a law of this seat uses; each lemma states its own conditions. -/
import Derived.Test.YtooilennejakhaaB37
import Derived.Test.YtooilennejakhaaB06
import Derived.ProofKit
import Derived.OpenShut
import Derived.ShutString
import Derived.ChangeOld
import Derived.Below
import Derived.Lib.SmallJoins
import Derived.Deep.Strs
import Derived.Test.YtooilennejakhaaB08
import Derived.Deep.Grids
import Derived.Test.YtooilennejakhaaB10
namespace Go.Proofs.Ytooilennejakhaa
open Go.RowKit
set_option linter.unusedVariables false
set_option linter.unusedSimpArgs false
open Z (torN place pnt Mv To lin okT nrm keepB colP idm md redM both inv stK Sid Upw movesL turnsF waysF kindP tnK flK alongB)
set_option maxRecDepth 100000 in
set_option maxHeartbeats 8000000 in
theorem counts_bad (G W H : Int) (a : Option Addr) (n c : Nat) (cs : List Int) (w : World) (hI : IsInts w a n cs) (e : Int) (hT : TorBad e (.agg #[.int .i64 (G), .int .i64 (W), .int .i64 (H), .slice a n c]) a n cs) :
    Calls Try.prog 3 #[.agg #[.int .i64 (G), .int .i64 (W), .int .i64 (H), .slice a n c]] w fun r w' => r = .returned (.bool true) ∧ Below w.heap.size w w' := by
  have hb : (e != 0) = true := by simpa using hT.1
  have HK := Lib.hid (fun w hI => Kind_bad G W H a n c cs w hI e hT)
  have HI := Lib.hid hI
  clear hI hT
  go_enter Try.func3, Try.ntmps3
  (go_wp2_with fail; refine (alive4_any _).mono ?_; rintro r w1 ⟨rfl, hb⟩; obtain ⟨E, d, rfl⟩ := bExt hb; clear hb)
  (go_wp2_with fail; refine (HK.out _ (HI.out.below (by repeat (first | exact Below.refl _ _ | refine Below.drew ?_ | refine below_drewN ?_ _ | refine Below.alloc ?_ (by first | exact Nat.le_refl _ | (simp; done) | (simp; omega) | omega) _ | refine Below.setCell ?_ (by first | exact Nat.le_refl _ | (simp; done) | (simp; omega) | omega) _ | refine bExtW ?_ (by first | exact Nat.le_refl _ | (simp; done) | (simp; omega) | omega) | refine Below.trans ?_ (Below.mono (by assumption) (by first | exact Nat.le_refl _ | (simp; done) | (simp; omega) | omega)))))).mono ?_; rintro r w1 ⟨rfl, hb⟩; obtain ⟨E, d, rfl⟩ := bExt hb; clear hb)
  go_wp2
  go_ret
  exact ⟨rfl, (by repeat (first | exact Below.refl _ _ | refine Below.drew ?_ | refine below_drewN ?_ _ | refine Below.alloc ?_ (by first | exact Nat.le_refl _ | (simp; done) | (simp; omega) | omega) _ | refine Below.setCell ?_ (by first | exact Nat.le_refl _ | (simp; done) | (simp; omega) | omega) _ | refine bExtW ?_ (by first | exact Nat.le_refl _ | (simp; done) | (simp; omega) | omega) | refine Below.trans ?_ (Below.mono (by assumption) (by first | exact Nat.le_refl _ | (simp; done) | (simp; omega) | omega))))⟩
/-- How many of a sort there are among the first. -/
def cnF (L : List Mv) (f : Bool) (i : Nat) : Nat := (L.take i).countP fun m => m.f == f
theorem cnF_succ {L : List Mv} {f : Bool} {i : Nat} (h : i < L.length) : cnF L f (i + 1) = cnF L f i + if (L.getD i idm).f = f then 1 else 0 := by
  unfold cnF
  rw [List.take_succ_eq_append_getElem h, List.countP_append]
  rw [List.getD_eq_getElem?_getD, List.getElem?_eq_getElem h]
  simp [List.countP_singleton]
theorem cnF_le (L : List Mv) (f : Bool) (i : Nat) : cnF L f i ≤ i := by
  unfold cnF
  exact Nat.le_trans List.countP_le_length (by rw [List.length_take]; omega)
set_option maxRecDepth 100000 in
set_option maxHeartbeats 8000000 in
theorem counts_fine (G W H n N sa uc ub : Nat) (a : Option Addr) (c : Nat) (cs : List Int) (w : World) (hI : IsInts w a n cs) (h : ChOk G W H n cs) (hN : torN W H = N) (h24 : N ≤ 24) (h0 : 0 < N) (hS : Sid (stK W H cs G N) N sa) (hU : Upw (stK W H cs G N) N sa uc ub) :
    Calls Try.prog 3 #[.agg #[.int .i64 (G), .int .i64 (W), .int .i64 (H), .slice a n c]] w fun r w' => r = .returned (.bool true) ∧ Below w.heap.size w w' := by
  have hd := Z.torN_dvd W H
  rw [hN] at hd
  have hg : (G : Int) = 4 ∨ (G : Int) = 6 := by have := h.g; omega
  have HK := Lib.hid (fun w hI => Kind_ok G W H n N sa uc ub a c cs w hI h hN h24 h0 hS hU)
  have HF := Lib.hid (fun w hI => Finest_ok G W H n N sa uc ub a c cs w hI h hN h24 h0 hS hU)
  have HM := Lib.hid (fun w hI => Moves_ok G W H n N a c cs w hI h hN h24 h0)
  have HT := Lib.hid (torOk (a := a) (c := c) h hN h24).1
  have hlen := (moves_facts h hN h24 h0).2.2.2
  have hfine := Z.fine_of h0 hd.1 hd.2 hS hU
  have hcnt := Z.counts_ok hg h0 hd.1 hd.2 hfine (alongB G sa ub uc (waysF G sa ub uc (movesL W H cs G N))) rfl
  have a1 := hS.a1; have an := hS.an; have b1 := hU.b1; have bn := hU.bn
  have HI := Lib.hid hI
  unfold MvPost at HM
  generalize kindP (turnsF (movesL W H cs G N)).length (alongB G sa ub uc (waysF G sa ub uc (movesL W H cs G N))) (waysF G sa ub uc (movesL W H cs G N)) = K at *
  generalize movesL W H cs G N = L at *
  obtain ⟨k1, k2, t4, t6, S, hS1, hS2, hS3⟩ := hcnt
  have HTU := Lib.hid (fun w => turns_any K w k1 k2)
  have hpl : L.countP (fun m => m.f == false) ≤ 10000 := Nat.le_trans List.countP_le_length hlen
  have hfl : L.countP (fun m => m.f == true) ≤ 10000 := Nat.le_trans List.countP_le_length hlen
  have HP0 : Hid (cnF L false L.length = L.countP (fun m => m.f == false)) := Lib.hid (by unfold cnF; rw [List.take_length])
  have HQ0 : Hid (cnF L true L.length = L.countP (fun m => m.f == true)) := Lib.hid (by unfold cnF; rw [List.take_length])
  generalize L.countP (fun m => m.f == false) = np at *
  generalize L.countP (fun m => m.f == true) = nf at *
  generalize tnK K = tt at *
  generalize flK K = ff at *
  obtain ⟨M, hM⟩ : ∃ m : Nat, N * N = m := ⟨_, rfl⟩
  obtain ⟨B, hB⟩ : ∃ m : Nat, sa * ub = m := ⟨_, rfl⟩
  have l1 : M ≤ 24 * 24 := by rw [← hM]; exact Nat.mul_le_mul h24 h24
  have l2 : B ≤ 24 * 24 := by rw [← hB]; exact Nat.mul_le_mul (by omega) (by omega)
  have l3 : 0 < B := by rw [← hB]; exact Nat.mul_pos (by omega) (by omega)
  have p1 : (N : Int) * (N : Int) = (M : Int) := by rw [← hM]; push_cast; rfl
  have p2 : (sa : Int) * (ub : Int) = (B : Int) := by rw [← hB]; push_cast; rfl
  rw [p1, p2] at hS1
  have hSM : S ≤ M := by
    have : (M : Int).tdiv (B : Int) = ((M / B : Nat) : Int) := rfl
    rw [this] at hS1
    have := Nat.div_le_self M B
    omega
  have p3 : tt * (S : Int) = (np : Int) := hS2.symm
  have p4 : ff * (S : Int) = (nf : Int) := hS3.symm
  have r1 : IntKind.i64.wrap (M : Int) = (M : Int) := IntWalk.i64_in _ (by omega)
  have r2 : IntKind.i64.wrap (B : Int) = (B : Int) := IntWalk.i64_in _ (by omega)
  have r3 : IntKind.i64.wrap (S : Int) = (S : Int) := IntWalk.i64_in _ (by omega)
  have r4 : IntKind.i64.wrap (np : Int) = (np : Int) := IntWalk.i64_in _ (by omega)
  have r5 : IntKind.i64.wrap (nf : Int) = (nf : Int) := IntWalk.i64_in _ (by omega)
  have q1 : decide ((sa : Int) < 1) = false := by simp; omega
  have q2 : decide ((ub : Int) < 1) = false := by simp; omega
  have q3 : decide (sa < 1) = false := by simp; omega
  have q4 : decide (ub < 1) = false := by simp; omega
  have q5 : ((B : Int) == 0) = false := by rw [beq_eq_false_iff_ne]; omega
  have q6 : (B : Int) ≠ 0 := by omega
  have q7 : ¬ B = 0 := by omega
  have q8 : decide (K < 1) = false := by simp; omega
  have q9 : decide (17 < K) = false := by simp; omega
  have hg4 : ((((G : Int) == 4) = true) ∧ (((G : Int) == 6) = false) ∧ ((tt == 3) = false) ∧ ((tt == 6) = false)) ∨ ((((G : Int) == 4) = false) ∧ (((G : Int) == 6) = true) ∧ ((tt == 4) = false)) := by
    rcases hg with e | e
    · have e2 : G = 4 := by omega
      have := t4 e2
      exact .inl ⟨by simp [e], by simp [e], by simpa using this.1, by simpa using this.2⟩
    · have e2 : G = 6 := by omega
      have := t6 e2
      exact .inr ⟨by simp [e], by simp [e], by simpa using this⟩
  clear hI hN hd h hfine hS hU hg hM hB hpl hfl hS2 hS3 k1 k2 t4 t6
  go_enter Try.func3, Try.ntmps3
  (go_wp2_with fail; refine (alive4_any _).mono ?_; rintro r w1 ⟨rfl, hb⟩; obtain ⟨E, d, rfl⟩ := bExt hb; clear hb)
  go_wp2_with fail
  refine (HK.out _ (HI.out.below (by repeat (first | exact Below.refl _ _ | refine Below.drew ?_ | refine below_drewN ?_ _ | refine Below.alloc ?_ (by first | exact Nat.le_refl _ | (simp; done) | (simp; omega) | omega) _ | refine Below.setCell ?_ (by first | exact Nat.le_refl _ | (simp; done) | (simp; omega) | omega) _ | refine bExtW ?_ (by first | exact Nat.le_refl _ | (simp; done) | (simp; omega) | omega) | refine Below.trans ?_ (Below.mono (by assumption) (by first | exact Nat.le_refl _ | (simp; done) | (simp; omega) | omega)))))).mono ?_
  rintro r w1 ⟨rfl, hb⟩
  obtain ⟨E1, d1, rfl⟩ := bExt hb
  clear hb
  go_wp2_with fail
  refine (HM.out _ (HI.out.below (by repeat (first | exact Below.refl _ _ | refine Below.drew ?_ | refine below_drewN ?_ _ | refine Below.alloc ?_ (by first | exact Nat.le_refl _ | (simp; done) | (simp; omega) | omega) _ | refine Below.setCell ?_ (by first | exact Nat.le_refl _ | (simp; done) | (simp; omega) | omega) _ | refine bExtW ?_ (by first | exact Nat.le_refl _ | (simp; done) | (simp; omega) | omega) | refine Below.trans ?_ (Below.mono (by assumption) (by first | exact Nat.le_refl _ | (simp; done) | (simp; omega) | omega)))))).mono ?_
  rintro r w2 ⟨⟨A, C, rfl, hM⟩, hb2⟩
  have HMV := Lib.hid hM.moves
  have bx0 : w2.cell? ⟨w.heap.size, 0, none⟩ = some (.int .i64 (G)) := bCs hb2 (by simp [go_sem])
  have bx1 : w2.cell? ⟨w.heap.size, 1, none⟩ = some (.int .i64 (W)) := bCs hb2 (by simp [go_sem])
  have bx2 : w2.cell? ⟨w.heap.size, 2, none⟩ = some (.int .i64 (H)) := bCs hb2 (by simp [go_sem])
  have bx3 : w2.cell? ⟨w.heap.size, 3, none⟩ = some (.slice a n c) := bCs hb2 (by simp [go_sem])
  have lbx : LtW w.heap.size w2 := World.block_lt_of_cell? _ _ bx0
  have hbw : Below w.heap.size w w2 := (by repeat (first | exact Below.refl _ _ | refine Below.drew ?_ | refine below_drewN ?_ _ | refine Below.alloc ?_ (by first | exact Nat.le_refl _ | (simp; done) | (simp; omega) | omega) _ | refine Below.setCell ?_ (by first | exact Nat.le_refl _ | (simp; done) | (simp; omega) | omega) _ | refine bExtW ?_ (by first | exact Nat.le_refl _ | (simp; done) | (simp; omega) | omega) | refine Below.trans ?_ (Below.mono (by assumption) (by first | exact Nat.le_refl _ | (simp; done) | (simp; omega) | omega))))
  have hsz2 : w.heap.size ≤ w2.heap.size := hbw.size
  clear hM hb2
  (go_wp2_with fail; refine (HT.out _ (HI.out.below (by repeat (first | exact Below.refl _ _ | refine Below.drew ?_ | refine below_drewN ?_ _ | refine Below.alloc ?_ (by first | exact Nat.le_refl _ | (simp; done) | (simp; omega) | omega) _ | refine Below.setCell ?_ (by first | exact Nat.le_refl _ | (simp; done) | (simp; omega) | omega) _ | refine bExtW ?_ (by first | exact Nat.le_refl _ | (simp; done) | (simp; omega) | omega) | refine Below.trans ?_ (Below.mono (by assumption) (by first | exact Nat.le_refl _ | (simp; done) | (simp; omega) | omega)))))).mono ?_; rintro r w1 ⟨rfl, hb⟩; obtain ⟨E, d, rfl⟩ := bExt hb; clear hb)
  go_wp2_with fail
  refine (HF.out _ (HI.out.below (by repeat (first | exact Below.refl _ _ | refine Below.drew ?_ | refine below_drewN ?_ _ | refine Below.alloc ?_ (by first | exact Nat.le_refl _ | (simp; done) | (simp; omega) | omega) _ | refine Below.setCell ?_ (by first | exact Nat.le_refl _ | (simp; done) | (simp; omega) | omega) _ | refine bExtW ?_ (by first | exact Nat.le_refl _ | (simp; done) | (simp; omega) | omega) | refine Below.trans ?_ (Below.mono (by assumption) (by first | exact Nat.le_refl _ | (simp; done) | (simp; omega) | omega)))))).mono ?_
  rintro r w3 ⟨rfl, hb⟩
  obtain ⟨E3, d3, rfl⟩ := bExt hb
  clear hb
  (go_wp2_with fail; refine (HTU.out _).mono ?_; rintro r w1 ⟨rfl, hb⟩; obtain ⟨E, d, rfl⟩ := bExt hb; clear hb)
  clear HK HF HM HT HTU
  rcases hg4 with ⟨g1, g2, g3, g4⟩ | ⟨g1, g2, g3⟩
  all_goals
    go_wp2_with fail
    go_loopw [14, 15, 107] (fun pv fv iv wr => ∃ (i : Nat) (E : Array Obj) (d : Nat), i ≤ L.length ∧ Hid (pv = .int .i64 (cnF L false i : Nat)) ∧ Hid (fv = .int .i64 (cnF L true i : Nat)) ∧ iv = .int .i64 i ∧ wr = extW w2 E d) (fun _ _ iv _ => L.length - (intOf iv).toNat)
    case atStart => exact ⟨0, _, _, by omega, Lib.hid rfl, Lib.hid rfl, rfl, by first | rfl | (simp only [extW_extW, alloc_extW]; rfl)⟩
    case round =>
      obtain ⟨i, E2, d2, hi, HPV, HFV, rfl, rfl⟩ := hrel
      have hpi := cnF_le L false i
      have hfi := cnF_le L true i
      by_cases hil : i < L.length
      · have di : decide ((i : Int) < (L.length : Int)) = true := by simpa using hil
        have vi : IntKind.i64.wrap ((i : Int) + 1) = (i : Int) + 1 := IntWalk.i64_in _ (by omega)
        have HP1 := Lib.hid (cnF_succ (f := false) hil)
        have HF1 := Lib.hid (cnF_succ (f := true) hil)
        rw [HPV.out, HFV.out]
        clear HPV HFV
        generalize cnF L false i = kp at *
        generalize cnF L true i = kf at *
        have vp : IntKind.i64.wrap ((kp : Int) + 1) = (kp : Int) + 1 := IntWalk.i64_in _ (by omega)
        have vf : IntKind.i64.wrap ((kf : Int) + 1) = (kf : Int) + 1 := IntWalk.i64_in _ (by omega)
        obtain ⟨b, o, rfl, hb, hc⟩ := HMV.out.2 (by omega)
        obtain ⟨c0, c1, c2, c3⟩ := hc i hil
        have lb : LtW b w2 := hb
        obtain ⟨m, hm⟩ : ∃ m, L.getD i idm = m := ⟨_, rfl⟩
        rw [hm] at c0 c1 c2 c3 HP1 HF1
        clear hb hc hm
        obtain ⟨t', f', x', y'⟩ := m
        simp only at c0 c1 c2 c3 HP1 HF1
        cases f'
        · have HPN : Hid (Value.int .i64 ((kp : Int) + 1) = .int .i64 ((cnF L false (i + 1) : Nat) : Int)) := Lib.hid (by rw [HP1.out, if_pos rfl]; push_cast; rfl)
          have HFN : Hid (Value.int .i64 (kf : Int) = .int .i64 ((cnF L true (i + 1) : Nat) : Int)) := Lib.hid (by rw [HF1.out, if_neg (by simp), Nat.add_zero])
          clear HP1 HF1
          go_wp2
          go_roundw
          case rel => exact ⟨i + 1, _, _, by omega, HPN, HFN, by go_num, by simp only [alloc_extW, extW_extW]; rfl⟩
          case measure => simp [intOf]; omega
        · have HPN : Hid (Value.int .i64 (kp : Int) = .int .i64 ((cnF L false (i + 1) : Nat) : Int)) := Lib.hid (by rw [HP1.out, if_neg (by simp), Nat.add_zero])
          have HFN : Hid (Value.int .i64 ((kf : Int) + 1) = .int .i64 ((cnF L true (i + 1) : Nat) : Int)) := Lib.hid (by rw [HF1.out, if_pos rfl]; push_cast; rfl)
          clear HP1 HF1
          go_wp2
          go_roundw
          case rel => exact ⟨i + 1, _, _, by omega, HPN, HFN, by go_num, by simp only [alloc_extW, extW_extW]; rfl⟩
          case measure => simp [intOf]; omega
      · obtain rfl : i = L.length := by omega
        have di : decide ((L.length : Int) < (L.length : Int)) = false := by simp
        have e1 : ((np : Int) == (np : Int)) = true := by simp
        have e2 : ((nf : Int) == (nf : Int)) = true := by simp
        rw [HPV.out, HFV.out, HP0.out, HQ0.out]
        clear HPV HFV HP0 HQ0 hpi hfi
        go_wp2
        go_ret
        exact ⟨rfl, (by repeat (first | exact Below.refl _ _ | refine Below.drew ?_ | refine below_drewN ?_ _ | refine Below.alloc ?_ (by first | exact Nat.le_refl _ | (simp; done) | (simp; omega) | omega) _ | refine Below.setCell ?_ (by first | exact Nat.le_refl _ | (simp; done) | (simp; omega) | omega) _ | refine bExtW ?_ (by first | exact Nat.le_refl _ | (simp; done) | (simp; omega) | omega) | refine Below.trans ?_ (Below.mono (by assumption) (by first | exact Nat.le_refl _ | (simp; done) | (simp; omega) | omega))))⟩
theorem counts_walk (G W H : Int) (a : Option Addr) (n c : Nat) (cs : List Int) (w : World) (hI : IsInts w a n cs) (h0 : (-9223372036854775808 ≤ G ∧ G ≤ 9223372036854775807)) (h1 : (-9223372036854775808 ≤ W ∧ W ≤ 9223372036854775807)) (h2 : (-9223372036854775808 ≤ H ∧ H ≤ 9223372036854775807)) (h3 : n ≤ 9223372036854775807) :
    Calls Try.prog 3 #[.agg #[.int .i64 (G), .int .i64 (W), .int .i64 (H), .slice a n c]] w fun r w' => r = .returned (.bool true) ∧ Below w.heap.size w w' := by
  rcases chart_cases G W H a n c cs h0 h1 h2 h3 with ⟨e, hT⟩ | ⟨G', W', H', N, rfl, rfl, rfl, h, hN, hp, h24⟩
  · exact counts_bad G W H a n c cs w hI e hT
  · have hd := Z.torN_dvd W' H'
    rw [hN] at hd
    obtain ⟨sa, uc, ub, hS, hU⟩ := Z.fine_ex (cs := cs) (g := (G' : Int)) hp hd.1 hd.2
    exact counts_fine G' W' H' n N sa uc ub a c cs w hI h hN h24 hp hS hU
end Go.Proofs.Ytooilennejakhaa

namespace Go.Proofs.Ytooilennejakhaa
open Go.ChangeShapes Go.WideShapes Go.ChangeAt Go.RowKit Go.Joins
open Go.ChangeMaps (open_string shut_string)
set_option linter.unusedVariables false
set_option linter.unusedSimpArgs false
set_option maxRecDepth 100000
theorem int_wf {x : Int} (h : (Lit.int .i64 x).wf = true) : (-9223372036854775808 ≤ x ∧ x ≤ 9223372036854775807) := by
  simpa [Lit.wf, IntKind.min, IntKind.max, IntKind.signed, IntKind.bits] using h
section
variable {H : Type} {enc : TypeId × Value → H} {W : World} {base b0 : Nat} {spare : Addr → Bool} {held : Bool} {v : Value} {d : DataW H} {p : List MemPlace}
theorem cellsPoint : Try.prog.cellsOf 33 = 2 := by kernel_rfl
theorem pt_arg (hv : Value.okWide Try.prog W .any b0 33 v) (h : DataW.Trod enc Try.prog W 0 (fun _ => true) true 33 v d p) : ∃ x y, v = .agg #[.int .i64 (x), .int .i64 (y)] ∧ (-9223372036854775808 ≤ x ∧ x ≤ 9223372036854775807) ∧ (-9223372036854775808 ≤ y ∧ y ≤ 9223372036854775807) := by
  obtain ⟨c0, c1, z0, z1, m, e, _, _, hy0, hy1⟩ := open_agg2 Try.underlying33 (by kernel_rfl) cellsPoint hv h
  obtain ⟨x, e0, _, wa⟩ := DataW.trod_int Try.underlying3 hy0
  obtain ⟨y, e1, _, wb⟩ := DataW.trod_int Try.underlying3 hy1
  simp at e0 e1
  subst e0 e1
  exact ⟨x, y, e, int_wf wa, int_wf wb⟩
theorem cellsMove : Try.prog.cellsOf 39 = 4 := by kernel_rfl
theorem cellsInt' : Try.prog.cellsOf 3 = 1 := by kernel_rfl
theorem cellsBool' : Try.prog.cellsOf 4 = 1 := by kernel_rfl
theorem mv_arg (hv : Value.okWide Try.prog W .any b0 39 v) (h : DataW.Trod enc Try.prog W 0 (fun _ => true) true 39 v d p) : ∃ t f x y, v = .agg #[.int .i64 t, .bool f, .int .i64 x, .int .i64 y] ∧ (-9223372036854775808 ≤ t ∧ t ≤ 9223372036854775807) ∧ (-9223372036854775808 ≤ x ∧ x ≤ 9223372036854775807) ∧ (-9223372036854775808 ≤ y ∧ y ≤ 9223372036854775807) := by
  obtain ⟨cs, rfl, hsz⟩ := okWide_struct Try.underlying39 hv
  obtain ⟨c0, c1, c2, c3, rfl⟩ : ∃ c0 c1 c2 c3, cs = #[c0, c1, c2, c3] := by
    rw [cellsMove] at hsz
    match cs, hsz with
    | ⟨[c0, c1, c2, c3]⟩, _ => exact ⟨c0, c1, c2, c3, rfl⟩
  obtain ⟨fuel, hf⟩ := h
  obtain ⟨z0, z1, z2, n, _, _, h0, h1, h2⟩ := Go.Deep.trod_struct3 Try.underlying39 hf
  simp only [cellsInt', cellsBool', cellsPoint, Value.cells] at h0 h1 h2
  obtain ⟨t, e0, _, wa⟩ := DataW.trod_int Try.underlying3 h0
  obtain ⟨f, e1, _⟩ := DataW.trod_bool Try.underlying4 h1
  obtain ⟨s0, s1, m, _, _, g0, g1⟩ := trod_struct2 Try.underlying33 h2
  simp only [cellsInt'] at g0 g1
  obtain ⟨x, e2, _, wb⟩ := DataW.trod_int Try.underlying3 g0
  obtain ⟨y, e3, _, wc⟩ := DataW.trod_int Try.underlying3 g1
  simp at e0 e1 e2 e3
  subst e0 e1 e2 e3
  exact ⟨t, f, x, y, rfl, int_wf wa, int_wf wb, int_wf wc⟩
set_option maxRecDepth 100000 in
theorem ints_arg (hv : Value.okWide Try.prog W .any b0 22 v) (h : DataW.Trod enc Try.prog W 0 (fun _ => true) true 22 v d p) :
    ∃ a n c z, v = .slice a n c ∧ IsInts W a n z ∧ n ≤ 9223372036854775807 ∧ ∀ x ∈ z, (-9223372036854775808 ≤ x ∧ x ≤ 9223372036854775807) := by
  obtain ⟨a0, len0, cap0, rfl⟩ := okWide_slice Try.underlying22 hv
  obtain ⟨fuel, hf⟩ := h
  rcases open_ints Try.underlying22 Try.underlying3 (by kernel_rfl) hf with ⟨hcs, _⟩ | ⟨x, l, c, zs, hcs, _, hl, hm, hz, _, hcell, hwz⟩
  · simp [Value.cells] at hcs
    obtain ⟨rfl, rfl, rfl⟩ := hcs
    exact ⟨none, 0, 0, [], rfl, ⟨rfl, fun h => by omega⟩, by omega, by simp⟩
  · simp [Value.cells] at hcs
    obtain ⟨rfl, rfl, rfl⟩ := hcs
    simp only [if_true] at hz
    unfold maxLen at hm
    refine ⟨some x, len0, cap0, zs.take len0, rfl, ⟨by rw [List.length_take]; omega, fun hn => ?_⟩, by omega, fun y hy => int_wf (hwz y (List.mem_of_mem_take hy))⟩
    obtain ⟨b, off, spot⟩ := x
    have h0 := hcell 0 (by omega)
    have hspot : spot = none := by simpa [Addr.add] using World.cell?_spot h0
    subst hspot
    refine ⟨b, off, rfl, World.block_lt_of_cell? W _ h0, fun j hj => ?_⟩
    have := hcell j (by omega)
    rw [Addr.add_lit] at this
    rw [this, List.getD_eq_getElem?_getD, List.getD_eq_getElem?_getD, List.getElem?_take, if_pos hj]
end
end Go.Proofs.Ytooilennejakhaa

namespace Go.Proofs.Ytooilennejakhaa
open Go.ChangeShapes Go.WideShapes Go.ChangeAt Go.RowKit Go.Joins
set_option linter.unusedVariables false
set_option linter.unusedSimpArgs false
section
variable {H : Type} {enc : TypeId × Value → H} {W : World} {base b0 : Nat} {spare : Addr → Bool} {held : Bool} {v : Value} {d : DataW H} {p : List MemPlace}
set_option maxRecDepth 100000 in
theorem bools_cells {fuel : Nat} {cs : List Value} {x : DataW H × List MemPlace} (h : DataW.trod enc Try.prog W 0 (fun _ => true) true fuel 89 cs = some x) :
    ∃ a n c bs, cs = [.slice a n c] ∧ n ≤ 9223372036854775807 ∧ IsBools W a n bs := by
  rcases Go.Deep.open_bools Try.underlying89 Try.underlying4 (by kernel_rfl) h with ⟨hcs, _⟩ | ⟨x, l, c, B, hcs, _, hl, hm, _, hcell⟩
  · exact ⟨none, 0, 0, [], hcs, by omega, rfl, fun h => by omega⟩
  · unfold maxLen at hm
    refine ⟨some x, l, c, (List.range l).map B, hcs, by omega, by simp, fun hn => ?_⟩
    obtain ⟨b, off, spot⟩ := x
    have h0 := hcell 0 (by omega)
    have hspot : spot = none := by simpa [Addr.add] using World.cell?_spot h0
    subst hspot
    refine ⟨b, off, rfl, World.block_lt_of_cell? W _ h0, fun j hj => ?_⟩
    have := hcell j (by omega)
    rw [Addr.add_lit] at this
    rw [this]
    simp [List.getD, hj]
end
end Go.Proofs.Ytooilennejakhaa

namespace Go.Proofs.Ytooilennejakhaa
open Go.ChangeShapes Go.WideShapes Go.ChangeAt Go.RowKit Go.Joins
set_option linter.unusedVariables false
set_option linter.unusedSimpArgs false
section
variable {H : Type} {enc : TypeId × Value → H} {W : World} {base b0 : Nat} {spare : Addr → Bool} {held : Bool} {v : Value} {d : DataW H} {p : List MemPlace}
set_option maxRecDepth 100000 in
theorem bools_cellsO {fuel : Nat} {cs : List Value} {x : DataW H × List MemPlace} (h : DataW.trod enc Try.prog W 0 (fun _ => true) true fuel 89 cs = some x) :
    ∃ a n c bs, cs = [.slice a n c] ∧ OkT W a n c bs := by
  rcases Go.Deep.open_bools Try.underlying89 Try.underlying4 (by kernel_rfl) h with ⟨hcs, _⟩ | ⟨x, l, c, B, hcs, _, hl, hm, _, hcell⟩
  · exact ⟨none, 0, 0, [], hcs, ⟨⟨rfl, fun h => by omega⟩, by omega, by omega⟩⟩
  · unfold maxLen at hm
    refine ⟨some x, l, c, (List.range l).map B, hcs, ⟨⟨by simp, fun hn => ?_⟩, hl, hm⟩⟩
    obtain ⟨b, off, spot⟩ := x
    have h0 := hcell 0 (by omega)
    have hspot : spot = none := by simpa [Addr.add] using World.cell?_spot h0
    subst hspot
    refine ⟨b, off, rfl, World.block_lt_of_cell? W _ h0, fun j hj => ?_⟩
    have := hcell j (by omega)
    rw [Addr.add_lit] at this
    rw [this]
    simp [List.getD, hj]
end
end Go.Proofs.Ytooilennejakhaa

namespace Go.Proofs.Ytooilennejakhaa
open Go.ChangeShapes Go.WideShapes Go.ChangeAt Go.RowKit Go.Joins
set_option linter.unusedVariables false
set_option linter.unusedSimpArgs false
set_option maxRecDepth 100000
section
variable {H : Type} {enc : TypeId × Value → H} {W : World} {base b0 : Nat} {spare : Addr → Bool} {held : Bool} {v : Value} {d : DataW H} {p : List MemPlace}
theorem intsZ_cells {fuel : Nat} {cs : List Value} {x : DataW H × List MemPlace} (h : DataW.trod enc Try.prog W 0 (fun _ => true) true fuel 22 cs = some x) :
    ∃ a n c z, cs = [.slice a n c] ∧ IsInts W a n z ∧ n ≤ 9223372036854775807 ∧ (a = none → c = 0) := by
  rcases open_ints Try.underlying22 Try.underlying3 (by kernel_rfl) h with ⟨hcs, _⟩ | ⟨x, l, c, zs, hcs, _, hl, hm, hz, _, hcell, hwz⟩
  · exact ⟨none, 0, 0, [], hcs, ⟨rfl, fun h => by omega⟩, by omega, fun _ => rfl⟩
  · simp only [if_true] at hz
    unfold maxLen at hm
    refine ⟨some x, l, c, zs.take l, hcs, ⟨by rw [List.length_take]; omega, fun hn => ?_⟩, by omega, fun e => by cases e⟩
    obtain ⟨b, off, spot⟩ := x
    have h0 := hcell 0 (by omega)
    have hspot : spot = none := by simpa [Addr.add] using World.cell?_spot h0
    subst hspot
    refine ⟨b, off, rfl, World.block_lt_of_cell? W _ h0, fun j hj => ?_⟩
    have := hcell j (by omega)
    rw [Addr.add_lit] at this
    rw [this, List.getD_eq_getElem?_getD, List.getD_eq_getElem?_getD, List.getElem?_take, if_pos hj]
theorem cellsIntsE : Try.prog.cellsOf 22 = 1 := by kernel_rfl
theorem cellsIntE : Try.prog.cellsOf 3 = 1 := by kernel_rfl
theorem cellsChart : Try.prog.cellsOf 24 = 4 := by kernel_rfl
theorem chart_argE (hv : Value.okWide Try.prog W .any b0 24 v) (h : DataW.Trod enc Try.prog W 0 (fun _ => true) true 24 v d p) :
    ∃ g w h a n c cs, v = .agg #[.int .i64 g, .int .i64 w, .int .i64 h, .slice a n c] ∧ (-9223372036854775808 ≤ g ∧ g ≤ 9223372036854775807) ∧ (-9223372036854775808 ≤ w ∧ w ≤ 9223372036854775807) ∧ (-9223372036854775808 ≤ h ∧ h ≤ 9223372036854775807) ∧ n ≤ 9223372036854775807 ∧ IsInts W a n cs := by
  obtain ⟨cs, rfl, hsz⟩ := okWide_struct Try.underlying24 hv
  obtain ⟨c0, c1, c2, c3, rfl⟩ : ∃ c0 c1 c2 c3, cs = #[c0, c1, c2, c3] := by
    rw [cellsChart] at hsz
    match cs, hsz with
    | ⟨[c0, c1, c2, c3]⟩, _ => exact ⟨c0, c1, c2, c3, rfl⟩
  obtain ⟨fuel, hf⟩ := h
  obtain ⟨z0, z1, z2, z3, n, _, _, h0, h1, h2, h3⟩ := trod_struct4 Try.underlying24 hf
  simp only [cellsIntE, cellsIntsE, Value.cells] at h0 h1 h2 h3
  obtain ⟨x, e0, _, wa⟩ := DataW.trod_int Try.underlying3 h0
  obtain ⟨y, e1, _, wb⟩ := DataW.trod_int Try.underlying3 h1
  obtain ⟨z, e2, _, wc⟩ := DataW.trod_int Try.underlying3 h2
  obtain ⟨a, l, c, cs, e3, g2, g3, _⟩ := intsZ_cells h3
  simp at e0 e1 e2 e3
  subst e0 e1 e2 e3
  exact ⟨x, y, z, a, l, c, cs, rfl, int_wf wa, int_wf wb, int_wf wc, g3, g2⟩
end
end Go.Proofs.Ytooilennejakhaa
