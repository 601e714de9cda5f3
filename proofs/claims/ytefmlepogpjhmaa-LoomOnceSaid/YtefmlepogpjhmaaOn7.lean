/- Chapter 10: are these the first rows?; the closed fact. -/
import Derived.Test.YtefmlepogpjhmaaOn6
import Derived.Test.YtefmlepogpjhmaaLm17
namespace Go.Proofs.Ytefmlepogpjhmaa
open Go.RowKit
set_option linter.unusedVariables false
set_option linter.unusedSimpArgs false
open Lm
theorem OutR.row {base : Nat} {A : Option Addr} {c : Nat} {L : List (List Bool)} {w : World} (h : OutR base (.slice A L.length c) L w) : ∀ j, j < L.length → ∃ g r rc, A = some ⟨g, 0, none⟩ ∧ LtW g w ∧ IsBools w r (L.getD j []).length (L.getD j []) ∧ w.cell? ⟨g, j, none⟩ = some (.slice r (L.getD j []).length rc) := by
  intro j hj
  obtain ⟨vs, ho, hr⟩ := h
  obtain ⟨r, rc, er, hb⟩ := (hr j hj).bools
  rcases ho.2 with ⟨_, e⟩ | ⟨g, cap, cur, e1, e2, e3, e4⟩
  · omega
  · injection e1 with e1
    subst e1
    have hl : vs.length = L.length := by have := ho.1; omega
    refine ⟨g, r, rc, rfl, (Array.getElem?_eq_some_iff.1 e3).1, hb, ?_⟩
    rw [ho.cellAt j (by omega), ← er, List.getD_eq_getElem?_getD, List.getElem?_eq_getElem (by omega)]
    rfl
theorem firstR_get (W : Nat) (bs : List Bool) (k j : Nat) (h : j < k) : (firstR W bs k).getD j [] = rowN W bs j := by
  unfold firstR
  rw [List.getD_eq_getElem?_getD, List.getElem?_map, List.getElem?_range h]
  rfl
set_option maxRecDepth 100000 in
set_option maxHeartbeats 8000000 in
theorem first_ok (W H : Nat) (A : Option Addr) (n c : Nat) (bs : List Bool) (k : Nat) (LA : Option Addr) (lc base : Nat) (w : World) (hT : OkT w A n c bs) (hn : n = W * H) (hW : W ≤ 64) (hH : H ≤ 64) (hk : k ≤ H) (hr : OutR base (.slice LA (firstR W bs k).length lc) (firstR W bs k) w) :
    Calls Try.prog 11 #[.agg #[.int .i64 (W), .int .i64 (H), .slice A n c], .slice LA k lc] w fun e w' => e = .returned (.bool true) ∧ Below w.heap.size w w' := by
  have hn4 : n ≤ 4096 := by rw [hn]; exact Nat.mul_le_mul hW hH
  have HT := Lib.hid hT; have HR := Lib.hid hr; have HN := Lib.hid hn
  have d0 : decide ((H : Int) < (k : Int)) = false := by simp; omega
  have d0' : decide (H < k) = false := by simp; omega
  clear hT hr hn
  go_enter Try.func11, Try.ntmps11
  have hm := tF_alloc w W H (.slice A n c) rfl
  have HM := Lib.hid hm
  have hb0 : Below w.heap.size w (w.alloc (.cells #[.int .i64 (W), .int .i64 (H), .slice A n c] 24)) := (by repeat (first | exact Below.refl _ _ | refine Below.drew ?_ | refine below_drewN ?_ _ | refine Below.alloc ?_ (by first | exact Nat.le_refl _ | (simp; done) | (simp; omega) | omega) _ | refine Below.setCell ?_ (by first | exact Nat.le_refl _ | (simp; done) | (simp; omega) | omega) _ | refine bExtW ?_ (by first | exact Nat.le_refl _ | (simp; done) | (simp; omega) | omega) | refine Below.trans ?_ (Below.mono (by assumption) (by first | exact Nat.le_refl _ | (simp; done) | (simp; omega) | omega))))
  have HB0 := Lib.hid hb0
  clear hm hb0
  go_wp2_with fail
  generalize w.alloc (.cells #[.int .i64 (W), .int .i64 (H), .slice A n c] 24) = w1 at *
  generalize hmb : w.heap.size = mb at *
  have HMB := Lib.hid hmb
  clear hmb
  go_loopw [14] (fun iv wr => ∃ i : Nat, i ≤ k ∧ iv = .int .i64 i ∧ Hid (Below w1.heap.size w1 wr)) (fun iv _ => k - (intOf iv).toNat)
  case atStart => exact ⟨0, by omega, rfl, Lib.hid (Below.refl _ _)⟩
  case round =>
    obtain ⟨y, hy, rfl, HB⟩ := hrel
    have hbw : Below w.heap.size w wr := by
      have h1 := HB0.out
      rw [HMB.out]
      exact h1.trans (HB.out.mono (by have := h1.size; have := HMB.out; omega))
    have HBW := Lib.hid hbw
    clear hbw
    by_cases hyk : y < k
    · have hm := rowBelow HM.out HB.out HM.out.lt
      have q0 : wr.cell? ⟨mb, 0, none⟩ = some (.int .i64 (W)) := hm.cell (i := 0) (by omega)
      have q1 : wr.cell? ⟨mb, 1, none⟩ = some (.int .i64 (H)) := hm.cell (i := 1) (by omega)
      have q2 : wr.cell? ⟨mb, 2, none⟩ = some (.slice A n c) := hm.cell (i := 2) (by omega)
      have lmb : LtW mb wr := hm.lt
      obtain ⟨g, r, rc, rfl, lg, hrb, cg⟩ := ((TyK.below (T := fun _ => false) HBW.out).outR HR.out rfl rfl).row y (by rw [firstR_len]; exact hyk)
      rw [firstR_get W bs k y hyk] at hrb cg
      have hT2 := HT.out.below HBW.out
      obtain ⟨M, hM⟩ : ∃ M, y * W = M := ⟨_, rfl⟩
      have hle : M + W ≤ n := by
        rw [HN.out, ← hM, Nat.mul_comm W H, ← Nat.succ_mul]
        exact Nat.mul_le_mul_right W (by omega)
      have hmi : (y : Int) * (W : Int) = (M : Int) := by rw [← Int.natCast_mul, hM]
      have hmj : ((y : Int) + 1) * (W : Int) = (M : Int) + (W : Int) := by rw [Int.add_mul, hmi, Int.one_mul]
      have v1 : IntKind.i64.wrap (M : Int) = (M : Int) := IntWalk.i64_in _ (by omega)
      have v2 : IntKind.i64.wrap ((M : Int) + (W : Int)) = (M : Int) + (W : Int) := IntWalk.i64_in _ (by omega)
      have v3 : IntKind.i64.wrap ((y : Int) + 1) = (y : Int) + 1 := IntWalk.i64_in _ (by omega)
      have hsl := slice_rowsL (a := A) hT2.cap hM hle
      have hrow := rowV_boolsL (k := y) hT2.bits hT2.cap (by rw [hM]; exact hle)
      have hlen : (rowN W bs y).length = W := hrow.1
      rw [hlen] at cg hrb
      have hrow2 : IsBools wr (if c = y * W then A else A.map (·.add (y * W))) W (rowN W bs y) := hrow
      unfold rowV at hsl
      obtain ⟨RB_, hRB⟩ : ∃ RB_, (if c = y * W then A else A.map (·.add (y * W))) = RB_ := ⟨_, rfl⟩
      obtain ⟨rc2, hrc⟩ : ∃ rc, c - y * W = rc := ⟨_, rfl⟩
      rw [hRB] at hsl hrow2
      rw [hrc] at hsl
      have H1 := Lib.hid hrb; have H2 := Lib.hid hrow2
      have dk : decide ((y : Int) < (k : Int)) = true := by simp; omega
      have dk' : decide (y < k) = true := by simpa using hyk
      clear hm hrb hrow hrow2 hRB hrc hlen hle hM hT2
      go_wp2_with fail
      refine (SameBits_ok r W rc RB_ rc2 (rowN W bs y) _ (H1.out.below (by repeat (first | exact Below.refl _ _ | refine Below.drew ?_ | refine below_drewN ?_ _ | refine Below.alloc ?_ (by first | exact Nat.le_refl _ | (simp; done) | (simp; omega) | omega) _ | refine Below.setCell ?_ (by first | exact Nat.le_refl _ | (simp; done) | (simp; omega) | omega) _ | refine bExtW ?_ (by first | exact Nat.le_refl _ | (simp; done) | (simp; omega) | omega) | refine Below.trans ?_ (Below.mono (by assumption) (by first | exact Nat.le_refl _ | (simp; done) | (simp; omega) | omega))))) (H2.out.below (by repeat (first | exact Below.refl _ _ | refine Below.drew ?_ | refine below_drewN ?_ _ | refine Below.alloc ?_ (by first | exact Nat.le_refl _ | (simp; done) | (simp; omega) | omega) _ | refine Below.setCell ?_ (by first | exact Nat.le_refl _ | (simp; done) | (simp; omega) | omega) _ | refine bExtW ?_ (by first | exact Nat.le_refl _ | (simp; done) | (simp; omega) | omega) | refine Below.trans ?_ (Below.mono (by assumption) (by first | exact Nat.le_refl _ | (simp; done) | (simp; omega) | omega))))) (by omega)).mono ?_
      rintro rr w5 ⟨rfl, hb5⟩
      have HB5 : Hid (Below w1.heap.size w1 w5) := Lib.hid (HB.out.trans (hb5.mono HB.out.size))
      clear hb5 HB
      go_wp2
      go_roundw
      case rel => exact ⟨y + 1, by omega, by go_num, HB5⟩
      case measure => simp [intOf]; omega
    · obtain rfl : y = k := by omega
      have dk : decide ((y : Int) < (y : Int)) = false := by simp
      go_wp2
      go_ret
      exact ⟨rfl, HBW.out⟩
theorem live1 : (liveW 1 1 [true] [0, 0, 0, 0] 4).l.at_ = 6 ∧ (liveW 1 1 [true] [0, 0, 0, 0] 4).rows.length = 1 := by
  have e0 : liveW 1 1 [true] [0, 0, 0, 0] 0 = ⟨⟨0, 0, false, false⟩, ⟨[0, 0], -1⟩, 0, false, false, false, [], []⟩ := by
    simp [liveW, Lm.start, begin_, wv0]
  have s1 : liveW 1 1 [true] [0, 0, 0, 0] 1 = ⟨⟨0, 1, false, false⟩, ⟨[0, 0], -1⟩, 1, false, false, false, [], []⟩ := by
    show turnW 1 1 [true] 0 (liveW 1 1 [true] [0, 0, 0, 0] 0) = _
    rw [e0]
    simp [turnW, nextW, tellW, tell, may]
  have s2 : liveW 1 1 [true] [0, 0, 0, 0] 2 = ⟨⟨0, 2, false, false⟩, ⟨[0, 0], -1⟩, 2, true, false, false, [true], []⟩ := by
    show turnW 1 1 [true] 0 (liveW 1 1 [true] [0, 0, 0, 0] 1) = _
    rw [s1]
    simp [turnW, nextW, tellW, tell, may, rowOf]
  have s3 : liveW 1 1 [true] [0, 0, 0, 0] 3 = ⟨⟨0, 4, false, false⟩, ⟨[0, 1], -1⟩, 3, true, true, false, [true], []⟩ := by
    show turnW 1 1 [true] 0 (liveW 1 1 [true] [0, 0, 0, 0] 2) = _
    rw [s2]
    simp [turnW, nextW, tellW, tell, may, put]
  have s4 : liveW 1 1 [true] [0, 0, 0, 0] 4 = ⟨⟨1, 6, false, false⟩, ⟨[1, 1], -1⟩, 4, true, true, false, [true], [[true]]⟩ := by
    show turnW 1 1 [true] 0 (liveW 1 1 [true] [0, 0, 0, 0] 3) = _
    rw [s3]
    simp [turnW, nextW, tellW, tell, may, put, Lm.next]
  rw [s4]
  exact ⟨rfl, rfl⟩
set_option maxRecDepth 100000 in
set_option maxHeartbeats 8000000 in
theorem alive10_ok (w : World) : Calls Try.prog 8 #[] w fun e w' => e = .returned (.bool true) ∧ Below w.heap.size w w' := by
  obtain ⟨h6, h1⟩ := live1
  have HLV := Lib.hid (fun A c TA tc w' (hI : IsBools w' A 1 [true]) (hT : IsInts w' TA 4 [0, 0, 0, 0]) => (Live_ok 1 1 A 1 c [true] TA 4 tc [0, 0, 0, 0] w' hI (by decide) (by omega) hT (by omega) : Calls Try.prog 10 #[.agg #[.int .i64 (1), .int .i64 (1), .slice A 1 c], .slice TA 4 tc] w' (LivePost (liveW 1 1 [true] [0, 0, 0, 0] 4) w')))
  generalize liveW 1 1 [true] [0, 0, 0, 0] 4 = x at *
  have H6 := Lib.hid h6; have H1 := Lib.hid h1
  clear h6 h1
  go_enter Try.func8, Try.ntmps8
  go_wp2_with fail
  have hI : IsBools ((w.alloc (.cells #[.bool true] 4)).alloc (.cells #[.int .i64 (0), .int .i64 (0), .int .i64 (0), .int .i64 (0)] 3)) (some ⟨w.heap.size, 0, none⟩) 1 [true] := ⟨rfl, fun _ => ⟨w.heap.size, 0, rfl, by simp; omega, fun j hj => by
    obtain rfl : j = 0 := by omega
    simp⟩⟩
  have hT : IsInts ((w.alloc (.cells #[.bool true] 4)).alloc (.cells #[.int .i64 (0), .int .i64 (0), .int .i64 (0), .int .i64 (0)] 3)) (some ⟨w.heap.size + 1, 0, none⟩) 4 [0, 0, 0, 0] := ⟨rfl, fun _ => ⟨w.heap.size + 1, 0, rfl, by simp, fun j hj => by
    have hc : j = 0 ∨ j = 1 ∨ j = 2 ∨ j = 3 := by omega
    have e : (w.alloc (.cells #[.bool true] 4)).heap.size = w.heap.size + 1 := World.size_alloc _ _
    rw [← e, World.cell?_alloc_new]
    rcases hc with rfl | rfl | rfl | rfl <;> rfl⟩⟩
  refine (HLV.out _ _ _ _ _ hI hT).mono ?_
  clear hI hT
  rintro r w2 ⟨v, rfl, ho2, hb2⟩
  obtain ⟨VA, VC, rfl⟩ := ho2.form
  have hbw : Below w.heap.size w w2 := Below.trans (by repeat (first | exact Below.refl _ _ | refine Below.drew ?_ | refine below_drewN ?_ _ | refine Below.alloc ?_ (by first | exact Nat.le_refl _ | (simp; done) | (simp; omega) | omega) _ | refine Below.setCell ?_ (by first | exact Nat.le_refl _ | (simp; done) | (simp; omega) | omega) _ | refine bExtW ?_ (by first | exact Nat.le_refl _ | (simp; done) | (simp; omega) | omega) | refine Below.trans ?_ (Below.mono (by assumption) (by first | exact Nat.le_refl _ | (simp; done) | (simp; omega) | omega)))) (hb2.mono (by simp; omega))
  have HB := Lib.hid hbw
  rw [H1.out, H6.out]
  clear hb2 hbw ho2 HLV
  go_wp2
  go_ret
  exact ⟨rfl, HB.out.alloc HB.out.size _⟩
end Go.Proofs.Ytefmlepogpjhmaa
