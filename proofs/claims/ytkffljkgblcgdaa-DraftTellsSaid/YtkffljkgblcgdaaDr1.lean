/- Lemmas and contracts of functions (what each call returns, and that it changes nothing that was there) that the proof of a law of this seat uses; each lemma states its own conditions. -/
import Derived.Test.YtkffljkgblcgdaaTr
import Derived.Test.YtkffljkgblcgdaaNat
namespace Go.Proofs.Ytkffljkgblcgdaa
open Go.RowKit
set_option linter.unusedVariables false
set_option linter.unusedSimpArgs false
/-- All lie from 0 on below B. -/
def rgB (B : Int) (L : List Int) : Bool := L.all fun z => decide (0 ≤ z ∧ z < B)
theorem rgB_false {B : Int} {L : List Int} {k : Nat} (hk : k < L.length) (h : L.getD k 0 < 0 ∨ B ≤ L.getD k 0) : rgB B L = false := by
  unfold rgB
  rw [List.all_eq_false]
  refine ⟨L.getD k 0, by simp [List.getD, hk], ?_⟩
  rw [decide_eq_true_eq]; omega
theorem rgB_true {B : Int} {L : List Int} (h : ∀ j, j < L.length → 0 ≤ L.getD j 0 ∧ L.getD j 0 < B) : rgB B L = true := by
  unfold rgB
  rw [List.all_eq_true]
  intro z hz
  obtain ⟨j, hj, rfl⟩ := List.getElem_of_mem hz
  have := h j hj
  rw [List.getD_eq_getElem?_getD, List.getElem?_eq_getElem hj] at this
  simpa using this
theorem rgB_at {B : Int} {L : List Int} (h : rgB B L = true) {j : Nat} (hj : j < L.length) : 0 ≤ L.getD j 0 ∧ L.getD j 0 < B := by
  unfold rgB at h
  rw [List.all_eq_true] at h
  have := h _ (List.getElem_mem hj)
  rw [List.getD_eq_getElem?_getD, List.getElem?_eq_getElem hj]
  simpa using this
/-- What is wrong with a draft. -/
def drE (th tr : List Int) (W H : Int) (n : Nat) : Int :=
  if wrT W H n ≠ 0 then wrT W H n else if th.length = 0 ∨ 64 < th.length ∨ tr.length = 0 ∨ 64 < tr.length then 5 else if rgB W th && rgB H tr then 0 else 8
def dF (v0 : Value) (W H : Int) (v3 v4 : Value) : Nat → Value := fun j => if j = 0 then v0 else if j = 1 then .int .i64 W else if j = 2 then .int .i64 H else if j = 3 then v3 else v4
theorem dF_alloc (w : World) (v0 : Value) (W H : Int) (v3 v4 : Value) : (w.alloc (.cells #[v0, .int .i64 W, .int .i64 H, v3, v4] 27)).rowIs w.heap.size 27 5 (dF v0 W H v3 v4) :=
  World.rowIs_alloc w #[v0, .int .i64 W, .int .i64 H, v3, v4] 27 (dF v0 W H v3 v4) (by
    intro i hi
    have hi5 : i = 0 ∨ i = 1 ∨ i = 2 ∨ i = 3 ∨ i = 4 := by simp at hi; omega
    rcases hi5 with rfl | rfl | rfl | rfl | rfl <;> rfl)
set_option maxRecDepth 100000 in
set_option maxHeartbeats 8000000 in
theorem dWrong_any (tha : Option Addr) (nt ct : Nat) (th : List Int) (W H : Int) (a : Option Addr) (n c : Nat) (tra : Option Addr) (nr cr : Nat) (tr : List Int) (w : World) (hth : IsInts w tha nt th) (htr : IsInts w tra nr tr) (h1 : (-9223372036854775808 ≤ W ∧ W ≤ 9223372036854775807)) (h2 : (-9223372036854775808 ≤ H ∧ H ≤ 9223372036854775807)) (h3 : n ≤ 9223372036854775807) (h4 : nt ≤ 9223372036854775807) (h5 : nr ≤ 9223372036854775807) :
    Calls Try.prog 20 #[.agg #[.slice tha nt ct, .int .i64 (W), .int .i64 (H), .slice a n c, .slice tra nr cr]] w fun e w' => e = .returned (.int .i64 (drE th tr W H n)) ∧ Below w.heap.size w w' := by
  have HIT := Lib.hid hth; have HIR := Lib.hid htr
  have HLT := Lib.hid hth.1; have HLR := Lib.hid htr.1
  by_cases hq : wrT W H n = 0
  · have HQ := Lib.hid hq
    by_cases hl : nt = 0 ∨ 64 < nt ∨ nr = 0 ∨ 64 < nr
    · have HE : Hid (drE th tr W H n = 5) := Lib.hid (by unfold drE; rw [if_neg (by simpa using hq), if_pos (by rw [hth.1, htr.1]; exact hl)])
      clear hq hth htr
      rcases (show (nt < nr ∧ 64 < nr) ∨ (nt < nr ∧ nr ≤ 64 ∧ nt = 0) ∨ (nr < nt ∧ 64 < nt) ∨ (nr < nt ∧ nt ≤ 64 ∧ nr = 0) ∨ (nr ≤ nt ∧ nt ≤ nr ∧ 64 < nt) ∨ (nr ≤ nt ∧ nt ≤ nr ∧ nt = 0) by omega) with ⟨o1, o2⟩ | ⟨o1, o2, o3⟩ | ⟨o1, o2⟩ | ⟨o1, o2, o3⟩ | ⟨o1, o2, o3⟩ | ⟨o1, o2, o3⟩
      all_goals
        clear hl
        try have q1 : ¬ nt < nr := by omega
        try have q1b : ¬ nr < nt := by omega
        try have q2 : decide ((64 : Int) < (nt : Int)) = false := by simp; omega
        try have q3 : decide ((64 : Int) < (nt : Int)) = true := by simp; omega
        try have q4 : decide ((64 : Int) < (nr : Int)) = false := by simp; omega
        try have q5 : decide ((64 : Int) < (nr : Int)) = true := by simp; omega
        try have q6 : ((nt : Int) == 0) = false := by simp; omega
        try have q7 : ((nt : Int) == 0) = true := by simp; omega
        try have q8 : ((nr : Int) == 0) = false := by simp; omega
        try have q9 : ((nr : Int) == 0) = true := by simp; omega
        try clear o3
        go_enter Try.func20, Try.ntmps20
        (go_wp2_with fail; refine (tWrong_any W H a n c _ h1 h2 h3).mono ?_; rintro r w1 ⟨rfl, hb⟩; obtain ⟨E, d, rfl⟩ := bExt hb; clear hb)
        rw [HQ.out]
        go_wp2
        go_ret
        exact ⟨by rw [HE.out]; rfl, (by repeat (first | exact Below.refl _ _ | refine Below.drew ?_ | refine below_drewN ?_ _ | refine Below.alloc ?_ (by first | exact Nat.le_refl _ | (simp; done) | (simp; omega) | omega) _ | refine Below.setCell ?_ (by first | exact Nat.le_refl _ | (simp; done) | (simp; omega) | omega) _ | refine bExtW ?_ (by first | exact Nat.le_refl _ | (simp; done) | (simp; omega) | omega) | refine Below.trans ?_ (Below.mono (by assumption) (by first | exact Nat.le_refl _ | (simp; done) | (simp; omega) | omega))))⟩
    · have HD : Hid (drE th tr W H n = if rgB W th && rgB H tr then 0 else 8) := Lib.hid (by unfold drE; rw [if_neg (by simpa using hq), if_neg (by rw [hth.1, htr.1]; exact hl)])
      have hl' : 0 < nt ∧ nt ≤ 64 ∧ 0 < nr ∧ nr ≤ 64 := by omega
      clear hq hth htr hl
      rcases (show nt < nr ∨ nr < nt ∨ (nt ≤ nr ∧ nr ≤ nt) by omega) with hle | hle | hle
      all_goals
        try have q1 : ¬ nt < nr := by omega
        try have q1b : ¬ nr < nt := by omega
        try have q2 : decide ((64 : Int) < (nt : Int)) = false := by simp; omega
        try have q3 : decide ((64 : Int) < (nt : Int)) = true := by simp; omega
        try have q4 : decide ((64 : Int) < (nr : Int)) = false := by simp; omega
        try have q5 : decide ((64 : Int) < (nr : Int)) = true := by simp; omega
        try have q6 : ((nt : Int) == 0) = false := by simp; omega
        try have q7 : ((nt : Int) == 0) = true := by simp; omega
        try have q8 : ((nr : Int) == 0) = false := by simp; omega
        try have q9 : ((nr : Int) == 0) = true := by simp; omega
        go_enter Try.func20, Try.ntmps20
        (go_wp2_with fail; refine (tWrong_any W H a n c _ h1 h2 h3).mono ?_; rintro r w1 ⟨rfl, hb⟩; obtain ⟨E, d, rfl⟩ := bExt hb; clear hb)
        rw [HQ.out]
        go_wp2_with fail
        clear q2 q4 q6 q8
        try clear q1
        try clear q1b
        have hqr := rowBelow (dF_alloc w (.slice tha nt ct) W H (.slice a n c) (.slice tra nr cr)) (bExtW (Below.refl _ _) (Nat.le_refl _) : Below (w.alloc (.cells #[.slice tha nt ct, .int .i64 (W), .int .i64 (H), .slice a n c, .slice tra nr cr] 27)).heap.size (w.alloc (.cells #[.slice tha nt ct, .int .i64 (W), .int .i64 (H), .slice a n c, .slice tra nr cr] 27)) (extW (w.alloc (.cells #[.slice tha nt ct, .int .i64 (W), .int .i64 (H), .slice a n c, .slice tra nr cr] 27)) E d)) (by simp)
        have hbw : Below w.heap.size w (extW (w.alloc (.cells #[.slice tha nt ct, .int .i64 (W), .int .i64 (H), .slice a n c, .slice tra nr cr] 27)) E d) := (by repeat (first | exact Below.refl _ _ | refine Below.drew ?_ | refine below_drewN ?_ _ | refine Below.alloc ?_ (by first | exact Nat.le_refl _ | (simp; done) | (simp; omega) | omega) _ | refine Below.setCell ?_ (by first | exact Nat.le_refl _ | (simp; done) | (simp; omega) | omega) _ | refine bExtW ?_ (by first | exact Nat.le_refl _ | (simp; done) | (simp; omega) | omega) | refine Below.trans ?_ (Below.mono (by assumption) (by first | exact Nat.le_refl _ | (simp; done) | (simp; omega) | omega))))
        generalize extW (w.alloc (.cells #[.slice tha nt ct, .int .i64 (W), .int .i64 (H), .slice a n c, .slice tra nr cr] 27)) E d = WR at *
        obtain ⟨q, hqe⟩ : ∃ q, w.heap.size = q := ⟨_, rfl⟩
        rw [hqe] at hqr ⊢
        have HQE := Lib.hid hqe
        have HBW := Lib.hid hbw
        have q1 : WR.cell? ⟨q, 1, none⟩ = some (.int .i64 (W)) := hqr.cell (i := 1) (by omega)
        have q2 : WR.cell? ⟨q, 2, none⟩ = some (.int .i64 (H)) := hqr.cell (i := 2) (by omega)
        have q4 : WR.cell? ⟨q, 4, none⟩ = some (.slice tra nr cr) := hqr.cell (i := 4) (by omega)
        have lq : LtW q WR := hqr.lt
        clear hqe hbw hqr
        go_loopw [37] (fun i wr => ∃ k : Nat, k ≤ nt ∧ i = .int .i64 k ∧ Hid (∀ j, j < k → 0 ≤ th.getD j 0 ∧ th.getD j 0 < W) ∧ wr = WR) (fun i _ => nt - (intOf i).toNat)
        case atStart => exact ⟨0, Nat.zero_le _, rfl, Lib.hid fun j h => absurd h (by omega), rfl⟩
        case round =>
          obtain ⟨k, hk, rfl, HJ, rfl⟩ := hrel
          by_cases hkn : k < nt
          · obtain ⟨b, o, rfl, hbl, hc⟩ := (HIT.out.below HBW.out).2 (by omega)
            have c0 := hc k hkn
            have lb : LtW b wr := hbl
            obtain ⟨z, hz⟩ : ∃ z, th.getD k 0 = z := ⟨_, rfl⟩
            have HZ := Lib.hid hz
            have HF : Hid (z < 0 ∨ W ≤ z → drE th tr W H n = 8) := Lib.hid fun h => by rw [HD.out, rgB_false (k := k) (by rw [HLT.out]; exact hkn) (by rw [hz]; exact h)]; rfl
            rw [hz] at c0
            clear hc hbl hz
            by_cases hz0 : z < 0
            · have HE := Lib.hid (HF.out (.inl hz0))
              have hd : decide (z < 0) = true := by simpa using hz0
              go_wp2
              go_ret
              exact ⟨by rw [HE.out]; rfl, HBW.out⟩
            · have hd : decide (z < 0) = false := by simpa using hz0
              by_cases hz1 : W ≤ z
              · have HE := Lib.hid (HF.out (.inr hz1))
                have hd1 : decide (W ≤ z) = true := by simpa using hz1
                go_wp2
                go_ret
                exact ⟨by rw [HE.out]; rfl, HBW.out⟩
              · have hd1 : decide (W ≤ z) = false := by simpa using hz1
                go_wp2
                go_roundw
                case rel => exact ⟨k + 1, by omega, by go_num, Lib.hid fun j hj => by
                  by_cases e : j = k
                  · rw [e, HZ.out]; omega
                  · exact HJ.out j (by omega), trivial⟩
                case measure => simp [intOf]; omega
          · obtain rfl : nt = k := by omega
            have HRT : Hid (rgB W th = true) := Lib.hid (rgB_true (by rw [HLT.out]; exact HJ.out))
            go_wp2_with fail
            go_loopw [54] (fun i wr' => ∃ k : Nat, k ≤ nr ∧ i = .int .i64 k ∧ Hid (∀ j, j < k → 0 ≤ tr.getD j 0 ∧ tr.getD j 0 < H) ∧ wr' = wr) (fun i _ => nr - (intOf i).toNat)
            case atStart => exact ⟨0, Nat.zero_le _, rfl, Lib.hid fun j h => absurd h (by omega), rfl⟩
            case round =>
              obtain ⟨k, hk, rfl, HJ2, rfl⟩ := hrel
              by_cases hkn : k < nr
              · obtain ⟨b, o, rfl, hbl, hc⟩ := (HIR.out.below HBW.out).2 (by omega)
                have c0 := hc k hkn
                have lb : LtW b wr := hbl
                obtain ⟨z, hz⟩ : ∃ z, tr.getD k 0 = z := ⟨_, rfl⟩
                have HZ := Lib.hid hz
                have HF : Hid (z < 0 ∨ H ≤ z → drE th tr W H n = 8) := Lib.hid fun h => by rw [HD.out, HRT.out, rgB_false (k := k) (by rw [HLR.out]; exact hkn) (by rw [hz]; exact h)]; rfl
                rw [hz] at c0
                clear hc hbl hz
                by_cases hz0 : z < 0
                · have HE := Lib.hid (HF.out (.inl hz0))
                  have hd : decide (z < 0) = true := by simpa using hz0
                  go_wp2
                  go_ret
                  exact ⟨by rw [HE.out]; rfl, HBW.out⟩
                · have hd : decide (z < 0) = false := by simpa using hz0
                  by_cases hz1 : H ≤ z
                  · have HE := Lib.hid (HF.out (.inr hz1))
                    have hd1 : decide (H ≤ z) = true := by simpa using hz1
                    go_wp2
                    go_ret
                    exact ⟨by rw [HE.out]; rfl, HBW.out⟩
                  · have hd1 : decide (H ≤ z) = false := by simpa using hz1
                    go_wp2
                    go_roundw
                    case rel => exact ⟨k + 1, by omega, by go_num, Lib.hid fun j hj => by
                      by_cases e : j = k
                      · rw [e, HZ.out]; omega
                      · exact HJ2.out j (by omega), trivial⟩
                    case measure => simp [intOf]; omega
              · obtain rfl : nr = k := by omega
                have HE : Hid (drE th tr W H n = 0) := Lib.hid (by rw [HD.out, HRT.out, rgB_true (L := tr) (by rw [HLR.out]; exact HJ2.out)]; rfl)
                go_wp2
                go_ret
                exact ⟨by rw [HE.out]; rfl, HBW.out⟩
  · have HE : Hid (drE th tr W H n = wrT W H n) := Lib.hid (by unfold drE; rw [if_pos hq])
    have hb : (wrT W H n != 0) = true := by simpa using hq
    clear hq hth htr
    go_enter Try.func20, Try.ntmps20
    (go_wp2_with fail; refine (tWrong_any W H a n c _ h1 h2 h3).mono ?_; rintro r w1 ⟨rfl, hb⟩; obtain ⟨E, d, rfl⟩ := bExt hb; clear hb)
    go_wp2
    go_ret
    exact ⟨by rw [HE.out]; rfl, (by repeat (first | exact Below.refl _ _ | refine Below.drew ?_ | refine below_drewN ?_ _ | refine Below.alloc ?_ (by first | exact Nat.le_refl _ | (simp; done) | (simp; omega) | omega) _ | refine Below.setCell ?_ (by first | exact Nat.le_refl _ | (simp; done) | (simp; omega) | omega) _ | refine bExtW ?_ (by first | exact Nat.le_refl _ | (simp; done) | (simp; omega) | omega) | refine Below.trans ?_ (Below.mono (by assumption) (by first | exact Nat.le_refl _ | (simp; done) | (simp; omega) | omega))))⟩
set_option maxRecDepth 100000 in
set_option maxHeartbeats 8000000 in
theorem r6Wrong_any (tha : Option Addr) (nt ct : Nat) (th : List Int) (W H : Int) (a : Option Addr) (n c : Nat) (tra : Option Addr) (nr cr : Nat) (tr : List Int) (w : World) (hth : IsInts w tha nt th) (htr : IsInts w tra nr tr) (h1 : (-9223372036854775808 ≤ W ∧ W ≤ 9223372036854775807)) (h2 : (-9223372036854775808 ≤ H ∧ H ≤ 9223372036854775807)) (h3 : n ≤ 9223372036854775807) (h4 : nt ≤ 9223372036854775807) (h5 : nr ≤ 9223372036854775807) :
    Calls Try.prog 21 #[.agg #[.slice tha nt ct, .int .i64 (W), .int .i64 (H), .slice a n c, .slice tra nr cr]] w fun e w' => e = .returned (.int .i64 (drE th tr W H n)) ∧ Below w.heap.size w w' := by
  have HIT := Lib.hid hth; have HIR := Lib.hid htr
  have HLT := Lib.hid hth.1; have HLR := Lib.hid htr.1
  by_cases hq : wrT W H n = 0
  · have HQ := Lib.hid hq
    by_cases hl : nt = 0 ∨ 64 < nt ∨ nr = 0 ∨ 64 < nr
    · have HE : Hid (drE th tr W H n = 5) := Lib.hid (by unfold drE; rw [if_neg (by simpa using hq), if_pos (by rw [hth.1, htr.1]; exact hl)])
      clear hq hth htr
      go_enter Try.func21, Try.ntmps21
      (go_wp2_with fail; refine (r5Wrong_any W H a n c _ h1 h2 h3).mono ?_; rintro r w1 ⟨rfl, hb⟩; obtain ⟨E, d, rfl⟩ := bExt hb; clear hb)
      rw [HQ.out]
      rcases (show nt = 0 ∨ 64 < nt ∨ (0 < nt ∧ nt ≤ 64 ∧ nr = 0) ∨ (0 < nt ∧ nt ≤ 64 ∧ 0 < nr ∧ 64 < nr) by omega) with h | h | h | h
      all_goals
        clear hl
        go_wp2
        go_ret
        exact ⟨by rw [HE.out]; rfl, (by repeat (first | exact Below.refl _ _ | refine Below.drew ?_ | refine below_drewN ?_ _ | refine Below.alloc ?_ (by first | exact Nat.le_refl _ | (simp; done) | (simp; omega) | omega) _ | refine Below.setCell ?_ (by first | exact Nat.le_refl _ | (simp; done) | (simp; omega) | omega) _ | refine bExtW ?_ (by first | exact Nat.le_refl _ | (simp; done) | (simp; omega) | omega) | refine Below.trans ?_ (Below.mono (by assumption) (by first | exact Nat.le_refl _ | (simp; done) | (simp; omega) | omega))))⟩
    · have HD : Hid (drE th tr W H n = if rgB W th && rgB H tr then 0 else 8) := Lib.hid (by unfold drE; rw [if_neg (by simpa using hq), if_neg (by rw [hth.1, htr.1]; exact hl)])
      have hl' : 0 < nt ∧ nt ≤ 64 ∧ 0 < nr ∧ nr ≤ 64 := by omega
      clear hq hth htr hl
      go_enter Try.func21, Try.ntmps21
      (go_wp2_with fail; refine (r5Wrong_any W H a n c _ h1 h2 h3).mono ?_; rintro r w1 ⟨rfl, hb⟩; obtain ⟨E, d, rfl⟩ := bExt hb; clear hb)
      rw [HQ.out]
      go_wp2_with fail
      have hqr := rowBelow (dF_alloc w (.slice tha nt ct) W H (.slice a n c) (.slice tra nr cr)) (bExtW (Below.refl _ _) (Nat.le_refl _) : Below (w.alloc (.cells #[.slice tha nt ct, .int .i64 (W), .int .i64 (H), .slice a n c, .slice tra nr cr] 27)).heap.size (w.alloc (.cells #[.slice tha nt ct, .int .i64 (W), .int .i64 (H), .slice a n c, .slice tra nr cr] 27)) (extW (w.alloc (.cells #[.slice tha nt ct, .int .i64 (W), .int .i64 (H), .slice a n c, .slice tra nr cr] 27)) E d)) (by simp)
      have hbw : Below w.heap.size w (extW (w.alloc (.cells #[.slice tha nt ct, .int .i64 (W), .int .i64 (H), .slice a n c, .slice tra nr cr] 27)) E d) := (by repeat (first | exact Below.refl _ _ | refine Below.drew ?_ | refine below_drewN ?_ _ | refine Below.alloc ?_ (by first | exact Nat.le_refl _ | (simp; done) | (simp; omega) | omega) _ | refine Below.setCell ?_ (by first | exact Nat.le_refl _ | (simp; done) | (simp; omega) | omega) _ | refine bExtW ?_ (by first | exact Nat.le_refl _ | (simp; done) | (simp; omega) | omega) | refine Below.trans ?_ (Below.mono (by assumption) (by first | exact Nat.le_refl _ | (simp; done) | (simp; omega) | omega))))
      generalize extW (w.alloc (.cells #[.slice tha nt ct, .int .i64 (W), .int .i64 (H), .slice a n c, .slice tra nr cr] 27)) E d = WR at *
      obtain ⟨q, hqe⟩ : ∃ q, w.heap.size = q := ⟨_, rfl⟩
      rw [hqe] at hqr ⊢
      have HQE := Lib.hid hqe
      have HBW := Lib.hid hbw
      have q1 : WR.cell? ⟨q, 1, none⟩ = some (.int .i64 (W)) := hqr.cell (i := 1) (by omega)
      have q2 : WR.cell? ⟨q, 2, none⟩ = some (.int .i64 (H)) := hqr.cell (i := 2) (by omega)
      have q4 : WR.cell? ⟨q, 4, none⟩ = some (.slice tra nr cr) := hqr.cell (i := 4) (by omega)
      have lq : LtW q WR := hqr.lt
      clear hqe hbw hqr
      go_loopw [39] (fun i wr => ∃ k : Nat, k ≤ nt ∧ i = .int .i64 k ∧ Hid (∀ j, j < k → 0 ≤ th.getD j 0 ∧ th.getD j 0 < W) ∧ wr = WR) (fun i _ => nt - (intOf i).toNat)
      case atStart => exact ⟨0, Nat.zero_le _, rfl, Lib.hid fun j h => absurd h (by omega), rfl⟩
      case round =>
        obtain ⟨k, hk, rfl, HJ, rfl⟩ := hrel
        by_cases hkn : k < nt
        · obtain ⟨b, o, rfl, hbl, hc⟩ := (HIT.out.below HBW.out).2 (by omega)
          have c0 := hc k hkn
          have lb : LtW b wr := hbl
          obtain ⟨z, hz⟩ : ∃ z, th.getD k 0 = z := ⟨_, rfl⟩
          have HZ := Lib.hid hz
          have HF : Hid (z < 0 ∨ W ≤ z → drE th tr W H n = 8) := Lib.hid fun h => by rw [HD.out, rgB_false (k := k) (by rw [HLT.out]; exact hkn) (by rw [hz]; exact h)]; rfl
          rw [hz] at c0
          clear hc hbl hz
          by_cases hz0 : z < 0
          · have HE := Lib.hid (HF.out (.inl hz0))
            have hd : decide (z < 0) = true := by simpa using hz0
            go_wp2
            go_ret
            exact ⟨by rw [HE.out]; rfl, HBW.out⟩
          · have hd : decide (z < 0) = false := by simpa using hz0
            by_cases hz1 : W ≤ z
            · have HE := Lib.hid (HF.out (.inr hz1))
              have hd1 : decide (W ≤ z) = true := by simpa using hz1
              go_wp2
              go_ret
              exact ⟨by rw [HE.out]; rfl, HBW.out⟩
            · have hd1 : decide (W ≤ z) = false := by simpa using hz1
              go_wp2
              go_roundw
              case rel => exact ⟨k + 1, by omega, by go_num, Lib.hid fun j hj => by
                by_cases e : j = k
                · rw [e, HZ.out]; omega
                · exact HJ.out j (by omega), trivial⟩
              case measure => simp [intOf]; omega
        · obtain rfl : nt = k := by omega
          have HRT : Hid (rgB W th = true) := Lib.hid (rgB_true (by rw [HLT.out]; exact HJ.out))
          go_wp2_with fail
          go_loopw [56] (fun i wr' => ∃ k : Nat, k ≤ nr ∧ i = .int .i64 k ∧ Hid (∀ j, j < k → 0 ≤ tr.getD j 0 ∧ tr.getD j 0 < H) ∧ wr' = wr) (fun i _ => nr - (intOf i).toNat)
          case atStart => exact ⟨0, Nat.zero_le _, rfl, Lib.hid fun j h => absurd h (by omega), rfl⟩
          case round =>
            obtain ⟨k, hk, rfl, HJ2, rfl⟩ := hrel
            by_cases hkn : k < nr
            · obtain ⟨b, o, rfl, hbl, hc⟩ := (HIR.out.below HBW.out).2 (by omega)
              have c0 := hc k hkn
              have lb : LtW b wr := hbl
              obtain ⟨z, hz⟩ : ∃ z, tr.getD k 0 = z := ⟨_, rfl⟩
              have HZ := Lib.hid hz
              have HF : Hid (z < 0 ∨ H ≤ z → drE th tr W H n = 8) := Lib.hid fun h => by rw [HD.out, HRT.out, rgB_false (k := k) (by rw [HLR.out]; exact hkn) (by rw [hz]; exact h)]; rfl
              rw [hz] at c0
              clear hc hbl hz
              by_cases hz0 : z < 0
              · have HE := Lib.hid (HF.out (.inl hz0))
                have hd : decide (z < 0) = true := by simpa using hz0
                go_wp2
                go_ret
                exact ⟨by rw [HE.out]; rfl, HBW.out⟩
              · have hd : decide (z < 0) = false := by simpa using hz0
                by_cases hz1 : H ≤ z
                · have HE := Lib.hid (HF.out (.inr hz1))
                  have hd1 : decide (H ≤ z) = true := by simpa using hz1
                  go_wp2
                  go_ret
                  exact ⟨by rw [HE.out]; rfl, HBW.out⟩
                · have hd1 : decide (H ≤ z) = false := by simpa using hz1
                  go_wp2
                  go_roundw
                  case rel => exact ⟨k + 1, by omega, by go_num, Lib.hid fun j hj => by
                    by_cases e : j = k
                    · rw [e, HZ.out]; omega
                    · exact HJ2.out j (by omega), trivial⟩
                  case measure => simp [intOf]; omega
            · obtain rfl : nr = k := by omega
              have HE : Hid (drE th tr W H n = 0) := Lib.hid (by rw [HD.out, HRT.out, rgB_true (L := tr) (by rw [HLR.out]; exact HJ2.out)]; rfl)
              go_wp2
              go_ret
              exact ⟨by rw [HE.out]; rfl, HBW.out⟩
  · have HE : Hid (drE th tr W H n = wrT W H n) := Lib.hid (by unfold drE; rw [if_pos hq])
    have hb : (wrT W H n != 0) = true := by simpa using hq
    clear hq hth htr
    go_enter Try.func21, Try.ntmps21
    (go_wp2_with fail; refine (r5Wrong_any W H a n c _ h1 h2 h3).mono ?_; rintro r w1 ⟨rfl, hb⟩; obtain ⟨E, d, rfl⟩ := bExt hb; clear hb)
    go_wp2
    go_ret
    exact ⟨by rw [HE.out]; rfl, (by repeat (first | exact Below.refl _ _ | refine Below.drew ?_ | refine below_drewN ?_ _ | refine Below.alloc ?_ (by first | exact Nat.le_refl _ | (simp; done) | (simp; omega) | omega) _ | refine Below.setCell ?_ (by first | exact Nat.le_refl _ | (simp; done) | (simp; omega) | omega) _ | refine bExtW ?_ (by first | exact Nat.le_refl _ | (simp; done) | (simp; omega) | omega) | refine Below.trans ?_ (Below.mono (by assumption) (by first | exact Nat.le_refl _ | (simp; done) | (simp; omega) | omega))))⟩
end Go.Proofs.Ytkffljkgblcgdaa
