/- Lemmas and contracts of functions (what each call returns, and that it changes nothing that was there) that the proof of a law of this seat uses; each lemma states its own conditions. -/
import Derived.Test.YtnjheiiohfhckaaMgA
import Derived.Test.YtnjheiiohfhckaaT3
namespace Go.Proofs.Ytnjheiiohfhckaa
open Go.RowKit
open Mg
set_option maxRecDepth 100000 in
set_option maxHeartbeats 8000000 in
theorem graham_walk (a : Option Addr) (n c : Nat) (zs : List Int) (m : Int) (w : World) (hi : IsInts w a n zs) (hn : n ≤ 9223372036854775807) :
    Calls Try.prog 3 #[.slice a n c, .int .i64 (m)] w fun r w' => r = .returned (.bool true) ∧ Below w.heap.size w w' := by
  by_cases he : wrongM n m = 0
  · by_cases hr : inR zs = true
    · have hnm : n ≤ 64 ∧ 1 ≤ m ∧ m ≤ 16 := by unfold wrongM at he; split at he <;> omega
      obtain ⟨hn64, hm1, hm2⟩ := hnm
      obtain ⟨M, rfl⟩ := Int.eq_ofNat_of_zero_le (show 0 ≤ m by omega)
      have hz : ∀ j, j < zs.length → 0 ≤ zs.getD j 0 ∧ zs.getD j 0 ≤ 1048576 := by
        intro j hj
        have := List.all_eq_true.1 hr (zs.getD j 0) (by simp [List.getD, hj])
        simpa using this
      have hinv := inv zs M (by omega) zs.length (Nat.le_refl _) fun j hj => (hz j hj).1
      obtain ⟨_, hl0, hl1⟩ := planTo_bd zs M zs.length (Nat.le_refl _) hz
      have hge := inv_ge _ _ _ _ hinv
      have hlen := hi.1
      rw [hlen] at hinv hge hl1
      have HH := Lib.hid hi
      have HZ := Lib.hid hz
      have HE := Lib.hid he
      have HR := Lib.hid hr
      have HV := Lib.hid hinv
      have HG := Lib.hid hge
      have HL := Lib.hid hlen
      clear hi hz he hr hinv hge hlen hl0 hn
      go_enter Try.func3, Try.ntmps3
      (go_wp2_with fail; refine (alive17_any _).mono ?_; rintro r w1 ⟨rfl, hb⟩; obtain ⟨E, d, rfl⟩ := bExt hb; clear hb)
      go_wp2_with fail
      refine (Plan_ok a n c zs M _ (HH.out.below (by repeat (first | exact Below.refl _ _ | refine Below.drew ?_ | refine below_drewN ?_ _ | refine Below.alloc ?_ (by first | exact Nat.le_refl _ | (simp; done) | (simp; omega) | omega) _ | refine Below.setCell ?_ (by first | exact Nat.le_refl _ | (simp; done) | (simp; omega) | omega) _ | refine bExtW ?_ (by first | exact Nat.le_refl _ | (simp; done) | (simp; omega) | omega) | refine Below.trans ?_ (Below.mono (by assumption) (by first | exact Nat.le_refl _ | (simp; done) | (simp; omega) | omega))))) HE.out HR.out).mono ?_
      rintro r w1 ⟨v, rfl, ho, hb⟩
      rw [HL.out]
      have hJ := IsJobs.of_owns (HV.out.olen) (by rw [HL.out] at ho; exact ho)
      have hB1 : Below w.heap.size w w1 := (by repeat (first | exact Below.refl _ _ | refine Below.drew ?_ | refine below_drewN ?_ _ | refine Below.alloc ?_ (by first | exact Nat.le_refl _ | (simp; done) | (simp; omega) | omega) _ | refine Below.setCell ?_ (by first | exact Nat.le_refl _ | (simp; done) | (simp; omega) | omega) _ | refine bExtW ?_ (by first | exact Nat.le_refl _ | (simp; done) | (simp; omega) | omega) | refine Below.trans ?_ (Below.mono (by assumption) (by first | exact Nat.le_refl _ | (simp; done) | (simp; omega) | omega))))
      have hI := HH.out.below hB1
      clear hb ho
      generalize hX : (planTo zs M n).last = last at *
      generalize hO : (planTo zs M n).out = out at *
      obtain ⟨ja, jc, rfl, hja⟩ := hJ
      have HX := Lib.hid hX
      have HO := Lib.hid hO
      have holen : out.length = n := by rw [← hO]; exact HV.out.olen
      rw [holen] at hja
      rw [holen]
      have HJ := Lib.hid hja
      have HI := Lib.hid hI
      have HB1 := Lib.hid hB1
      clear hX hO hja hI hB1 holen
      go_wp2_with fail
      go_loopw [31, 8, 9] (fun i al mo wr => ∃ k : Nat, k ≤ n ∧ i = .int .i64 k ∧ al = .int .i64 (allTo zs k) ∧ mo = .int .i64 (mostTo zs k) ∧ Below w1.heap.size w1 wr) (fun i _ _ _ => n - (intOf i).toNat)
      case atStart => exact ⟨0, Nat.zero_le _, rfl, rfl, rfl, Below.refl _ _⟩
      case round =>
        obtain ⟨k, hk, rfl, rfl, rfl, hbw⟩ := hrel
        by_cases hlt : k < n
        · obtain ⟨b, o, rfl, hb, hc⟩ := HI.out.2 (by omega)
          obtain ⟨jb, rfl, hjb, hjc⟩ := HJ.out (by omega)
          have c0 := bCs hbw (hc k hlt)
          obtain ⟨c1, c2⟩ := hjc k hlt
          replace c1 := bCs hbw c1
          replace c2 := bCs hbw c2
          obtain ⟨t1, t2, t3, t4⟩ := HV.out.loom k hlt
          rw [HO.out] at t1 t2 t3 t4
          rw [HX.out] at t4
          obtain ⟨z0, z1⟩ := HZ.out k (by rw [HL.out]; exact hlt)
          obtain ⟨⟨s0, s1⟩, s2, s3⟩ := allTo_bd zs HZ.out k (by rw [HL.out]; omega)
          have HS1 : Hid (allTo zs (k+1) = allTo zs k + zs.getD k 0) := Lib.hid rfl
          have HS2 : Hid (mostTo zs (k+1) = if zs.getD k 0 > mostTo zs k then zs.getD k 0 else mostTo zs k) := Lib.hid rfl
          have HORD := Lib.hid (HV.out.order k hlt)
          rw [HO.out] at HORD
          obtain ⟨z, hz⟩ : ∃ z, z = zs.getD k 0 := ⟨_, rfl⟩
          obtain ⟨lo, hlo⟩ : ∃ z, z = (out.getD k (0,0)).1 := ⟨_, rfl⟩
          obtain ⟨fr, hfr⟩ : ∃ z, z = (out.getD k (0,0)).2 := ⟨_, rfl⟩
          rw [← hz] at c0 t4 z0 z1 HS1 HS2
          rw [← hlo] at c1 t1 t2 HORD
          rw [← hfr] at c2 t3 t4 HORD
          clear hz hlo hfr
          have HCI := Lib.hid hc
          have HCJ := Lib.hid hjc
          clear hc hjc
          generalize allTo zs k = al at *
          generalize mostTo zs k = mo at *
          have lb : LtW b wr := Nat.lt_of_lt_of_le hb hbw.size
          have lj : LtW jb wr := Nat.lt_of_lt_of_le hjb hbw.size
          have HBW := Lib.hid hbw
          clear hbw
          have hd1 : decide (lo < 0) = false := by simpa using t1
          have hd2 : decide ((M : Int) ≤ lo) = false := by simpa using t2
          have hd3 : decide (fr < 0) = false := by simpa using t3
          have hd4 : decide (last < fr + z) = false := by simpa using t4
          go_wp2_with fail
          go_quiet (fail)
          clear hd1 hd2 hd3 hd4
          have hW2 : ((wr.alloc (.cells #[.int .i64 (lo), .int .i64 (fr)] 29)).drewN nq).cell? ⟨wr.heap.size, 0, none⟩ = some (.int .i64 (lo)) ∧ ((wr.alloc (.cells #[.int .i64 (lo), .int .i64 (fr)] 29)).drewN nq).cell? ⟨wr.heap.size, 1, none⟩ = some (.int .i64 (fr)) := by simp
          have hB2 : Below w1.heap.size w1 ((wr.alloc (.cells #[.int .i64 (lo), .int .i64 (fr)] 29)).drewN nq) := below_drewN (HBW.out.alloc HBW.out.size _) _
          rcases Decidable.em (mo < z) with hmz | hmz
          all_goals
            have HM : Hid (mostTo zs (k+1) = if mo < z then z else mo) := HS2
            go_wp2_with fail
            generalize (wr.alloc (.cells #[.int .i64 (lo), .int .i64 (fr)] 29)).drewN nq = W2 at *
            obtain ⟨d1, d2⟩ := hW2
            have HB2 := Lib.hid hB2
            clear hB2 c0 c1 c2 lb lj
            go_loopw [12] (fun i wq => ∃ q : Nat, q ≤ k ∧ i = .int .i64 q ∧ Below W2.heap.size W2 wq) (fun i _ => k - (intOf i).toNat)
            case atStart => exact ⟨0, Nat.zero_le _, rfl, Below.refl _ _⟩
            case round =>
              obtain ⟨q, hq, rfl, hbq⟩ := hrel
              have D1 := bCs hbq d1
              have D2 := bCs hbq d2
              by_cases hqk : q < k
              · have hbw := HB2.out.trans (hbq.mono HB2.out.size)
                have c0 := bCs hbw (HCI.out q (by omega))
                obtain ⟨c1, c2⟩ := HCJ.out q (by omega)
                replace c1 := bCs hbw c1
                replace c2 := bCs hbw c2
                obtain ⟨t5, t6, t7, t8⟩ := HV.out.loom q (by omega)
                rw [HO.out] at t5 t6 t7 t8
                rw [HX.out] at t8
                obtain ⟨y0, y1⟩ := HZ.out q (by rw [HL.out]; omega)
                obtain ⟨o1, o2⟩ := HORD.out q hqk
                have HBQ := Lib.hid hbq
                clear hbq hbw d1 d2
                generalize zs.getD q 0 = z' at *
                generalize (out.getD q (0,0)).1 = lo' at *
                generalize (out.getD q (0,0)).2 = fr' at *
                have e2 : decide (fr < fr') = false := by simpa using o2
                by_cases hll : lo' = lo
                · have e1 : decide (fr < fr' + z') = false := by simpa using o1 hll
                  subst hll
                  clear o1
                  go_wp2_with fail
                  go_quiet (fail)
                  go_wp2_with fail
                  go_quiet (fail)
                  go_wp2
                  go_roundw
                  case rel => exact ⟨q + 1, by omega, by go_num, below_drewN HBQ.out _⟩
                  case measure => simp [intOf]; omega
                · have e1 : (lo' == lo) = false := by simpa using hll
                  clear o1 hll
                  go_wp2_with fail
                  go_quiet (fail)
                  go_wp2_with fail
                  go_quiet (fail)
                  go_wp2
                  go_roundw
                  case rel => exact ⟨q + 1, by omega, by go_num, below_drewN HBQ.out _⟩
                  case measure => simp [intOf]; omega
              · have HBQ := Lib.hid hbq
                clear hbq d1 d2 D1 D2
                go_wp2
                go_roundw
                case rel => exact ⟨k + 1, by omega, by go_num, by rw [HS1.out], by rw [HM.out]; first | rw [if_pos hmz] | rw [if_neg (by omega)], HB2.out.trans (HBQ.out.mono HB2.out.size)⟩
                case measure => simp [intOf]; omega
        · have hkn : k = n := by omega
          subst hkn
          have g1 := HV.out.graham
          have g2 := HG.out
          have g3 := HV.out.most
          have g4 := HV.out.most0
          rw [HX.out] at g1 g3
          obtain ⟨⟨s0, s1⟩, s2, s3⟩ := allTo_bd zs HZ.out k (by rw [HL.out]; omega)
          have HBW := HB1.out.trans (hbw.mono HB1.out.size)
          have HBW' := Lib.hid HBW
          clear hbw HBW
          generalize allTo zs k = al at *
          generalize mostTo zs k = mo at *
          have hl0 : 0 ≤ last := by omega
          have p1 : 0 ≤ (M : Int) * last ∧ (M : Int) * last ≤ 16 * 100000000 := by
            have := mul_bd (a := (M : Int)) (b := last) (A := 16) (B := 100000000) (by omega) (by omega) (by omega) (by omega)
            exact ⟨Int.mul_nonneg (by omega) hl0, this.2⟩
          have p2 : 0 ≤ ((M : Int) - 1) * mo ∧ ((M : Int) - 1) * mo ≤ 16 * 100000000 := by
            have := mul_bd (a := (M : Int) - 1) (b := mo) (A := 16) (B := 100000000) (by omega) (by omega) (by omega) (by omega)
            exact ⟨Int.mul_nonneg (by omega) g4, this.2⟩
          go_wp2
          go_ret
          exact ⟨rfl, HBW'.out⟩
    · have hr' : inR zs = false := by simpa using hr
      clear hr
      have hB : ∀ E d, Below w.heap.size w (extW w E d) := fun E d => (by repeat (first | exact Below.refl _ _ | refine Below.drew ?_ | refine below_drewN ?_ _ | refine Below.alloc ?_ (by first | exact Nat.le_refl _ | (simp; done) | (simp; omega) | omega) _ | refine Below.setCell ?_ (by first | exact Nat.le_refl _ | (simp; done) | (simp; omega) | omega) _ | refine bExtW ?_ (by first | exact Nat.le_refl _ | (simp; done) | (simp; omega) | omega) | refine Below.trans ?_ (Below.mono (by assumption) (by first | exact Nat.le_refl _ | (simp; done) | (simp; omega) | omega))))
      have hle := hi.1
      go_enter Try.func3, Try.ntmps3
      (go_wp2_with fail; refine (alive17_any _).mono ?_; rintro r w1 ⟨rfl, hb⟩; obtain ⟨E, d, rfl⟩ := bExt hb; clear hb)
      go_wp2_with fail
      refine (Plan_bad a n c zs m _ (hi.below (hB _ _)) he hr').mono ?_
      rintro r w1 ⟨rfl, rfl⟩
      go_wp2
      go_ret
      exact ⟨rfl, (by repeat (first | exact Below.refl _ _ | refine Below.drew ?_ | refine below_drewN ?_ _ | refine Below.alloc ?_ (by first | exact Nat.le_refl _ | (simp; done) | (simp; omega) | omega) _ | refine Below.setCell ?_ (by first | exact Nat.le_refl _ | (simp; done) | (simp; omega) | omega) _ | refine bExtW ?_ (by first | exact Nat.le_refl _ | (simp; done) | (simp; omega) | omega) | refine Below.trans ?_ (Below.mono (by assumption) (by first | exact Nat.le_refl _ | (simp; done) | (simp; omega) | omega))))⟩
  · have hb : (wrongM n m != 0) = true := by simpa using he
    go_enter Try.func3, Try.ntmps3
    (go_wp2_with fail; refine (alive17_any _).mono ?_; rintro r w1 ⟨rfl, hb⟩; obtain ⟨E, d, rfl⟩ := bExt hb; clear hb)
    go_wp2_with fail
    refine (Plan_wrong a n c m _ _ rfl he (by omega)).mono ?_
    rintro r w1 ⟨rfl, rfl⟩
    go_wp2
    go_ret
    exact ⟨rfl, (by repeat (first | exact Below.refl _ _ | refine Below.drew ?_ | refine below_drewN ?_ _ | refine Below.alloc ?_ (by first | exact Nat.le_refl _ | (simp; done) | (simp; omega) | omega) _ | refine Below.setCell ?_ (by first | exact Nat.le_refl _ | (simp; done) | (simp; omega) | omega) _ | refine bExtW ?_ (by first | exact Nat.le_refl _ | (simp; done) | (simp; omega) | omega) | refine Below.trans ?_ (Below.mono (by assumption) (by first | exact Nat.le_refl _ | (simp; done) | (simp; omega) | omega))))⟩
end Go.Proofs.Ytnjheiiohfhckaa
