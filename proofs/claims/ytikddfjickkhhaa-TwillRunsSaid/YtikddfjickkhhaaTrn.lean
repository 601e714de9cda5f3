/- Lemmas and contracts of functions (what each call returns, and that it changes nothing that was there) that the proof of a law of this seat uses; each lemma states its own conditions. -/
import Derived.Test.YtikddfjickkhhaaTrM
import Derived.Test.YtikddfjickkhhaaLo3
import Derived.Test.YtikddfjickkhhaaEv3
import Derived.Test.YtikddfjickkhhaaTw4
namespace Go.Proofs.Ytikddfjickkhhaa
open Go.RowKit
set_option linter.unusedVariables false
set_option linter.unusedSimpArgs false
open Lo Tw
theorem twE_ok {zs : List Int} {move : Int} (h : twE zs move = 0) : 2 ≤ zs.length ∧ zs.length % 2 = 0 ∧ zs.length ≤ 16 ∧ runsOk zs ∧ sumTo zs zs.length ≤ 64 ∧ 1 ≤ move ∧ move < sumTo zs zs.length := by
  unfold twE at h
  by_cases h1 : zs.length = 0 ∨ zs.length % 2 = 1 ∨ 16 < zs.length
  · rw [if_pos h1] at h; omega
  rw [if_neg h1] at h
  by_cases h2 : runsOk zs
  · rw [if_neg (fun hh => hh h2)] at h
    by_cases h3 : 64 < sumTo zs zs.length
    · rw [if_pos h3] at h; omega
    rw [if_neg h3] at h
    by_cases h4 : move < 1 ∨ sumTo zs zs.length ≤ move
    · rw [if_pos h4] at h; omega
    exact ⟨by omega, by omega, by omega, h2, by omega, by omega, by omega⟩
  · rw [if_pos h2] at h; omega
theorem mxN_step (zs : List Int) (r j : Nat) (h : 1 ≤ zs.getD j 0) : mxN zs r (j+1) = if j % 2 = r ∧ (mxN zs r j : Int) < zs.getD j 0 then (zs.getD j 0).toNat else mxN zs r j := by
  show max (mxN zs r j) (if j % 2 = r then (zs.getD j 0).toNat else 0) = _
  by_cases h1 : j % 2 = r
  · rw [if_pos h1]
    by_cases h2 : (mxN zs r j : Int) < zs.getD j 0
    · rw [if_pos ⟨h1, h2⟩]; omega
    · rw [if_neg (fun h => h2 h.2)]; omega
  · rw [if_neg h1, if_neg (fun h => h1 h.1)]; omega
set_option maxRecDepth 100000 in
set_option maxHeartbeats 8000000 in
theorem runs_walk (a : Option Addr) (n c : Nat) (zs : List Int) (move : Int) (w : World) (hi : IsInts w a n zs) (hn : n ≤ 9223372036854775807) (hm : (-9223372036854775808 ≤ move ∧ move ≤ 9223372036854775807)) :
    Calls Try.prog 14 #[.slice a n c, .int .i64 (move)] w fun e w' => e = .returned (.bool true) ∧ Below w.heap.size w w' := by
  have HI := Lib.hid hi
  have HL := Lib.hid hi.1
  have HTW := Lib.hid (fun w h => Twill_any a n c zs move w h hn hm)
  clear hi
  go_enter Try.func14, Try.ntmps14
  (go_wp2_with fail; refine (alive7_any _).mono ?_; rintro r w1 ⟨rfl, hb⟩; obtain ⟨E, d, rfl⟩ := bExt hb; clear hb)
  go_wp2_with fail
  refine (HTW.out _ (HI.out.below (by repeat (first | exact Below.refl _ _ | refine Below.drew ?_ | refine below_drewN ?_ _ | refine Below.alloc ?_ (by first | exact Nat.le_refl _ | (simp; done) | (simp; omega) | omega) _ | refine Below.setCell ?_ (by first | exact Nat.le_refl _ | (simp; done) | (simp; omega) | omega) _ | refine bExtW ?_ (by first | exact Nat.le_refl _ | (simp; done) | (simp; omega) | omega) | refine Below.trans ?_ (Below.mono (by assumption) (by first | exact Nat.le_refl _ | (simp; done) | (simp; omega) | omega)))))).mono ?_
  rintro r w1 (⟨hE, rfl, hb⟩ | ⟨hE, N, A, C, hN, rfl, hT, hb⟩)
  · obtain ⟨E1, d1, rfl⟩ := bExt hb
    have hne : (twE zs move == 0) = false := by simpa using hE
    have hne2 : (twE zs move != 0) = true := by simpa using hE
    clear hb hE HTW
    generalize twE zs move = q at *
    go_wp2
    go_ret
    exact ⟨rfl, (by repeat (first | exact Below.refl _ _ | refine Below.drew ?_ | refine below_drewN ?_ _ | refine Below.alloc ?_ (by first | exact Nat.le_refl _ | (simp; done) | (simp; omega) | omega) _ | refine Below.setCell ?_ (by first | exact Nat.le_refl _ | (simp; done) | (simp; omega) | omega) _ | refine bExtW ?_ (by first | exact Nat.le_refl _ | (simp; done) | (simp; omega) | omega) | refine Below.trans ?_ (Below.mono (by assumption) (by first | exact Nat.le_refl _ | (simp; done) | (simp; omega) | omega))))⟩
  · obtain ⟨E1, d1, rfl⟩ := bExt hb
    obtain ⟨hl2, hev, hl16, hrun, hs64, hm1, hm2⟩ := twE_ok hE
    obtain ⟨k, rfl⟩ : ∃ k : Nat, move = k := ⟨move.toNat, by omega⟩
    have hN64 : N ≤ 64 := by omega
    have hN0 : 0 < N := by omega
    have hk1 : 1 ≤ k := by omega
    have hkN : k < N := by omega
    have HRUN := Lib.hid hrun
    have HT := Lib.hid hT
    have HNN := Lib.hid (fun w h => Even_ok N N (N * N) rfl A C (bitsTo (rowTo zs zs.length) N k (N * N)) w h hN64 hN64)
    have HFL := Lib.hid (fun w h => Floats_ok N N (N * N) rfl A C (bitsTo (rowTo zs zs.length) N k (N * N)) w h hN64 hN64 hN0 hN0)
    have HAL := Lib.hid (fun w => Alone_ok N k w hN0 hN64 (by omega))
    have HAG : Hid (longV false N N (bitsTo (rowTo zs zs.length) N k (N * N)) = mxN zs 1 zs.length) := Lib.hid (tw_along hrun hN hN0 hl2 hev)
    have HUP : Hid (k = 1 → longV true N N (turnL N N (bitsTo (rowTo zs zs.length) N k (N * N))) = mxN zs 0 zs.length) := Lib.hid (fun h => by subst h; exact tw_up hrun hN hN0 hl2 hev)
    have HEV : Hid (Nat.gcd N k = 1 → (evL N N (bitsTo (rowTo zs zs.length) N k (N * N)) && evL N N (turnL N N (bitsTo (rowTo zs zs.length) N k (N * N)))) = true) := Lib.hid (fun h => by have := tw_even (R := rowTo zs zs.length) hN0 h; rw [this.1, this.2]; rfl)
    have hM1 := mxN_64 hrun 1
    have hM0 := mxN_64 hrun 0
    have hlu := longV_le true N N (turnL N N (bitsTo (rowTo zs zs.length) N k (N * N)))
    have HHN := Lib.hid hN
    clear hb hE HTW hN hrun hs64 hm1 hm2 hT
    generalize bitsTo (rowTo zs zs.length) N k (N * N) = bits at *
    rw [HL.out] at hl2 hev hl16 HAG HUP hM1 hM0
    generalize (evL N N bits && evL N N (turnL N N bits)) = be at *
    rw [HAG.out] at HFL
    generalize longV true N N (turnL N N bits) = up at *
    generalize N * N = NN at *
    go_wp2_with fail
    refine (HNN.out _ (HT.out.below (by repeat (first | exact Below.refl _ _ | refine Below.drew ?_ | refine below_drewN ?_ _ | refine Below.alloc ?_ (by first | exact Nat.le_refl _ | (simp; done) | (simp; omega) | omega) _ | refine Below.setCell ?_ (by first | exact Nat.le_refl _ | (simp; done) | (simp; omega) | omega) _ | refine bExtW ?_ (by first | exact Nat.le_refl _ | (simp; done) | (simp; omega) | omega) | refine Below.trans ?_ (Below.mono (by assumption) (by first | exact Nat.le_refl _ | (simp; done) | (simp; omega) | omega)))))).mono ?_
    rintro r w2 ⟨rfl, hb⟩
    obtain ⟨E2, d2, rfl⟩ := bExt hb
    clear hb
    go_wp2_with fail
    refine (HFL.out _ (HT.out.below (by repeat (first | exact Below.refl _ _ | refine Below.drew ?_ | refine below_drewN ?_ _ | refine Below.alloc ?_ (by first | exact Nat.le_refl _ | (simp; done) | (simp; omega) | omega) _ | refine Below.setCell ?_ (by first | exact Nat.le_refl _ | (simp; done) | (simp; omega) | omega) _ | refine bExtW ?_ (by first | exact Nat.le_refl _ | (simp; done) | (simp; omega) | omega) | refine Below.trans ?_ (Below.mono (by assumption) (by first | exact Nat.le_refl _ | (simp; done) | (simp; omega) | omega)))))).mono ?_
    rintro r w3 ⟨rfl, hb⟩
    obtain ⟨E3, d3, rfl⟩ := bExt hb
    clear hb
    go_wp2_with fail
    have hq := rowBelow (tF_alloc (extW (extW w E d) E1 d1) N N (.slice A NN C) rfl) (show Below ((extW (extW w E d) E1 d1).alloc (.cells #[.int .i64 (N), .int .i64 (N), .slice A NN C] 26)).heap.size _ (extW (extW ((extW (extW w E d) E1 d1).alloc (.cells #[.int .i64 (N), .int .i64 (N), .slice A NN C] 26)) E2 d2) E3 d3) from (by repeat (first | exact Below.refl _ _ | refine Below.drew ?_ | refine below_drewN ?_ _ | refine Below.alloc ?_ (by first | exact Nat.le_refl _ | (simp; done) | (simp; omega) | omega) _ | refine Below.setCell ?_ (by first | exact Nat.le_refl _ | (simp; done) | (simp; omega) | omega) _ | refine bExtW ?_ (by first | exact Nat.le_refl _ | (simp; done) | (simp; omega) | omega) | refine Below.trans ?_ (Below.mono (by assumption) (by first | exact Nat.le_refl _ | (simp; done) | (simp; omega) | omega))))) (by rw [World.size_alloc]; omega)
    have hbw : Below w.heap.size w (extW (extW ((extW (extW w E d) E1 d1).alloc (.cells #[.int .i64 (N), .int .i64 (N), .slice A NN C] 26)) E2 d2) E3 d3) := (by repeat (first | exact Below.refl _ _ | refine Below.drew ?_ | refine below_drewN ?_ _ | refine Below.alloc ?_ (by first | exact Nat.le_refl _ | (simp; done) | (simp; omega) | omega) _ | refine Below.setCell ?_ (by first | exact Nat.le_refl _ | (simp; done) | (simp; omega) | omega) _ | refine bExtW ?_ (by first | exact Nat.le_refl _ | (simp; done) | (simp; omega) | omega) | refine Below.trans ?_ (Below.mono (by assumption) (by first | exact Nat.le_refl _ | (simp; done) | (simp; omega) | omega))))
    have hT2 := HT.out.below (show Below (extW (extW w E d) E1 d1).heap.size _ (extW (extW ((extW (extW w E d) E1 d1).alloc (.cells #[.int .i64 (N), .int .i64 (N), .slice A NN C] 26)) E2 d2) E3 d3) from (by repeat (first | exact Below.refl _ _ | refine Below.drew ?_ | refine below_drewN ?_ _ | refine Below.alloc ?_ (by first | exact Nat.le_refl _ | (simp; done) | (simp; omega) | omega) _ | refine Below.setCell ?_ (by first | exact Nat.le_refl _ | (simp; done) | (simp; omega) | omega) _ | refine bExtW ?_ (by first | exact Nat.le_refl _ | (simp; done) | (simp; omega) | omega) | refine Below.trans ?_ (Below.mono (by assumption) (by first | exact Nat.le_refl _ | (simp; done) | (simp; omega) | omega)))))
    have hsz : (extW (extW w E d) E1 d1).heap.size = w.heap.size + E.size + E1.size := by simp
    rw [hsz] at hq
    generalize (extW (extW ((extW (extW w E d) E1 d1).alloc (.cells #[.int .i64 (N), .int .i64 (N), .slice A NN C] 26)) E2 d2) E3 d3) = WR at *
    obtain ⟨q, hqe⟩ : ∃ q, w.heap.size + E.size + E1.size = q := ⟨_, rfl⟩
    rw [hqe] at hq ⊢
    have HBW := Lib.hid hbw
    have HTR := Lib.hid hT2
    have HQ := Lib.hid hq
    clear hq hbw hT2 hsz hqe HT
    go_loopw [10, 46] (fun d i wr => ∃ j : Nat, j ≤ n ∧ d = .int .i64 (mxN zs 1 j : Nat) ∧ i = .int .i64 j ∧ wr = WR) (fun _ i _ => n - (intOf i).toNat)
    case atStart => exact ⟨0, Nat.zero_le _, rfl, rfl, rfl⟩
    case round =>
      obtain ⟨j, hj, rfl, rfl, rfl⟩ := hrel
      by_cases hjn : j < n
      · skip
        have HIW := Lib.hid (HI.out.below (show Below w.heap.size w wr from HBW.out))
        obtain ⟨b, o, rfl, hb, hc⟩ := HIW.out.2 (by omega)
        have cz := hc j hjn
        have hz := HRUN.out j (by rw [HL.out]; exact hjn)
        have HST := Lib.hid (mxN_step zs 1 j hz.1)
        obtain ⟨z, hz2⟩ : ∃ z, zs.getD j 0 = z := ⟨_, rfl⟩
        obtain ⟨m, hm2⟩ : ∃ m, mxN zs 1 j = m := ⟨_, rfl⟩
        rw [hz2] at cz hz HST
        rw [hm2] at HST ⊢
        obtain ⟨p, hp⟩ : ∃ p, j % 2 = p := ⟨_, rfl⟩
        have hrem : (j : Int).tmod 2 = (p : Int) := by rw [← hp]; rfl
        have hp2 : p < 2 := by omega
        have v1 : IntKind.i64.wrap (p : Int) = (p : Int) := IntWalk.i64_in _ (by omega)
        rw [hp] at HST
        have lb : LtW b wr := hb
        clear hc hz2 hm2 hp HIW hb
        by_cases hpr : p = 1
        · subst hpr
          by_cases hmz : (m : Int) < z
          · have hd : decide ((m : Int) < z) = true := by simpa using hmz
            rw [if_pos ⟨rfl, hmz⟩] at HST
            go_wp2
            go_roundw
            case rel => exact ⟨j + 1, by omega, by rw [HST.out, Int.toNat_of_nonneg (by omega)], by go_num, trivial⟩
            case measure => simp [intOf]; omega
          · have hd : decide ((m : Int) < z) = false := by simpa using hmz
            rw [if_neg (fun h => hmz h.2)] at HST
            go_wp2
            go_roundw
            case rel => exact ⟨j + 1, by omega, by rw [HST.out], by go_num, trivial⟩
            case measure => simp [intOf]; omega
        · have hpd : ((p : Int) == 1) = false := by simp; omega
          rw [if_neg (fun h => hpr h.1)] at HST
          go_wp2
          go_roundw
          case rel => exact ⟨j + 1, by omega, by rw [HST.out], by go_num, trivial⟩
          case measure => simp [intOf]; omega
      · obtain rfl : n = j := by omega
        have q0 : wr.cell? ⟨q, 0, none⟩ = some (.int .i64 (N)) := HQ.out.cell (i := 0) (by omega)
        have q1 : wr.cell? ⟨q, 1, none⟩ = some (.int .i64 (N)) := HQ.out.cell (i := 1) (by omega)
        have q2 : wr.cell? ⟨q, 2, none⟩ = some (.slice A NN C) := HQ.out.cell (i := 2) (by omega)
        have lq : LtW q wr := HQ.out.lt
        by_cases hg : Nat.gcd N k = 1
        · obtain rfl := HEV.out hg
          rw [decide_eq_true hg] at HAL
          clear hg
          go_wp2_with fail
          refine (HAL.out _).mono ?_
          rintro r w5 ⟨rfl, hb⟩
          obtain ⟨E5, d5, rfl⟩ := bExt hb
          clear hb
          by_cases hk : k = 1
          · have hup := HUP.out hk
            have hkd : ((k : Int) == 1) = true := by simp; omega
            have HUP2 := Lib.hid hup
            clear HUP HEV HNN hup hk
            go_wp2_with fail
            refine (HFL.out _ (HTR.out.below (by repeat (first | exact Below.refl _ _ | refine Below.drew ?_ | refine below_drewN ?_ _ | refine Below.alloc ?_ (by first | exact Nat.le_refl _ | (simp; done) | (simp; omega) | omega) _ | refine Below.setCell ?_ (by first | exact Nat.le_refl _ | (simp; done) | (simp; omega) | omega) _ | refine bExtW ?_ (by first | exact Nat.le_refl _ | (simp; done) | (simp; omega) | omega) | refine Below.trans ?_ (Below.mono (by assumption) (by first | exact Nat.le_refl _ | (simp; done) | (simp; omega) | omega)))))).mono ?_
            rintro r w6 ⟨rfl, hb⟩
            obtain ⟨E6, d6, rfl⟩ := bExt hb
            clear hb
            go_wp2_with fail
            have hbw : Below w.heap.size w (extW (extW wr E5 d5) E6 d6) := HBW.out.trans ((show Below wr.heap.size wr (extW (extW wr E5 d5) E6 d6) from (by repeat (first | exact Below.refl _ _ | refine Below.drew ?_ | refine below_drewN ?_ _ | refine Below.alloc ?_ (by first | exact Nat.le_refl _ | (simp; done) | (simp; omega) | omega) _ | refine Below.setCell ?_ (by first | exact Nat.le_refl _ | (simp; done) | (simp; omega) | omega) _ | refine bExtW ?_ (by first | exact Nat.le_refl _ | (simp; done) | (simp; omega) | omega) | refine Below.trans ?_ (Below.mono (by assumption) (by first | exact Nat.le_refl _ | (simp; done) | (simp; omega) | omega))))).mono HBW.out.size)
            generalize extW (extW wr E5 d5) E6 d6 = WR at *
            clear HBW HQ HTR lq q0 q1 q2 HFL HAL HAG
            have HBW := Lib.hid hbw
            clear hbw hkd
            go_loopw [16, 79] (fun d i wr => ∃ j : Nat, j ≤ n ∧ d = .int .i64 (mxN zs 0 j : Nat) ∧ i = .int .i64 j ∧ wr = WR) (fun _ i _ => n - (intOf i).toNat)
            case atStart => exact ⟨0, Nat.zero_le _, rfl, rfl, rfl⟩
            case round =>
              obtain ⟨j, hj, rfl, rfl, rfl⟩ := hrel
              by_cases hjn : j < n
              · skip
                have HIW := Lib.hid (HI.out.below (show Below w.heap.size w wr from HBW.out))
                obtain ⟨b, o, rfl, hb, hc⟩ := HIW.out.2 (by omega)
                have cz := hc j hjn
                have hz := HRUN.out j (by rw [HL.out]; exact hjn)
                have HST := Lib.hid (mxN_step zs 0 j hz.1)
                obtain ⟨z, hz2⟩ : ∃ z, zs.getD j 0 = z := ⟨_, rfl⟩
                obtain ⟨m, hm2⟩ : ∃ m, mxN zs 0 j = m := ⟨_, rfl⟩
                rw [hz2] at cz hz HST
                rw [hm2] at HST ⊢
                obtain ⟨p, hp⟩ : ∃ p, j % 2 = p := ⟨_, rfl⟩
                have hrem : (j : Int).tmod 2 = (p : Int) := by rw [← hp]; rfl
                have hp2 : p < 2 := by omega
                have v1 : IntKind.i64.wrap (p : Int) = (p : Int) := IntWalk.i64_in _ (by omega)
                rw [hp] at HST
                have lb : LtW b wr := hb
                clear hc hz2 hm2 hp HIW hb
                by_cases hpr : p = 0
                · subst hpr
                  by_cases hmz : (m : Int) < z
                  · have hd : decide ((m : Int) < z) = true := by simpa using hmz
                    rw [if_pos ⟨rfl, hmz⟩] at HST
                    go_wp2
                    go_roundw
                    case rel => exact ⟨j + 1, by omega, by rw [HST.out, Int.toNat_of_nonneg (by omega)], by go_num, trivial⟩
                    case measure => simp [intOf]; omega
                  · have hd : decide ((m : Int) < z) = false := by simpa using hmz
                    rw [if_neg (fun h => hmz h.2)] at HST
                    go_wp2
                    go_roundw
                    case rel => exact ⟨j + 1, by omega, by rw [HST.out], by go_num, trivial⟩
                    case measure => simp [intOf]; omega
                · have hpd : ((p : Int) == 0) = false := by simp; omega
                  rw [if_neg (fun h => hpr h.1)] at HST
                  go_wp2
                  go_roundw
                  case rel => exact ⟨j + 1, by omega, by rw [HST.out], by go_num, trivial⟩
                  case measure => simp [intOf]; omega
              · obtain rfl : n = j := by omega
                rw [← HUP2.out]
                have hd : ((up : Int) != up) = false := by simp
                go_wp2
                go_ret
                exact ⟨rfl, HBW.out⟩
          · have hkd : ((k : Int) == 1) = false := by simp; omega
            go_wp2
            go_ret
            exact ⟨rfl, HBW.out.trans ((show Below wr.heap.size wr _ from (by repeat (first | exact Below.refl _ _ | refine Below.drew ?_ | refine below_drewN ?_ _ | refine Below.alloc ?_ (by first | exact Nat.le_refl _ | (simp; done) | (simp; omega) | omega) _ | refine Below.setCell ?_ (by first | exact Nat.le_refl _ | (simp; done) | (simp; omega) | omega) _ | refine bExtW ?_ (by first | exact Nat.le_refl _ | (simp; done) | (simp; omega) | omega) | refine Below.trans ?_ (Below.mono (by assumption) (by first | exact Nat.le_refl _ | (simp; done) | (simp; omega) | omega))))).mono HBW.out.size)⟩
        · rw [decide_eq_false hg] at HAL
          clear hg
          (go_wp2_with fail; refine (HAL.out _).mono ?_; rintro r w1 ⟨rfl, hb⟩; obtain ⟨E, d, rfl⟩ := bExt hb; clear hb)
          go_wp2
          go_ret
          exact ⟨rfl, HBW.out.trans ((show Below wr.heap.size wr _ from (by repeat (first | exact Below.refl _ _ | refine Below.drew ?_ | refine below_drewN ?_ _ | refine Below.alloc ?_ (by first | exact Nat.le_refl _ | (simp; done) | (simp; omega) | omega) _ | refine Below.setCell ?_ (by first | exact Nat.le_refl _ | (simp; done) | (simp; omega) | omega) _ | refine bExtW ?_ (by first | exact Nat.le_refl _ | (simp; done) | (simp; omega) | omega) | refine Below.trans ?_ (Below.mono (by assumption) (by first | exact Nat.le_refl _ | (simp; done) | (simp; omega) | omega))))).mono HBW.out.size)⟩
end Go.Proofs.Ytikddfjickkhhaa
