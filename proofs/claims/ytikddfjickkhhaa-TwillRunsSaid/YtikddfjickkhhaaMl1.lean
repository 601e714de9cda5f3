/- Lemmas and contracts of functions (what each call returns, and that it changes nothing that was there) that the proof of a law of this seat uses; each lemma states its own conditions. -/
import Derived.Test.YtikddfjickkhhaaTw3
import Derived.Test.YtikddfjickkhhaaQ6
namespace Go.Proofs.Ytikddfjickkhhaa
open Go.RowKit
set_option linter.unusedVariables false
set_option linter.unusedSimpArgs false
set_option maxRecDepth 100000 in
set_option maxHeartbeats 8000000 in
theorem Alone_ok (a b : Nat) (w : World) (h1 : 1 ≤ a) (h2 : a ≤ 64) (h3 : b ≤ 64) :
    Calls Try.prog 57 #[.int .i64 (a), .int .i64 (b)] w fun e w' => e = .returned (.bool (decide (Nat.gcd a b = 1))) ∧ Below w.heap.size w w' := by
  go_enter Try.func57, Try.ntmps57
  go_wp2_with fail
  go_loopw [5] (fun i wr => ∃ d : Nat, 2 ≤ d ∧ d ≤ 66 ∧ i = .int .i64 d ∧ (∀ j, 2 ≤ j → j < d → j ≤ a → ¬ (a % j = 0 ∧ b % j = 0)) ∧ wr = w) (fun i _ => 100 - (intOf i).toNat)
  case atStart => exact ⟨2, by omega, by omega, rfl, fun j h h' => absurd h (by omega), rfl⟩
  case round =>
    obtain ⟨d, hd2, hd, rfl, hrun, rfl⟩ := hrel
    have HRUN := Lib.hid hrun
    clear hrun
    by_cases hda : d ≤ a
    · obtain ⟨r1, hr1⟩ : ∃ r, a % d = r := ⟨_, rfl⟩
      obtain ⟨r2, hr2⟩ : ∃ r, b % d = r := ⟨_, rfl⟩
      have ht1 : (a : Int).tmod (d : Int) = (r1 : Int) := by rw [← hr1]; rfl
      have ht2 : (b : Int).tmod (d : Int) = (r2 : Int) := by rw [← hr2]; rfl
      have hb1 : r1 < d := by rw [← hr1]; exact Nat.mod_lt _ (by omega)
      have hb2 : r2 < d := by rw [← hr2]; exact Nat.mod_lt _ (by omega)
      have v1 : IntKind.i64.wrap (r1 : Int) = (r1 : Int) := IntWalk.i64_in _ (by omega)
      have v2 : IntKind.i64.wrap (r2 : Int) = (r2 : Int) := IntWalk.i64_in _ (by omega)
      have hN0 : ((d : Int) == 0) = false := by simp; omega
      have hN1 : (d : Int) ≠ 0 := by omega
      have hN3 : ¬ d = 0 := by omega
      have HR1 := Lib.hid hr1
      have HR2 := Lib.hid hr2
      clear hr1 hr2
      by_cases hz : r1 = 0 ∧ r2 = 0
      · have e1 : ((r1 : Int) == 0) = true := by simp [hz.1]
        have e2 : ((r2 : Int) == 0) = true := by simp [hz.2]
        have HNE : Hid (¬ Nat.gcd a b = 1) := Lib.hid fun hg => by
          have g1 : d ∣ a := Nat.dvd_of_mod_eq_zero (by rw [HR1.out]; exact hz.1)
          have g2 : d ∣ b := Nat.dvd_of_mod_eq_zero (by rw [HR2.out]; exact hz.2)
          have g3 := Nat.dvd_gcd g1 g2
          rw [hg] at g3
          have := Nat.le_of_dvd (by omega) g3
          omega
        clear hz
        go_wp2
        go_ret
        exact ⟨by rw [decide_eq_false HNE.out]; rfl, (by repeat (first | exact Below.refl _ _ | refine Below.drew ?_ | refine below_drewN ?_ _ | refine Below.alloc ?_ (by first | exact Nat.le_refl _ | (simp; done) | (simp; omega) | omega) _ | refine Below.setCell ?_ (by first | exact Nat.le_refl _ | (simp; done) | (simp; omega) | omega) _ | refine bExtW ?_ (by first | exact Nat.le_refl _ | (simp; done) | (simp; omega) | omega) | refine Below.trans ?_ (Below.mono (by assumption) (by first | exact Nat.le_refl _ | (simp; done) | (simp; omega) | omega))))⟩
      · have HNX : Hid (∀ j, 2 ≤ j → j < d + 1 → j ≤ a → ¬ (a % j = 0 ∧ b % j = 0)) := Lib.hid fun j h4 h5 h6 => by
          rcases Nat.lt_or_ge j d with h | h
          · exact HRUN.out j h4 h h6
          · obtain rfl : j = d := by omega
            rw [HR1.out, HR2.out]; exact hz
        by_cases hz1 : r1 = 0
        · have e1 : ((r1 : Int) == 0) = true := by simp [hz1]
          have e2 : ((r2 : Int) == 0) = false := by simp; omega
          clear hz hz1
          go_wp2
          go_roundw
          case rel => exact ⟨d + 1, by omega, by omega, by go_num, HNX.out, trivial⟩
          case measure => simp [intOf]; omega
        · have e1 : ((r1 : Int) == 0) = false := by simp; omega
          clear hz hz1
          go_wp2
          go_roundw
          case rel => exact ⟨d + 1, by omega, by omega, by go_num, HNX.out, trivial⟩
          case measure => simp [intOf]; omega
    · have HG : Hid (Nat.gcd a b = 1) := Lib.hid (by
        have g1 := Nat.gcd_dvd_left a b
        have g2 := Nat.gcd_dvd_right a b
        have g3 := Nat.le_of_dvd (by omega) g1
        have g4 : 0 < Nat.gcd a b := Nat.gcd_pos_of_pos_left b (by omega)
        apply Nat.le_antisymm _ g4
        apply Nat.le_of_not_lt
        intro g5
        exact HRUN.out (Nat.gcd a b) g5 (by omega) g3 ⟨Nat.mod_eq_zero_of_dvd g1, Nat.mod_eq_zero_of_dvd g2⟩)
      have hlt : ((d : Int) ≤ (a : Int)) = False := by simp; omega
      go_wp2
      go_ret
      exact ⟨by rw [decide_eq_true HG.out]; rfl, (by repeat (first | exact Below.refl _ _ | refine Below.drew ?_ | refine below_drewN ?_ _ | refine Below.alloc ?_ (by first | exact Nat.le_refl _ | (simp; done) | (simp; omega) | omega) _ | refine Below.setCell ?_ (by first | exact Nat.le_refl _ | (simp; done) | (simp; omega) | omega) _ | refine bExtW ?_ (by first | exact Nat.le_refl _ | (simp; done) | (simp; omega) | omega) | refine Below.trans ?_ (Below.mono (by assumption) (by first | exact Nat.le_refl _ | (simp; done) | (simp; omega) | omega))))⟩
set_option maxRecDepth 100000 in
set_option maxHeartbeats 8000000 in
theorem rMoves_bad (n : Int) (w : World) (h0 : (-9223372036854775808 ≤ n ∧ n ≤ 9223372036854775807)) (h : n < 1 ∨ 64 < n) :
    Calls Try.prog 35 #[.int .i64 (n)] w fun e w' => e = .returned (.tuple #[.slice none 0 0, .int .i64 (3)]) ∧ Below w.heap.size w w' := by
  rcases h with h | h
  · go_enter Try.func35, Try.ntmps35
    go_wp2
    go_ret2
    exact ⟨rfl, (by repeat (first | exact Below.refl _ _ | refine Below.drew ?_ | refine below_drewN ?_ _ | refine Below.alloc ?_ (by first | exact Nat.le_refl _ | (simp; done) | (simp; omega) | omega) _ | refine Below.setCell ?_ (by first | exact Nat.le_refl _ | (simp; done) | (simp; omega) | omega) _ | refine bExtW ?_ (by first | exact Nat.le_refl _ | (simp; done) | (simp; omega) | omega) | refine Below.trans ?_ (Below.mono (by assumption) (by first | exact Nat.le_refl _ | (simp; done) | (simp; omega) | omega))))⟩
  · have h' : ¬ n < 1 := by omega
    go_enter Try.func35, Try.ntmps35
    go_wp2
    go_ret2
    exact ⟨rfl, (by repeat (first | exact Below.refl _ _ | refine Below.drew ?_ | refine below_drewN ?_ _ | refine Below.alloc ?_ (by first | exact Nat.le_refl _ | (simp; done) | (simp; omega) | omega) _ | refine Below.setCell ?_ (by first | exact Nat.le_refl _ | (simp; done) | (simp; omega) | omega) _ | refine bExtW ?_ (by first | exact Nat.le_refl _ | (simp; done) | (simp; omega) | omega) | refine Below.trans ?_ (Below.mono (by assumption) (by first | exact Nat.le_refl _ | (simp; done) | (simp; omega) | omega))))⟩
set_option maxRecDepth 100000 in
set_option maxHeartbeats 8000000 in
theorem rMoves_ok (n : Nat) (w : World) (h1 : 1 ≤ n) (h2 : n ≤ 64) :
    Calls Try.prog 35 #[.int .i64 (n)] w (MovesPost (movesL n) w) := by
  go_enter Try.func35, Try.ntmps35
  go_wp2_with fail
  go_loopw [5, 4] (fun i v wr => ∃ k : Nat, 2 ≤ k ∧ (k ≤ 2 ∨ k + 1 ≤ n) ∧ i = .int .i64 k ∧ wr.ownsRow w.heap.size 3 1 v ((List.range k).filter (mvP n)).length (natV ((List.range k).filter (mvP n))) ∧ Below w.heap.size w wr) (fun i _ _ => 100 - (intOf i).toNat)
  case atStart => exact ⟨2, by omega, by omega, rfl, by rw [show (List.range 2).filter (mvP n) = [] by simp [List.range, List.range.loop, mvP]]; exact World.ownsRow_nil _ _ _ _, Below.refl _ _⟩
  case round =>
    obtain ⟨k, hk2, hk, rfl, hown, hbel⟩ := hrel
    have hll : ((List.range k).filter (mvP n)).length ≤ k := by
      have := List.length_filter_le (mvP n) (List.range k)
      simpa using this
    by_cases hlt : k + 1 < n
    · have HF := Lib.hid (filter_snoc k (mvP n))
      have HO := Lib.hid hown
      have HB := Lib.hid hbel
      clear hown hbel
      generalize (List.range k).filter (mvP n) = L at *
      have HG := Lib.hid (fun w => Alone_ok k n w (by omega) (by omega) (by omega))
      by_cases hg : Nat.gcd n k = 1
      · have HP : Hid (mvP n k = true) := Lib.hid (by simp [mvP, hk2, hg])
        have HGE := Lib.hid hg
        clear hg
        go_wp2_with fail
        refine (HG.out _).mono ?_
        rintro r w1 ⟨rfl, hb⟩
        rw [decide_eq_true (show Nat.gcd k n = 1 by rw [Nat.gcd_comm]; exact HGE.out)]
        have HO1 := Lib.hid (ownBelow HO.out hb)
        have hsz : w.heap.size ≤ w1.heap.size := Nat.le_trans HB.out.size hb.size
        have HB1 := Lib.hid (HB.out.trans (hb.mono HB.out.size))
        clear hb
        go_wp2_with (at_builtin; refine wpApp okInts' rfl (.tmp 21) (.tmp 23) rfl w.heap.size _ _ _ #[.int .i64 k] rfl HO1.out rfl rfl ?_ (by omega) (by omega) hsz ?_)
        · simp [Value.oneCell']
        intro v' w2 hown2 hb2
        rw [← natV_snoc] at hown2
        have HB2 := Lib.hid (HB1.out.trans hb2)
        have HO2 : Hid (w2.ownsRow w.heap.size 3 1 v' (L ++ [k]).length (natV (L ++ [k]))) := Lib.hid (by rw [List.length_append]; exact hown2)
        clear hown2 hb2
        go_wp2
        go_roundw
        case rel => exact ⟨k + 1, by omega, by omega, by go_num, by rw [HF.out, HP.out]; exact HO2.out, HB2.out⟩
        case measure => simp [intOf]; omega
      · have HP : Hid (mvP n k = false) := Lib.hid (by simp [mvP, hg])
        have HGN := Lib.hid hg
        clear hg
        go_wp2_with fail
        refine (HG.out _).mono ?_
        rintro r w1 ⟨rfl, hb⟩
        have HO1 := Lib.hid (ownBelow HO.out hb)
        have HB1 := Lib.hid (HB.out.trans (hb.mono HB.out.size))
        clear hb
        rw [decide_eq_false (show ¬ Nat.gcd k n = 1 by rw [Nat.gcd_comm]; exact HGN.out)]
        go_wp2
        go_roundw
        case rel => exact ⟨k + 1, by omega, by omega, by go_num, by rw [HF.out, HP.out]; simpa using HO1.out, HB1.out⟩
        case measure => simp [intOf]; omega
    · have hke : k = max 2 (n - 1) := by omega
      have HM : Hid (movesL n = (List.range k).filter (mvP n)) := Lib.hid (by unfold movesL; rw [← hke])
      obtain ⟨A, c, rfl, hI⟩ := IsInts.of_nats hown
      have HI := Lib.hid hI
      have HB := Lib.hid hbel
      clear hown hbel hI hke
      generalize (List.range k).filter (mvP n) = L at *
      go_wp2
      go_ret2
      unfold MovesPost
      rw [HM.out]
      exact ⟨A, c, rfl, HI.out, HB.out⟩
end Go.Proofs.Ytikddfjickkhhaa
