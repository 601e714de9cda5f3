/- Lemmas and contracts of functions (what each call returns, and that it changes nothing that was there) that the proof of a law of this seat uses; each lemma states its own conditions. -/
import Derived.Test.YtnjheiiohfhckaaP11
namespace Go.Proofs.Ytnjheiiohfhckaa
open Go.RowKit
set_option linter.unusedVariables false
set_option linter.unusedSimpArgs false
open Z (IsGcd Normal nrm Mv To lin mir okT idm both bothT pw)
set_option maxRecDepth 100000 in
set_option maxHeartbeats 8000000 in
theorem rOrder_any (g t x y : Int) (ff : Bool) (w : World) (hw : (-9223372036854775808 ≤ g ∧ g ≤ 9223372036854775807)) (ht : (-9223372036854775808 ≤ t ∧ t ≤ 9223372036854775807)) (h0 : (-9223372036854775808 ≤ x ∧ x ≤ 9223372036854775807)) (h1 : (-9223372036854775808 ≤ y ∧ y ≤ 9223372036854775807)) :
    Calls Try.prog 29 #[.int .i64 (g), .agg #[.int .i64 (t), .bool (ff), .int .i64 (x), .int .i64 (y)]] w fun e w' => e = .returned (orV g t ff x y) ∧ Below w.heap.size w w' := by
  have HWF := Lib.hid (rWrong_any g t x y ff)
  by_cases he : wE g t x y = 0
  · obtain ⟨hg, hs, k, rfl, hk⟩ := wE_zero he
    have nf := nrm_sm hg hs
    have hgl : g ≤ 6 ∧ 4 ≤ g := by omega
    have HV : Hid (orV g k ff x y = .tuple #[.int .i64 (ordN g ⟨k,ff,(x,y)⟩), .int .i64 (0)]) := Lib.hid (by simp [orV, he])
    have HE := Lib.hid he
    have HNF : Hid (nrm g (x,y) ≤ 10000000000000000) := Lib.hid (by omega)
    clear he
    go_enter Try.func29, Try.ntmps29
    go_wp2_with fail
    refine (HWF.out _ hw ht h0 h1).mono ?_
    rintro r w1 ⟨rfl, hb⟩
    obtain ⟨E0, d0, rfl⟩ := bExt hb
    clear hb
    rw [HE.out]
    skip
    go_wp2_with fail
    go_loopw [8] (fun i wr => ∃ (n : Nat) (E : Array Obj) (d : Nat), i = .int .i64 (n + 1 : Nat) ∧ n ≤ 6 ∧ Hid (∀ m, 1 ≤ m → m ≤ n → pw g ⟨k,ff,(x,y)⟩ m ≠ idm) ∧ wr = extW ((extW (w.alloc (.cells #[.int .i64 (k), .bool ff, .int .i64 (x), .int .i64 (y)] 41)) E0 d0).alloc (.cells (mvC (pw g ⟨k,ff,(x,y)⟩ n)) 41)) E d) (fun i _ => 10 - (intOf i).toNat)
    case atStart => exact ⟨0, #[], _, rfl, by omega, Lib.hid (by omega), extW_zero _⟩
    case round =>
      obtain ⟨n, E, d, rfl, hn2, HM, rfl⟩ := hrel
      by_cases hlt : n < 6
      · have hbd := pw_bd hg (f := ⟨k,ff,(x,y)⟩) nf (n := n) (by omega)
        have HS : Hid (pw g ⟨k,ff,(x,y)⟩ (n+1) = both g ⟨k,ff,(x,y)⟩ (pw g ⟨k,ff,(x,y)⟩ n)) := Lib.hid rfl
        have hpo : okT g (pw g ⟨k,ff,(x,y)⟩ n) := Z.pw_ok hg _ n
        obtain ⟨T0, F0, X0, Y0, hm0⟩ := mvV_ex (pw g ⟨k,ff,(x,y)⟩ n)
        have HB := Lib.hid (rThen_any g x y X0 Y0 k T0 ff F0)
        rw [hm0] at hbd hpo HS ⊢
        have hpT : T0 < g.toNat := hpo
        have HBD : Hid (nrm g (X0,Y0) ≤ 10000000000000000) := Lib.hid (by simp only at hbd; omega)
        clear hm0 hpo hbd
        simp only [mvC]
        have hcast : ((n + 1 : Nat) : Int) = (n : Int) + 1 := by omega
        simp only [hcast]
        clear hcast
        by_cases hid : pw g ⟨k,ff,(x,y)⟩ (n+1) = idm
        · have HD : Hid (ordN g ⟨k,ff,(x,y)⟩ = (n+1 : Nat)) := Lib.hid (ordN_some (by omega) (by omega) hid (fun m a b => HM.out m a (by omega)))
          have HI : Hid (mvV (both g ⟨k,ff,(x,y)⟩ ⟨T0,F0,(X0,Y0)⟩) = .agg #[.int .i64 (0), .bool (false), .int .i64 (0), .int .i64 (0)]) := Lib.hid (by rw [← HS.out, hid]; rfl)
          clear hid
          go_wp2_with fail
          refine (HB.out _ hg hk hpT HNF.out HBD.out).mono ?_
          rintro r w1 ⟨rfl, hb⟩
          obtain ⟨E, d, rfl⟩ := bExt hb
          clear hb
          rw [HI.out]
          go_wp2
          go_ret2
          exact ⟨by rw [HV.out, HD.out]; rfl, (by repeat (first | exact Below.refl _ _ | refine Below.drew ?_ | refine below_drewN ?_ _ | refine Below.alloc ?_ (by first | exact Nat.le_refl _ | (simp; done) | (simp; omega) | omega) _ | refine Below.setCell ?_ (by first | exact Nat.le_refl _ | (simp; done) | (simp; omega) | omega) _ | refine bExtW ?_ (by first | exact Nat.le_refl _ | (simp; done) | (simp; omega) | omega) | refine Below.trans ?_ (Below.mono (by assumption) (by first | exact Nat.le_refl _ | (simp; done) | (simp; omega) | omega))))⟩
        · have HN : Hid (∀ m, 1 ≤ m → m ≤ n + 1 → pw g ⟨k,ff,(x,y)⟩ m ≠ idm) := Lib.hid (by
            intro m m1 m2
            by_cases e : m = n + 1
            · subst e; exact hid
            · exact HM.out m m1 (by omega))
          obtain ⟨T, FF, X, Y, hm⟩ := mvV_ex (pw g ⟨k,ff,(x,y)⟩ (n+1))
          have HI : Hid (mvV (both g ⟨k,ff,(x,y)⟩ ⟨T0,F0,(X0,Y0)⟩) = .agg #[.int .i64 (T), .bool (FF), .int .i64 (X), .int .i64 (Y)]) := Lib.hid (by rw [← HS.out, hm]; rfl)
          rw [hm] at hid
          have HM2 := Lib.hid hm
          have hne : ¬ ((⟨T, FF, (X, Y)⟩ : Mv) = idm) := hid
          clear hm hid HM
          by_cases c1 : T = 0
          · subst c1
            cases FF with
            | false =>
              by_cases c3 : X = 0
              · subst c3
                have c4 : Y ≠ 0 := by intro h; subst h; exact hne rfl
                clear hne
                (go_wp2_with fail; refine (HB.out _ hg hk hpT HNF.out HBD.out).mono ?_; rintro r w1 ⟨rfl, hb⟩; obtain ⟨E, d, rfl⟩ := bExt hb; clear hb; rw [HI.out]; go_wp2; go_roundw; (case rel => exact ⟨n + 1, _, _, by go_num, by omega, HN, by rw [HM2.out]; simp only [extW_extW, mvC]; rfl⟩); case measure => (simp [intOf]; omega))
              · clear hne
                (go_wp2_with fail; refine (HB.out _ hg hk hpT HNF.out HBD.out).mono ?_; rintro r w1 ⟨rfl, hb⟩; obtain ⟨E, d, rfl⟩ := bExt hb; clear hb; rw [HI.out]; go_wp2; go_roundw; (case rel => exact ⟨n + 1, _, _, by go_num, by omega, HN, by rw [HM2.out]; simp only [extW_extW, mvC]; rfl⟩); case measure => (simp [intOf]; omega))
            | true =>
              clear hne
              (go_wp2_with fail; refine (HB.out _ hg hk hpT HNF.out HBD.out).mono ?_; rintro r w1 ⟨rfl, hb⟩; obtain ⟨E, d, rfl⟩ := bExt hb; clear hb; rw [HI.out]; go_wp2; go_roundw; (case rel => exact ⟨n + 1, _, _, by go_num, by omega, HN, by rw [HM2.out]; simp only [extW_extW, mvC]; rfl⟩); case measure => (simp [intOf]; omega))
          · clear hne
            (go_wp2_with fail; refine (HB.out _ hg hk hpT HNF.out HBD.out).mono ?_; rintro r w1 ⟨rfl, hb⟩; obtain ⟨E, d, rfl⟩ := bExt hb; clear hb; rw [HI.out]; go_wp2; go_roundw; (case rel => exact ⟨n + 1, _, _, by go_num, by omega, HN, by rw [HM2.out]; simp only [extW_extW, mvC]; rfl⟩); case measure => (simp [intOf]; omega))
      · have hn6 : n = 6 := by omega
        subst hn6
        have HD : Hid (ordN g ⟨k,ff,(x,y)⟩ = 0) := Lib.hid (ordN_none HM.out)
        go_wp2
        go_ret2
        exact ⟨by rw [HV.out, HD.out]; rfl, (by repeat (first | exact Below.refl _ _ | refine Below.drew ?_ | refine below_drewN ?_ _ | refine Below.alloc ?_ (by first | exact Nat.le_refl _ | (simp; done) | (simp; omega) | omega) _ | refine Below.setCell ?_ (by first | exact Nat.le_refl _ | (simp; done) | (simp; omega) | omega) _ | refine bExtW ?_ (by first | exact Nat.le_refl _ | (simp; done) | (simp; omega) | omega) | refine Below.trans ?_ (Below.mono (by assumption) (by first | exact Nat.le_refl _ | (simp; done) | (simp; omega) | omega))))⟩
  · have hb : (wE g t x y != 0) = true := by simpa using he
    have HT : Hid (orV g t ff x y = .tuple #[.int .i64 (0), .int .i64 (wE g t x y)]) := Lib.hid (by simp [orV, he])
    clear he
    go_enter Try.func29, Try.ntmps29
    (go_wp2_with fail; refine (HWF.out _ hw ht h0 h1).mono ?_; rintro r w1 ⟨rfl, hb⟩; obtain ⟨E, d, rfl⟩ := bExt hb; clear hb)
    go_wp2
    go_ret2
    exact ⟨by rw [HT.out]; rfl, (by repeat (first | exact Below.refl _ _ | refine Below.drew ?_ | refine below_drewN ?_ _ | refine Below.alloc ?_ (by first | exact Nat.le_refl _ | (simp; done) | (simp; omega) | omega) _ | refine Below.setCell ?_ (by first | exact Nat.le_refl _ | (simp; done) | (simp; omega) | omega) _ | refine bExtW ?_ (by first | exact Nat.le_refl _ | (simp; done) | (simp; omega) | omega) | refine Below.trans ?_ (Below.mono (by assumption) (by first | exact Nat.le_refl _ | (simp; done) | (simp; omega) | omega))))⟩
end Go.Proofs.Ytnjheiiohfhckaa
