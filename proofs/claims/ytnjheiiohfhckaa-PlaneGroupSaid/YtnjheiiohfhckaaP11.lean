/- Lemmas and contracts of functions (what each call returns, and that it changes nothing that was there) that the proof of a law of this seat uses; each lemma states its own conditions. -/
import Derived.Test.YtnjheiiohfhckaaP7
namespace Go.Proofs.Ytnjheiiohfhckaa
open Go.RowKit
set_option linter.unusedVariables false
set_option linter.unusedSimpArgs false
open Z (IsGcd Normal nrm Mv To lin mir okT idm both bothT pw)
def ordN (g : Int) (f : Mv) : Nat := ((List.range' 1 6).find? (fun n => decide (pw g f n = idm))).getD 0
theorem ordN_some {g : Int} {f : Mv} {n : Nat} (h1 : 1 ≤ n) (h6 : n ≤ 6) (h : pw g f n = idm) (hm : ∀ m, 1 ≤ m → m < n → pw g f m ≠ idm) : ordN g f = n := by
  have hn : n = 1 ∨ n = 2 ∨ n = 3 ∨ n = 4 ∨ n = 5 ∨ n = 6 := by omega
  have m1 := hm 1 (by omega); have m2 := hm 2 (by omega); have m3 := hm 3 (by omega); have m4 := hm 4 (by omega); have m5 := hm 5 (by omega)
  clear hm
  rcases hn with rfl | rfl | rfl | rfl | rfl | rfl <;> simp at m1 m2 m3 m4 m5 <;> simp [ordN, List.range', List.find?, *]
theorem ordN_none {g : Int} {f : Mv} (hm : ∀ m, 1 ≤ m → m ≤ 6 → pw g f m ≠ idm) : ordN g f = 0 := by
  have m1 := hm 1 (by omega) (by omega); have m2 := hm 2 (by omega) (by omega); have m3 := hm 3 (by omega) (by omega); have m4 := hm 4 (by omega) (by omega); have m5 := hm 5 (by omega) (by omega); have m6 := hm 6 (by omega) (by omega)
  clear hm
  simp [ordN, List.range', List.find?, *]
/-- What Order answers. -/
def orV (g t : Int) (f : Bool) (x y : Int) : Value :=
  if wE g t x y ≠ 0 then .tuple #[.int .i64 (0), .int .i64 (wE g t x y)] else .tuple #[.int .i64 (ordN g ⟨t.toNat,f,(x,y)⟩), .int .i64 (0)]
theorem pw_nrm {g : Int} (hg : Z.G g) {f : Mv} (hs : nrm g f.o ≤ 3 * (1048576 * 1048576)) (n : Nat) : nrm g (pw g f n).o ≤ (2 * 2 ^ n - 2) * (3 * (1048576 * 1048576)) := by
  induction n with
  | zero =>
    have : nrm g (pw g f 0).o = 0 := by rcases hg with rfl | rfl <;> rfl
    omega
  | succ n ih =>
    have h := Z.nrm_To hg f (pw g f n).o
    have e : (pw g f (n+1)).o = To g f (pw g f n).o := rfl
    rw [e]
    have hp : (2:Int) ^ (n+1) = 2 * 2 ^ n := by rw [Int.pow_succ]; omega
    rw [hp]
    generalize (2:Int) ^ n = q at *
    omega
theorem pw_bd {g : Int} (hg : Z.G g) {f : Mv} (hs : nrm g f.o ≤ 3 * (1048576 * 1048576)) {n : Nat} (hn : n ≤ 6) : nrm g (pw g f n).o ≤ 1000000000000000 := by
  have h := pw_nrm hg hs n
  have hn : n = 0 ∨ n = 1 ∨ n = 2 ∨ n = 3 ∨ n = 4 ∨ n = 5 ∨ n = 6 := by omega
  rcases hn with rfl | rfl | rfl | rfl | rfl | rfl | rfl <;> omega
def mvC (m : Mv) : Array Value := #[.int .i64 (m.t), .bool m.f, .int .i64 (m.o.1), .int .i64 (m.o.2)]
set_option maxRecDepth 100000 in
set_option maxHeartbeats 8000000 in
theorem Order_any (g t x y : Int) (ff : Bool) (w : World) (hw : (-9223372036854775808 ≤ g ∧ g ≤ 9223372036854775807)) (ht : (-9223372036854775808 ≤ t ∧ t ≤ 9223372036854775807)) (h0 : (-9223372036854775808 ≤ x ∧ x ≤ 9223372036854775807)) (h1 : (-9223372036854775808 ≤ y ∧ y ≤ 9223372036854775807)) :
    Calls Try.prog 28 #[.int .i64 (g), .agg #[.int .i64 (t), .bool (ff), .int .i64 (x), .int .i64 (y)]] w fun e w' => e = .returned (orV g t ff x y) ∧ Below w.heap.size w w' := by
  have HWF := Lib.hid (Wrong_any g t x y ff)
  by_cases he : wE g t x y = 0
  · obtain ⟨hg, hs, k, rfl, hk⟩ := wE_zero he
    have nf := nrm_sm hg hs
    have hgl : g ≤ 6 ∧ 4 ≤ g := by omega
    have HV : Hid (orV g k ff x y = .tuple #[.int .i64 (ordN g ⟨k,ff,(x,y)⟩), .int .i64 (0)]) := Lib.hid (by simp [orV, he])
    have HE := Lib.hid he
    have hok : okT g ⟨k,ff,(x,y)⟩ := hk
    have HO := Lib.hid hok
    have HP1 := Lib.hid (Z.pw_one hok)
    clear he hok
    go_enter Try.func28, Try.ntmps28
    go_wp2_with fail
    refine (HWF.out _ hw ht h0 h1).mono ?_
    rintro r w1 ⟨rfl, hb⟩
    obtain ⟨E0, d0, rfl⟩ := bExt hb
    clear hb
    rw [HE.out]
    skip
    go_wp2_with fail
    go_loopw [8] (fun i wr => ∃ (n : Nat) (E : Array Obj) (d : Nat), i = .int .i64 n ∧ 1 ≤ n ∧ n ≤ g.toNat + 1 ∧ Hid (∀ m, 1 ≤ m → m < n → pw g ⟨k,ff,(x,y)⟩ m ≠ idm) ∧ wr = extW ((extW (w.alloc (.cells #[.int .i64 (k), .bool ff, .int .i64 (x), .int .i64 (y)] 41)) E0 d0).alloc (.cells (mvC (pw g ⟨k,ff,(x,y)⟩ n)) 41)) E d) (fun i _ => 10 - (intOf i).toNat)
    case atStart => exact ⟨1, #[], _, rfl, by omega, by omega, Lib.hid (by omega), by rw [HP1.out]; exact extW_zero _⟩
    case round =>
      obtain ⟨n, E, d, rfl, hn1, hn2, HM, rfl⟩ := hrel
      by_cases hlt : (n : Int) ≤ g
      · have hbd := pw_bd hg (f := ⟨k,ff,(x,y)⟩) nf (n := n) (by omega)
        have HS : Hid (pw g ⟨k,ff,(x,y)⟩ (n+1) = both g ⟨k,ff,(x,y)⟩ (pw g ⟨k,ff,(x,y)⟩ n)) := Lib.hid rfl
        have hpo : okT g (pw g ⟨k,ff,(x,y)⟩ n) := Z.pw_ok hg _ n
        by_cases hid : pw g ⟨k,ff,(x,y)⟩ n = idm
        · have HD : Hid (ordN g ⟨k,ff,(x,y)⟩ = n) := Lib.hid (ordN_some hn1 (by omega) hid HM.out)
          rw [hid]
          simp only [mvC, idm]
          clear hid hbd hpo
          go_wp2
          go_ret2
          exact ⟨by rw [HV.out, HD.out]; rfl, (by repeat (first | exact Below.refl _ _ | refine Below.drew ?_ | refine below_drewN ?_ _ | refine Below.alloc ?_ (by first | exact Nat.le_refl _ | (simp; done) | (simp; omega) | omega) _ | refine Below.setCell ?_ (by first | exact Nat.le_refl _ | (simp; done) | (simp; omega) | omega) _ | refine bExtW ?_ (by first | exact Nat.le_refl _ | (simp; done) | (simp; omega) | omega) | refine Below.trans ?_ (Below.mono (by assumption) (by first | exact Nat.le_refl _ | (simp; done) | (simp; omega) | omega))))⟩
        · have HN : Hid (∀ m, 1 ≤ m → m < n + 1 → pw g ⟨k,ff,(x,y)⟩ m ≠ idm) := Lib.hid (by
            intro m m1 m2
            by_cases e : m = n
            · subst e; exact hid
            · exact HM.out m m1 (by omega))
          obtain ⟨T, FF, X, Y, hm⟩ := mvV_ex (pw g ⟨k,ff,(x,y)⟩ n)
          rw [hm] at hbd hpo hid HS ⊢
          simp only [mvC]
          have HM2 := Lib.hid hm
          have hpT : T < g.toNat := hpo
          have hne : ¬ ((⟨T, FF, (X, Y)⟩ : Mv) = idm) := hid
          have HBD : Hid (nrm g (X,Y) ≤ 200000000000000000) := Lib.hid (by simp only at hbd; omega)
          clear hm hpo hid hbd HM
          have hB := both_any g x y X Y k T ff FF
          have HB := Lib.hid hB
          clear hB
          by_cases c1 : T = 0
          · subst c1
            cases FF with
            | false =>
              by_cases c3 : X = 0
              · subst c3
                have c4 : Y ≠ 0 := by intro h; subst h; exact hne rfl
                clear hne
                (go_wp2_with fail; refine (HB.out _ hg hk hpT HBD.out (by omega) (by omega)).mono ?_; rintro r w1 ⟨rfl, hb⟩; obtain ⟨E, d, rfl⟩ := bExt hb; clear hb; rw [← HS.out]; simp only [mvV]; go_wp2; go_roundw; (case rel => exact ⟨n + 1, _, _, by go_num, by omega, by omega, HN, by simp only [extW_extW, mvC]; rfl⟩); case measure => (simp [intOf]; omega))
              · clear hne
                (go_wp2_with fail; refine (HB.out _ hg hk hpT HBD.out (by omega) (by omega)).mono ?_; rintro r w1 ⟨rfl, hb⟩; obtain ⟨E, d, rfl⟩ := bExt hb; clear hb; rw [← HS.out]; simp only [mvV]; go_wp2; go_roundw; (case rel => exact ⟨n + 1, _, _, by go_num, by omega, by omega, HN, by simp only [extW_extW, mvC]; rfl⟩); case measure => (simp [intOf]; omega))
            | true =>
              clear hne
              (go_wp2_with fail; refine (HB.out _ hg hk hpT HBD.out (by omega) (by omega)).mono ?_; rintro r w1 ⟨rfl, hb⟩; obtain ⟨E, d, rfl⟩ := bExt hb; clear hb; rw [← HS.out]; simp only [mvV]; go_wp2; go_roundw; (case rel => exact ⟨n + 1, _, _, by go_num, by omega, by omega, HN, by simp only [extW_extW, mvC]; rfl⟩); case measure => (simp [intOf]; omega))
          · clear hne
            (go_wp2_with fail; refine (HB.out _ hg hk hpT HBD.out (by omega) (by omega)).mono ?_; rintro r w1 ⟨rfl, hb⟩; obtain ⟨E, d, rfl⟩ := bExt hb; clear hb; rw [← HS.out]; simp only [mvV]; go_wp2; go_roundw; (case rel => exact ⟨n + 1, _, _, by go_num, by omega, by omega, HN, by simp only [extW_extW, mvC]; rfl⟩); case measure => (simp [intOf]; omega))
      · have HD : Hid (ordN g ⟨k,ff,(x,y)⟩ = 0) := Lib.hid (ordN_none (by
          have h := HM.out
          rcases hg with rfl | rfl
          · have h4 := Z.pw_four HO.out (fun m a b => h m a (by simp at hlt; omega))
            intro m m1 m2
            by_cases e5 : m = 5
            · subst e5; exact h4.1
            · by_cases e6 : m = 6
              · subst e6; exact h4.2
              · exact h m m1 (by simp at hlt; omega)
          · intro m m1 m2; exact h m m1 (by simp at hlt; omega)))
        go_wp2
        go_ret2
        exact ⟨by rw [HV.out, HD.out]; rfl, (by repeat (first | exact Below.refl _ _ | refine Below.drew ?_ | refine below_drewN ?_ _ | refine Below.alloc ?_ (by first | exact Nat.le_refl _ | (simp; done) | (simp; omega) | omega) _ | refine Below.setCell ?_ (by first | exact Nat.le_refl _ | (simp; done) | (simp; omega) | omega) _ | refine bExtW ?_ (by first | exact Nat.le_refl _ | (simp; done) | (simp; omega) | omega) | refine Below.trans ?_ (Below.mono (by assumption) (by first | exact Nat.le_refl _ | (simp; done) | (simp; omega) | omega))))⟩
  · have hb : (wE g t x y != 0) = true := by simpa using he
    have HT : Hid (orV g t ff x y = .tuple #[.int .i64 (0), .int .i64 (wE g t x y)]) := Lib.hid (by simp [orV, he])
    clear he
    go_enter Try.func28, Try.ntmps28
    (go_wp2_with fail; refine (HWF.out _ hw ht h0 h1).mono ?_; rintro r w1 ⟨rfl, hb⟩; obtain ⟨E, d, rfl⟩ := bExt hb; clear hb)
    go_wp2
    go_ret2
    exact ⟨by rw [HT.out]; rfl, (by repeat (first | exact Below.refl _ _ | refine Below.drew ?_ | refine below_drewN ?_ _ | refine Below.alloc ?_ (by first | exact Nat.le_refl _ | (simp; done) | (simp; omega) | omega) _ | refine Below.setCell ?_ (by first | exact Nat.le_refl _ | (simp; done) | (simp; omega) | omega) _ | refine bExtW ?_ (by first | exact Nat.le_refl _ | (simp; done) | (simp; omega) | omega) | refine Below.trans ?_ (Below.mono (by assumption) (by first | exact Nat.le_refl _ | (simp; done) | (simp; omega) | omega))))⟩
end Go.Proofs.Ytnjheiiohfhckaa
