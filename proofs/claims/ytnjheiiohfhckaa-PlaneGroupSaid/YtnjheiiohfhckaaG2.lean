/- Lemmas and contracts of functions (what each call returns, and that it changes nothing that was there) that the proof of a law of this seat uses; each lemma states its own conditions. -/
import Derived.Test.YtnjheiiohfhckaaG1
import Derived.Deep.OwnRows
namespace Go.Proofs.Ytnjheiiohfhckaa
open Go.RowKit
set_option linter.unusedVariables false
set_option linter.unusedSimpArgs false
theorem allocPt (w : World) : Sem.run Try.prog (Instr.alloc 32 true (.tuple #[])) w = .ok (.pointer (some ⟨w.heap.size, 0, none⟩)) (w.alloc (.cells #[.int .i64 (0), .int .i64 (0)] 32)) := by kernel_rfl
set_option maxRecDepth 100000 in
set_option maxHeartbeats 8000000 in
theorem over_any (g x y x2 y2 : Int) (w : World) (hg : g = 4 ∨ g = 6) (b1 : -10000000 ≤ x ∧ x ≤ 10000000) (b2 : -10000000 ≤ y ∧ y ≤ 10000000) (b3 : -10000000 ≤ x2 ∧ x2 ≤ 10000000) (b4 : -10000000 ≤ y2 ∧ y2 ≤ 10000000) (hb : (x2, y2) ≠ ((0, 0) : Z.Pt)) :
    Calls Try.prog 35 #[.int .i64 (g), .agg #[.int .i64 (x), .int .i64 (y)], .agg #[.int .i64 (x2), .int .i64 (y2)]] w fun e w' => e = .returned (.agg #[.int .i64 ((Z.over g (x,y) (x2,y2)).1), .int .i64 ((Z.over g (x,y) (x2,y2)).2)]) ∧ Below w.heap.size w w' := by
  have hn := Z.nrm_pos hg hb
  have hn2 := Z.nrm_bd hg (a := (x2,y2)) (B := 10000000) b3 b4
  have hm : -20000000 ≤ miX g x2 y2 ∧ miX g x2 y2 ≤ 20000000 := by unfold miX; split <;> omega
  have m1 := mul_bd b1.1 b1.2 hm.1 hm.2
  have m2 := mul_bd (b := -y2) b2.1 b2.2 (B := 10000000) (by omega) (by omega)
  have m3 := mul_bd (b := -y2) b1.1 b1.2 (B := 10000000) (by omega) (by omega)
  have m4 := mul_bd b2.1 b2.2 hm.1 hm.2
  have z1 : -1000000000000000 ≤ tmX x y (miX g x2 y2) (-y2) ∧ tmX x y (miX g x2 y2) (-y2) ≤ 1000000000000000 := by unfold tmX; omega
  have z2 : -1000000000000000 ≤ tmY g x y (miX g x2 y2) (-y2) ∧ tmY g x y (miX g x2 y2) (-y2) ≤ 1000000000000000 := by unfold tmY; split <;> omega
  have HO : Hid (Z.over g (x,y) (x2,y2) = (Z.near (tmX x y (miX g x2 y2) (-y2)) (tmX x2 y2 (miX g x2 y2) (-y2)), Z.near (tmY g x y (miX g x2 y2) (-y2)) (tmX x2 y2 (miX g x2 y2) (-y2)))) := Lib.hid rfl
  have hn' : 1 ≤ tmX x2 y2 (miX g x2 y2) (-y2) := hn
  have hn2' : tmX x2 y2 (miX g x2 y2) (-y2) ≤ 3 * (10000000 * 10000000) := hn2
  clear hn hn2 m1 m2 m3 m4 hb
  go_enter Try.func35, Try.ntmps35
  (go_wp2_with fail; refine (norm_any g x2 y2 _ (by omega) (by omega)).mono ?_; rintro r w1 ⟨rfl, hb⟩; obtain ⟨E, d, rfl⟩ := bExt hb; clear hb)
  go_wp2_with fail
  (refine wp_region_ext_alloc 6 32 (some 8) _ (by kernel_rfl) (by kernel_rfl) rfl allocPt ?_; simp only [List.take_succ_cons, List.take_zero, List.drop_succ_cons, List.drop_zero]; (repeat (first | (refine wpV_step (fun K hK => ?_); go_simp; first | (refine hK _ ?_; clear hK K) | (apply Exists.intro; refine ⟨fun _ _ => ?_, hK _ ?_⟩; (first | (go_at_call 51; exact vOf (mirrored_any g x2 y2 _ (by omega) (by omega))) | (go_at_call 33; exact vOf (times_any g x y _ _ _ (by omega) (by omega) (by omega) (by omega)))); clear hK K)))); refine wpV_nil ?_; intro E d E' d'; go_simp)
  go_wp2_with fail
  (refine wp_region_ext_tail 9 (by kernel_rfl) (by kernel_rfl) ?_; simp only [List.take_succ_cons, List.take_zero, List.drop_succ_cons, List.drop_zero]; (repeat (first | (refine ext_step (fun K hK => ?_); go_simp; first | (refine hK _ ?_; clear hK K) | (apply Exists.intro; refine ⟨fun _ _ => ?_, hK _ ?_⟩; (go_at_call 52; exact extOfSame (near_any _ _ _ (by omega) (by omega) (by omega))); clear hK K)))); refine wpQuiet_nil ?_; intro E d)
  go_wp2
  refine bodyPost_ret (v := .agg #[.int .i64 (Z.near (tmX x y (miX g x2 y2) (-y2)) (tmX x2 y2 (miX g x2 y2) (-y2))), .int .i64 (Z.near (tmY g x y (miX g x2 y2) (-y2)) (tmX x2 y2 (miX g x2 y2) (-y2)))]) (by simp [results, Try.results35, go_sem]) rfl ⟨by rw [HO.out], (by repeat (first | exact Below.refl _ _ | refine Below.drew ?_ | refine below_drewN ?_ _ | refine Below.alloc ?_ (by first | exact Nat.le_refl _ | (simp; done) | (simp; omega) | omega) _ | refine Below.setCell ?_ (by first | exact Nat.le_refl _ | (simp; done) | (simp; omega) | omega) _ | refine bExtW ?_ (by first | exact Nat.le_refl _ | (simp; done) | (simp; omega) | omega) | refine Below.trans ?_ (Below.mono (by assumption) (by first | exact Nat.le_refl _ | (simp; done) | (simp; omega) | omega))))⟩
theorem tmY_one (g x y : Int) (hg : g = 4 ∨ g = 6) : tmX x y 0 1 = (Z.turn g (x,y)).1 ∧ tmY g x y 0 1 = (Z.turn g (x,y)).2 := by
  rcases hg with rfl | rfl <;> simp [tmX, tmY, Z.turn]
/-- How large a point is behind so many turns. -/
theorem tn_bd (g : Int) (n : Nat) (p : Z.Pt) (B : Int) (h1 : -B ≤ p.1 ∧ p.1 ≤ B) (h2 : -B ≤ p.2 ∧ p.2 ≤ B) : (-(2^n * B) ≤ (Z.tn g n p).1 ∧ (Z.tn g n p).1 ≤ 2^n * B) ∧ (-(2^n * B) ≤ (Z.tn g n p).2 ∧ (Z.tn g n p).2 ≤ 2^n * B) := by
  induction n with
  | zero => simp [Z.tn]; omega
  | succ n ih =>
    have e : (2:Int)^(n+1) * B = 2 * (2^n * B) := by rw [Int.pow_succ]; grind
    have hB : 0 ≤ 2^n * B := by omega
    rw [e]
    simp only [Z.tn, Z.turn]
    split <;> omega
set_option maxRecDepth 100000 in
set_option maxHeartbeats 8000000 in
theorem turned_any (g x y : Int) (n : Nat) (w : World) (hg : g = 4 ∨ g = 6) (hn : n ≤ 6) (b1 : -10000000 ≤ x ∧ x ≤ 10000000) (b2 : -10000000 ≤ y ∧ y ≤ 10000000) :
    Calls Try.prog 36 #[.int .i64 (g), .agg #[.int .i64 (x), .int .i64 (y)], .int .i64 (n)] w fun e w' => e = .returned (.agg #[.int .i64 ((Z.tn g n (x,y)).1), .int .i64 ((Z.tn g n (x,y)).2)]) ∧ Below w.heap.size w w' := by
  have hbd : ∀ k : Nat, k ≤ n → (-1073741824 ≤ (Z.tn g k (x,y)).1 ∧ (Z.tn g k (x,y)).1 ≤ 1073741824) ∧ (-1073741824 ≤ (Z.tn g k (x,y)).2 ∧ (Z.tn g k (x,y)).2 ≤ 1073741824) := by
    intro k hk
    have h := tn_bd g k (x,y) 10000000 b1 b2
    have h2 : (2:Int)^k ≤ 64 := by
      have : k = 0 ∨ k = 1 ∨ k = 2 ∨ k = 3 ∨ k = 4 ∨ k = 5 ∨ k = 6 := by omega
      rcases this with rfl | rfl | rfl | rfl | rfl | rfl | rfl <;> decide
    omega
  have HB := Lib.hid hbd
  clear hbd
  go_enter Try.func36, Try.ntmps36
  go_wp2_with fail
  go_loopw [8] (fun i wr => ∃ (k : Nat) (E : Array Obj) (d : Nat), k ≤ n ∧ i = .int .i64 k ∧ wr = extW ((w.alloc (.cells #[.int .i64 ((Z.tn g k (x,y)).1), .int .i64 ((Z.tn g k (x,y)).2)] 32)).alloc (.cells #[.int .i64 (0), .int .i64 (0)] 32)) E d) (fun i _ => n - (intOf i).toNat)
  case atStart => exact ⟨0, #[], _, Nat.zero_le _, rfl, extW_zero _⟩
  case round =>
    obtain ⟨k, E, d, hk, rfl, rfl⟩ := hrel
    obtain ⟨hb1, hb2⟩ := HB.out k hk
    have H1 := Lib.hid (tmY_one g (Z.tn g k (x,y)).1 (Z.tn g k (x,y)).2 hg)
    have HT : Hid (Z.tn g (k+1) (x,y) = Z.turn g (Z.tn g k (x,y))) := Lib.hid rfl
    generalize hp : Z.tn g k (x,y) = p at *
    have HP := Lib.hid hp
    clear hp
    by_cases hlt : k < n
    · go_wp2_with fail
      refine (times_any g p.1 p.2 0 1 _ (by omega) (by omega) (by omega) (by omega)).mono ?_
      rintro r w1 ⟨rfl, hb⟩
      obtain ⟨E', d', rfl⟩ := bExt hb
      clear hb
      rw [H1.out.1, H1.out.2]
      go_wp2
      go_roundw
      case rel => exact ⟨k + 1, E ++ E', d', by omega, by go_num, by rw [HT.out, extW_extW]⟩
      case measure => simp [intOf]; omega
    · have hkn : k = n := by omega
      subst hkn
      go_wp2
      refine bodyPost_ret (v := .agg #[.int .i64 (p.1), .int .i64 (p.2)]) (by simp [results, Try.results36, go_sem]) rfl ⟨by rw [HP.out], (by repeat (first | exact Below.refl _ _ | refine Below.drew ?_ | refine below_drewN ?_ _ | refine Below.alloc ?_ (by first | exact Nat.le_refl _ | (simp; done) | (simp; omega) | omega) _ | refine Below.setCell ?_ (by first | exact Nat.le_refl _ | (simp; done) | (simp; omega) | omega) _ | refine bExtW ?_ (by first | exact Nat.le_refl _ | (simp; done) | (simp; omega) | omega) | refine Below.trans ?_ (Below.mono (by assumption) (by first | exact Nat.le_refl _ | (simp; done) | (simp; omega) | omega))))⟩
theorem turned1_any (g x y : Int) (w : World) (hg : g = 4 ∨ g = 6) (b1 : -10000000 ≤ x ∧ x ≤ 10000000) (b2 : -10000000 ≤ y ∧ y ≤ 10000000) :
    Calls Try.prog 36 #[.int .i64 (g), .agg #[.int .i64 (x), .int .i64 (y)], .int .i64 1] w fun e w' => e = .returned (.agg #[.int .i64 ((Z.turn g (x,y)).1), .int .i64 ((Z.turn g (x,y)).2)]) ∧ Below w.heap.size w w' :=
  turned_any g x y 1 w hg (by omega) b1 b2
end Go.Proofs.Ytnjheiiohfhckaa
