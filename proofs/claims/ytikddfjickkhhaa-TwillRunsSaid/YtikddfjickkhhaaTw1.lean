/- Lemmas and contracts of functions (what each call returns, and that it changes nothing that was there) that the proof of a law of this seat uses; each lemma states its own conditions. -/
import Derived.Test.YtikddfjickkhhaaNat
import Derived.Test.YtikddfjickkhhaaTwM
namespace Go.Proofs.Ytikddfjickkhhaa
open Go.RowKit
set_option linter.unusedVariables false
set_option linter.unusedSimpArgs false
open Tw
set_option maxRecDepth 100000 in
set_option maxHeartbeats 8000000 in
theorem gcd_any (a b : Nat) (w : World) (ha : a ≤ 1000000) (hb : b ≤ 1000000) :
    Calls Try.prog 69 #[.int .i64 (a), .int .i64 (b)] w fun e w' => e = .returned (.int .i64 (Nat.gcd a b)) ∧ Below w.heap.size w w' := by
  go_enter Try.func69, Try.ntmps69
  go_wp2_with fail
  go_loopw [0, 1] (fun x y wr => ∃ p q : Nat, x = .int .i64 p ∧ y = .int .i64 q ∧ Hid (Nat.gcd p q = Nat.gcd a b) ∧ p ≤ 1000000 ∧ q ≤ 1000000 ∧ Below w.heap.size w wr) (fun _ y _ => (intOf y).toNat)
  case atStart => exact ⟨a, b, rfl, rfl, Lib.hid rfl, ha, hb, Below.refl _ _⟩
  case round =>
    obtain ⟨p, q, rfl, rfl, HG, hp, hq, hbel⟩ := hrel
    have HB := Lib.hid hbel
    clear hbel
    by_cases hq0 : q = 0
    · subst hq0
      go_wp2
      go_ret
      exact ⟨by rw [← HG.out, Nat.gcd_zero_right]; rfl, HB.out⟩
    · have h1 : ((q : Int) != 0) = true := by simpa using hq0
      have h2 : ((q : Int) == 0) = false := by simpa using hq0
      have hq1 : (q : Int) ≠ 0 := by omega
      have hmod : (p : Int).tmod (q : Int) = ((p % q : Nat) : Int) := by rw [Int.tmod_eq_emod_of_nonneg (by omega)]; rfl
      have HG2 : Hid (Nat.gcd q (p % q) = Nat.gcd a b) := Lib.hid (by rw [← HG.out, Nat.gcd_comm p q, Nat.gcd_rec q p, Nat.gcd_comm])
      have hml : p % q < q := Nat.mod_lt _ (by omega)
      generalize p % q = r at *
      go_wp2_with fail
      (refine wp_region_ext (by kernel_rfl) (by kernel_rfl) ?_; (repeat (first | ((with_reducible refine ext_step (fun K hK => ?_)); go_simp; first | (refine hK _ ?_; clear hK K) | (apply Exists.intro; refine ⟨fun _ _ => ?_, hK _ ?_⟩; fail; clear hK K)))); refine wpQuiet_nil ?_; intro E d)
      go_wp2
      go_roundw
      case rel => exact ⟨q, r, rfl, by first | rfl | go_num, HG2, hq, by omega, bExtW HB.out HB.out.size⟩
      case measure => simp [intOf]; omega
/-- May a satin of n ends be moved by k? -/
def mvP (n k : Nat) : Bool := decide (2 ≤ k) && (Nat.gcd n k == 1)
/-- The moves of satins of n ends. -/
def movesL (n : Nat) : List Nat := (List.range (max 2 (n - 1))).filter (mvP n)
theorem movesL_len (n : Nat) (hn : n ≤ 64) : (movesL n).length ≤ 64 := by
  unfold movesL
  have := List.length_filter_le (mvP n) (List.range (max 2 (n - 1)))
  simp at this
  omega
def MovesPost (L : List Nat) (w : World) (r : Ending) (w' : World) : Prop :=
  ∃ A c, r = .returned (.tuple #[.slice A L.length c, .int .i64 (0)]) ∧ IsInts w' A L.length (natI L) ∧ Below w.heap.size w w'
set_option maxRecDepth 100000 in
set_option maxHeartbeats 8000000 in
theorem Moves_bad (n : Int) (w : World) (h0 : (-9223372036854775808 ≤ n ∧ n ≤ 9223372036854775807)) (h : n < 1 ∨ 64 < n) :
    Calls Try.prog 34 #[.int .i64 (n)] w fun e w' => e = .returned (.tuple #[.slice none 0 0, .int .i64 (3)]) ∧ Below w.heap.size w w' := by
  rcases h with h | h
  · go_enter Try.func34, Try.ntmps34
    go_wp2
    go_ret2
    exact ⟨rfl, (by repeat (first | exact Below.refl _ _ | refine Below.drew ?_ | refine below_drewN ?_ _ | refine Below.alloc ?_ (by first | exact Nat.le_refl _ | (simp; done) | (simp; omega) | omega) _ | refine Below.setCell ?_ (by first | exact Nat.le_refl _ | (simp; done) | (simp; omega) | omega) _ | refine bExtW ?_ (by first | exact Nat.le_refl _ | (simp; done) | (simp; omega) | omega) | refine Below.trans ?_ (Below.mono (by assumption) (by first | exact Nat.le_refl _ | (simp; done) | (simp; omega) | omega))))⟩
  · have h' : ¬ n < 1 := by omega
    go_enter Try.func34, Try.ntmps34
    go_wp2
    go_ret2
    exact ⟨rfl, (by repeat (first | exact Below.refl _ _ | refine Below.drew ?_ | refine below_drewN ?_ _ | refine Below.alloc ?_ (by first | exact Nat.le_refl _ | (simp; done) | (simp; omega) | omega) _ | refine Below.setCell ?_ (by first | exact Nat.le_refl _ | (simp; done) | (simp; omega) | omega) _ | refine bExtW ?_ (by first | exact Nat.le_refl _ | (simp; done) | (simp; omega) | omega) | refine Below.trans ?_ (Below.mono (by assumption) (by first | exact Nat.le_refl _ | (simp; done) | (simp; omega) | omega))))⟩
set_option maxRecDepth 100000 in
set_option maxHeartbeats 8000000 in
theorem Moves_ok (n : Nat) (w : World) (h1 : 1 ≤ n) (h2 : n ≤ 64) :
    Calls Try.prog 34 #[.int .i64 (n)] w (MovesPost (movesL n) w) := by
  go_enter Try.func34, Try.ntmps34
  go_wp2_with fail
  go_loopw [5, 4] (fun i v wr => ∃ k : Nat, 2 ≤ k ∧ (k ≤ 2 ∨ k + 1 ≤ n) ∧ i = .int .i64 k ∧ wr.ownsRow w.heap.size 3 1 v ((List.range k).filter (mvP n)).length (natV ((List.range k).filter (mvP n))) ∧ Below w.heap.size w wr) (fun i _ _ => 100 - (intOf i).toNat)
  case atStart => exact ⟨2, by omega, by omega, rfl, by rw [show (List.range 2).filter (mvP n) = [] by simp [List.range, List.range.loop, mvP]]; exact World.ownsRow_nil _ _ _ _, Below.refl _ _⟩
  case round =>
    obtain ⟨k, hk2, hk, rfl, hown, hbel⟩ := hrel
    have hll : ((List.range k).filter (mvP n)).length ≤ k := by
      have := List.length_filter_le (mvP n) (List.range k)
      simpa using this
    by_cases hlt : k + 1 < n
    · have HF := Lib.hid (filter_snoc k (mvP n))
      have HO := Lib.hid hown
      have HB := Lib.hid hbel
      clear hown hbel
      generalize (List.range k).filter (mvP n) = L at *
      have HG := Lib.hid (fun w => gcd_any n k w (by omega) (by omega))
      by_cases hg : Nat.gcd n k = 1
      · have HP : Hid (mvP n k = true) := Lib.hid (by simp [mvP, hk2, hg])
        have HGE := Lib.hid hg
        clear hg
        go_wp2_with fail
        refine (HG.out _).mono ?_
        rintro r w1 ⟨rfl, hb⟩
        rw [HGE.out]
        have HO1 := Lib.hid (ownBelow HO.out hb)
        have hsz : w.heap.size ≤ w1.heap.size := Nat.le_trans HB.out.size hb.size
        have HB1 := Lib.hid (HB.out.trans (hb.mono HB.out.size))
        clear hb
        go_wp2_with (at_builtin; refine wpApp okInts' rfl (.tmp 22) (.tmp 24) rfl w.heap.size _ _ _ #[.int .i64 k] rfl HO1.out rfl rfl ?_ (by omega) (by omega) hsz ?_)
        · simp [Value.oneCell']
        intro v' w2 hown2 hb2
        rw [← natV_snoc] at hown2
        have HB2 := Lib.hid (HB1.out.trans hb2)
        have HO2 : Hid (w2.ownsRow w.heap.size 3 1 v' (L ++ [k]).length (natV (L ++ [k]))) := Lib.hid (by rw [List.length_append]; exact hown2)
        clear hown2 hb2
        go_wp2
        go_roundw
        case rel => exact ⟨k + 1, by omega, by omega, by go_num, by rw [HF.out, HP.out]; exact HO2.out, HB2.out⟩
        case measure => simp [intOf]; omega
      · have HP : Hid (mvP n k = false) := Lib.hid (by simp [mvP, hg])
        have hgb : (((Nat.gcd n k : Nat) : Int) == 1) = false := by simp; omega
        have HGN := Lib.hid hg
        clear hg
        go_wp2_with fail
        refine (HG.out _).mono ?_
        rintro r w1 ⟨rfl, hb⟩
        have HO1 := Lib.hid (ownBelow HO.out hb)
        have HB1 := Lib.hid (HB.out.trans (hb.mono HB.out.size))
        clear hb
        generalize Nat.gcd n k = G at *
        go_wp2
        go_roundw
        case rel => exact ⟨k + 1, by omega, by omega, by go_num, by rw [HF.out, HP.out]; simpa using HO1.out, HB1.out⟩
        case measure => simp [intOf]; omega
    · have hke : k = max 2 (n - 1) := by omega
      have HM : Hid (movesL n = (List.range k).filter (mvP n)) := Lib.hid (by unfold movesL; rw [← hke])
      obtain ⟨A, c, rfl, hI⟩ := IsInts.of_nats hown
      have HI := Lib.hid hI
      have HB := Lib.hid hbel
      clear hown hbel hI hke
      generalize (List.range k).filter (mvP n) = L at *
      go_wp2
      go_ret2
      unfold MovesPost
      rw [HM.out]
      exact ⟨A, c, rfl, HI.out, HB.out⟩
end Go.Proofs.Ytikddfjickkhhaa
