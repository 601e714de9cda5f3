/- Lemmas and contracts of functions (what each call returns, and that it changes nothing that was there) that the proof of a law of this seat uses; each lemma states its own conditions. -/
import Derived.Test.YtnjheiiohfhckaaExt
namespace Go.Proofs.Ytnjheiiohfhckaa
open Go.RowKit
set_option linter.unusedVariables false
set_option linter.unusedSimpArgs false
def mx4 (a b c d : Int) : Int := max (max (max a b) c) d
@[go_sem] theorem run_max4 (ts : Array TypeId) (t : TypeId) (a b c d : Int) (w : World) : (Builtin.max_ ts t #[.int .i64 a, .int .i64 b, .int .i64 c, .int .i64 d]).run Try.prog w = .ok (.int .i64 (mx4 a b c d)) w := by
  have hm : ∀ x y : Int, max x y = if y > x then y else x := by intro x y; split <;> omega
  unfold mx4
  rw [hm (max (max a b) c), hm (max a b), hm a b]
  simp [Builtin.max_, Builtin.max2, go_sem]
theorem mx4_good (x y : Int)  (hg : -1048576 ≤ x ∧ x ≤ 1048576 ∧ -1048576 ≤ y ∧ y ≤ 1048576) :
   mx4 x (wrap64 (-x)) y (wrap64 (-y)) ≤ 1048576 ∧ -1048576 ≤ (if y < x then y else x) := by
  unfold mx4 wrap64; omega
theorem mx4_bad (x y : Int) (wx : -9223372036854775808 ≤ x ∧ x ≤ 9223372036854775807) (wy : -9223372036854775808 ≤ y ∧ y ≤ 9223372036854775807) (hg : ¬ (-1048576 ≤ x ∧ x ≤ 1048576 ∧ -1048576 ≤ y ∧ y ≤ 1048576)) (h : mx4 x (wrap64 (-x)) y (wrap64 (-y)) ≤ 1048576) :
   (if y < x then y else x) < -1048576 := by
  revert h; unfold mx4 wrap64; omega
def smB (x y : Int) : Bool := decide (-1048576 ≤ x ∧ x ≤ 1048576 ∧ -1048576 ≤ y ∧ y ≤ 1048576)
def smL (l : List (Int × Int)) : Bool := l.all fun p => smB p.1 p.2
theorem smL_take_succ (l : List (Int × Int)) (k : Nat) (h : k < l.length) : smL (l.take (k+1)) = (smL (l.take k) && smB (l.getD k (0,0)).1 (l.getD k (0,0)).2) := by
  unfold smL; rw [List.take_succ_eq_append_getElem h, List.all_append]; simp [List.getD, h]
theorem smL_of_take (l : List (Int × Int)) (k : Nat) (h : smL (l.take k) = false) : smL l = false := by
  unfold smL at *
  rw [← List.take_append_drop k l, List.all_append, h]; rfl
set_option maxHeartbeats 400000 in
theorem small_any (b n cap : Nat) (l : List (Int × Int)) (w : World) (hn : l.length = n) (hb : b < w.heap.size) (hc : ∀ i, i < n → w.cell? ⟨b, i * 2, none⟩ = some (.int .i64 ((l.getD i (0,0)).1)) ∧ w.cell? ⟨b, i * 2 + 1, none⟩ = some (.int .i64 ((l.getD i (0,0)).2)))
   (hwf : ∀ i, i < n → (-9223372036854775808 ≤ (l.getD i (0,0)).1 ∧ (l.getD i (0,0)).1 ≤ 9223372036854775807) ∧ (-9223372036854775808 ≤ (l.getD i (0,0)).2 ∧ (l.getD i (0,0)).2 ≤ 9223372036854775807))
   (hz : n < 1000) :
    Calls Try.prog 48 #[.slice (some ⟨b, 0, none⟩) n cap] w fun e w' =>
      e = .returned (.bool (smL l)) ∧ Below w.heap.size w w' := by
  go_enter Try.func48, Try.ntmps48
  have HN := Lib.hid hn
  clear hn
  go_wp2
  go_loopw [7] (fun i wr => ∃ k : Nat, k ≤ n ∧ i = .int .i64 k ∧ smL (l.take k) = true ∧ Below w.heap.size w wr) (fun i _ => n - (intOf i).toNat)
  case atStart => exact ⟨0, Nat.zero_le _, rfl, rfl, Below.refl _ _⟩
  case round =>
    obtain ⟨k, hk, rfl, hs, hbl⟩ := hrel
    have HS := Lib.hid hs
    clear hs
    by_cases hlt : k < n
    · obtain ⟨c0, c1⟩ := hc k hlt
      obtain ⟨x0, x1⟩ := hwf k hlt
      rw [← hbl.cell (p := ⟨b, k * 2, none⟩) hb] at c0
      rw [← hbl.cell (p := ⟨b, k * 2 + 1, none⟩) hb] at c1
      have HT := Lib.hid (smL_take_succ l k (by rw [HN.out]; exact hlt))
      have hsz := hbl.size
      clear hc hwf
      obtain ⟨x, hx⟩ : ∃ x, x = (l.getD k (0,0)).1 := ⟨_, rfl⟩
      obtain ⟨y, hy⟩ : ∃ y, y = (l.getD k (0,0)).2 := ⟨_, rfl⟩
      rw [← hx] at c0 x0 HT
      rw [← hy] at c1 x1 HT
      clear hx hy
      rcases Decidable.em (-1048576 ≤ x ∧ x ≤ 1048576 ∧ -1048576 ≤ y ∧ y ≤ 1048576) with hg | hg
      · obtain ⟨g1, g2⟩ := mx4_good x y hg
        have HG := Lib.hid (show smB x y = true by simp [smB]; omega)
        clear x0 x1 hg
        go_wp2
        all_goals
          go_roundw
          case rel => exact ⟨k + 1, by omega, by go_num, by rw [HT.out, HS.out, HG.out]; rfl, hbl.alloc hsz _⟩
          case measure => simp [intOf]; omega
      · have HG := Lib.hid (show smB x y = false by simp [smB]; omega)
        have HE : Hid (smL l = false) := Lib.hid (smL_of_take l (k+1) (by rw [HT.out, HG.out]; simp))
        by_cases h1 : 1048576 < mx4 x (wrap64 (-x)) y (wrap64 (-y))
        · clear x0 x1 hg
          go_wp2
          go_ret
          exact ⟨by rw [HE.out]; rfl, hbl.alloc hsz _⟩
        · have h1' : mx4 x (wrap64 (-x)) y (wrap64 (-y)) ≤ 1048576 := by omega
          have h2 := mx4_bad x y x0 x1 hg h1'
          clear x0 x1 hg h1
          go_wp2
          all_goals
            go_ret
            exact ⟨by rw [HE.out]; rfl, hbl.alloc hsz _⟩
    · have hkn : k = n := by omega
      have HE : Hid (smL l = true) := by
        have := HS.out
        rw [hkn, ← HN.out, List.take_length] at this
        exact Lib.hid this
      clear hkn
      go_wp2
      go_ret
      exact ⟨by rw [HE.out]; rfl, hbl⟩
end Go.Proofs.Ytnjheiiohfhckaa
