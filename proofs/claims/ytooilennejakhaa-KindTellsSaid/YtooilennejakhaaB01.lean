/- Lemmas and contracts of functions (what each call returns, and that it changes nothing that was there) that the proof of a law of this seat uses; each lemma states its own conditions. -/
import Derived.Test.YtooilennejakhaaRows
import Derived.WalkKit
import Derived.WalkSpells
import Derived.WalkLawsBesides
import Derived.Lib.Hide
import Derived.Deep.RegionHeld3
import Derived.Deep.QuietTactic
import Derived.BigQuiet
namespace Go.Proofs.Ytooilennejakhaa
open Go.RowKit
set_option linter.unusedVariables false
set_option linter.unusedSimpArgs false
def extW (W : World) (E : Array Obj) (d : Nat) : World := { W with heap := W.heap ++ E, drawn := d }
section
variable {W : World} {E : Array Obj} {d : Nat}
@[go_sem, simp] theorem size_extW : (extW W E d).heap.size = W.heap.size + E.size := by simp [extW]
@[go_sem, simp] theorem tape_extW : (extW W E d).tape = W.tape := rfl
@[go_sem, simp] theorem extW_drew : (extW W E d).drew = extW W E (d+1) := rfl
@[go_sem, simp] theorem drew_extW : extW W.drew E d = extW W E d := rfl
@[go_sem, simp] theorem drewN_extW (n : Nat) : extW (W.drewN n) E d = extW W E d := rfl
@[go_sem, simp] theorem extW_drewN (n : Nat) : (extW W E d).drewN n = extW W E (d+n) := rfl
theorem heap_extW (n : Nat) (hn : n < W.heap.size) : (extW W E d).heap[n]? = W.heap[n]? := by
  simp [extW, Array.getElem?_append, hn]
theorem bExt {W w1 : World} (h : Below W.heap.size W w1) : ∃ E d, w1 = extW W E d := by
  refine ⟨w1.heap.extract W.heap.size w1.heap.size, w1.drawn, ?_⟩
  have hh : w1.heap = W.heap ++ w1.heap.extract W.heap.size w1.heap.size := by
    apply Array.ext_getElem?
    intro k
    have := h.size
    rcases Nat.lt_or_ge k W.heap.size with hk | hk
    · rw [h.block k hk, Array.getElem?_append_left hk]
    · rw [Array.getElem?_append_right hk, Array.getElem?_extract]
      simp only [Nat.min_self]
      split
      · congr 1; omega
      · rw [Array.getElem?_eq_none (by omega)]
  obtain ⟨h1, t1, d1, o1, p1⟩ := w1
  have ho := h.os
  have ht := h.tape
  have hp := h.output
  simp only at ho ht hp hh
  subst ho ht hp
  unfold extW
  simp only
  rw [← hh]
theorem bExtW {B : Nat} {a : World} (h : Below B a W) (hB : B ≤ W.heap.size) : Below B a (extW W E d) :=
  h.trans ⟨rfl, rfl, rfl, by simp, fun k hk => heap_extW k (by omega)⟩
end
/-- Block n lies in W. -/
def LtW (n : Nat) (W : World) : Prop := n < W.heap.size
theorem LtW.lt {n : Nat} {W : World} (h : LtW n W) : n < W.heap.size := h
section
variable {W : World} {E : Array Obj} {d : Nat}
@[go_sem] theorem LtW_alloc (n : Nat) (o : Obj) : LtW n (W.alloc o) ↔ (n = W.heap.size ∨ LtW n W) := by
  unfold LtW; rw [World.size_alloc]; omega
@[go_sem] theorem LtW_drew (n : Nat) : LtW n W.drew ↔ LtW n W := Iff.rfl
@[go_sem] theorem LtW_drewN (n k : Nat) : LtW n (W.drewN k) ↔ LtW n W := Iff.rfl
@[go_sem] theorem LtW_setCell (n : Nat) (a : Addr) (v : Value) : LtW n (W.setCell a v) ↔ LtW n W := by
  unfold LtW; rw [World.size_setCell]
@[go_sem] theorem LtW_extW (n : Nat) : LtW n (extW W E d) ↔ (LtW n W ∨ (W.heap.size ≤ n ∧ n < W.heap.size + E.size)) := by
  unfold LtW; rw [size_extW]; omega
@[go_sem] theorem cell?_extW (n i : Nat) (hn : LtW n W) : (extW W E d).cell? ⟨n, i, none⟩ = W.cell? ⟨n, i, none⟩ :=
  World.cell?_of_block (w := W) (heap_extW n hn)
@[go_sem] theorem frozen?_extW (n i : Nat) (hn : LtW n W) : (extW W E d).frozen? ⟨n, i, none⟩ = W.frozen? ⟨n, i, none⟩ :=
  World.frozen?_of_block (w := W) (heap_extW n hn)
@[go_sem] theorem shape?_extW (n : Nat) (hn : LtW n W) : (extW W E d).shape? n = W.shape? n := by
  simp [World.shape?, heap_extW n hn]
@[go_sem] theorem setCell_extW (n i : Nat) (v : Value) (hn : LtW n W) : (extW W E d).setCell ⟨n, i, none⟩ v = extW (W.setCell ⟨n, i, none⟩ v) E d := by
  have hn := hn.lt
  unfold World.setCell extW
  congr 1
  apply Array.ext_getElem?
  intro k
  simp only [Array.getElem?_modify, Array.getElem?_append, Array.size_modify]
  by_cases hk : k = n
  · subst hk; simp [hn]
  · simp [Ne.symm hk]
@[go_sem] theorem setCell_alloc_LtW (o : Obj) (n i : Nat) (v : Value) (hn : LtW n W) : (W.alloc o).setCell ⟨n, i, none⟩ v = (W.setCell ⟨n, i, none⟩ v).alloc o := World.setCell_alloc_past o n i v hn
@[go_sem] theorem cell?_alloc_LtW (o : Obj) (n i : Nat) (hn : LtW n W) : (W.alloc o).cell? ⟨n, i, none⟩ = W.cell? ⟨n, i, none⟩ := World.cell?_alloc_past o n i hn
@[go_sem] theorem frozen?_alloc_LtW (o : Obj) (n i : Nat) (hn : LtW n W) : (W.alloc o).frozen? ⟨n, i, none⟩ = W.frozen? ⟨n, i, none⟩ := World.frozen?_alloc_past o n i hn
theorem bCs {W w' : World} (hb : Below W.heap.size W w') {p : Addr} {v : Value} (h : W.cell? p = some v) : w'.cell? p = some v :=
  (hb.cell (World.block_lt_of_cell? W _ h)).trans h
end
end Go.Proofs.Ytooilennejakhaa

namespace Go.Proofs.Ytooilennejakhaa
open Go.RowKit
set_option linter.unusedVariables false
set_option linter.unusedSimpArgs false
def nmB (k : Int) : ByteArray := ([⟨#[112, 49]⟩, ⟨#[112, 50]⟩, ⟨#[112, 109]⟩, ⟨#[112, 103]⟩, ⟨#[99, 109]⟩, ⟨#[112, 109, 109]⟩, ⟨#[112, 109, 103]⟩, ⟨#[112, 103, 103]⟩, ⟨#[99, 109, 109]⟩, ⟨#[112, 52]⟩, ⟨#[112, 52, 109]⟩, ⟨#[112, 52, 103]⟩, ⟨#[112, 51]⟩, ⟨#[112, 51, 109, 49]⟩, ⟨#[112, 51, 49, 109]⟩, ⟨#[112, 54]⟩, ⟨#[112, 54, 109]⟩] : List ByteArray).getD (k.toNat - 1) ⟨#[]⟩
/-- What both say. -/
def nmV (k : Int) : Value := if k < 1 ∨ 17 < k then .tuple #[.string ⟨#[]⟩, .int .i64 1] else .tuple #[.string (nmB k), .int .i64 0]
set_option maxRecDepth 100000 in
set_option maxHeartbeats 8000000 in
theorem Name_any (k : Int) (w : World) : Calls Try.prog 15 #[.int .i64 (k)] w fun e w' => e = .returned (nmV k) ∧ Below w.heap.size w w' := by
  by_cases h : k < 1 ∨ 17 < k
  · skip
    by_cases h1 : k < 1
    · have d1 : decide (k < 1) = true := by simpa using h1
      go_enter Try.func15, Try.ntmps15
      go_wp2
      refine bodyPost_ret (v := .tuple #[.string ⟨#[]⟩, .int .i64 1]) (by simp [results, Try.results15, go_sem]) rfl ⟨by unfold nmV; rw [if_pos (.inl h1)], (by repeat (first | exact Below.refl _ _ | refine Below.drew ?_ | refine below_drewN ?_ _ | refine Below.alloc ?_ (by first | exact Nat.le_refl _ | (simp; done) | (simp; omega) | omega) _ | refine Below.setCell ?_ (by first | exact Nat.le_refl _ | (simp; done) | (simp; omega) | omega) _ | refine bExtW ?_ (by first | exact Nat.le_refl _ | (simp; done) | (simp; omega) | omega) | refine Below.trans ?_ (Below.mono (by assumption) (by first | exact Nat.le_refl _ | (simp; done) | (simp; omega) | omega))))⟩
    · have h2 : 17 < k := by omega
      have d1 : decide (k < 1) = false := by simpa using h1
      have d2 : decide (17 < k) = true := by simpa using h2
      go_enter Try.func15, Try.ntmps15
      go_wp2
      refine bodyPost_ret (v := .tuple #[.string ⟨#[]⟩, .int .i64 1]) (by simp [results, Try.results15, go_sem]) rfl ⟨by unfold nmV; rw [if_pos (.inr h2)], (by repeat (first | exact Below.refl _ _ | refine Below.drew ?_ | refine below_drewN ?_ _ | refine Below.alloc ?_ (by first | exact Nat.le_refl _ | (simp; done) | (simp; omega) | omega) _ | refine Below.setCell ?_ (by first | exact Nat.le_refl _ | (simp; done) | (simp; omega) | omega) _ | refine bExtW ?_ (by first | exact Nat.le_refl _ | (simp; done) | (simp; omega) | omega) | refine Below.trans ?_ (Below.mono (by assumption) (by first | exact Nat.le_refl _ | (simp; done) | (simp; omega) | omega))))⟩
  · skip
    have hK : k = 1 ∨ k = 2 ∨ k = 3 ∨ k = 4 ∨ k = 5 ∨ k = 6 ∨ k = 7 ∨ k = 8 ∨ k = 9 ∨ k = 10 ∨ k = 11 ∨ k = 12 ∨ k = 13 ∨ k = 14 ∨ k = 15 ∨ k = 16 ∨ k = 17 := by omega
    clear h
    rcases hK with rfl | rfl | rfl | rfl | rfl | rfl | rfl | rfl | rfl | rfl | rfl | rfl | rfl | rfl | rfl | rfl | rfl
    all_goals
      go_enter Try.func15, Try.ntmps15
      go_wp2
      refine bodyPost_ret (v := _) (by simp [results, Try.results15, go_sem, nmV, nmB]) rfl ⟨rfl, (by repeat (first | exact Below.refl _ _ | refine Below.drew ?_ | refine below_drewN ?_ _ | refine Below.alloc ?_ (by first | exact Nat.le_refl _ | (simp; done) | (simp; omega) | omega) _ | refine Below.setCell ?_ (by first | exact Nat.le_refl _ | (simp; done) | (simp; omega) | omega) _ | refine bExtW ?_ (by first | exact Nat.le_refl _ | (simp; done) | (simp; omega) | omega) | refine Below.trans ?_ (Below.mono (by assumption) (by first | exact Nat.le_refl _ | (simp; done) | (simp; omega) | omega))))⟩
set_option maxRecDepth 100000 in
set_option maxHeartbeats 8000000 in
theorem rName_any (k : Int) (w : World) : Calls Try.prog 16 #[.int .i64 (k)] w fun e w' => e = .returned (nmV k) ∧ Below w.heap.size w w' := by
  by_cases h : k < 1 ∨ 17 < k
  · skip
    by_cases h1 : k < 1
    · have d1 : decide (k < 1) = true := by simpa using h1
      go_enter Try.func16, Try.ntmps16
      go_wp2
      refine bodyPost_ret (v := .tuple #[.string ⟨#[]⟩, .int .i64 1]) (by simp [results, Try.results16, go_sem]) rfl ⟨by unfold nmV; rw [if_pos (.inl h1)], (by repeat (first | exact Below.refl _ _ | refine Below.drew ?_ | refine below_drewN ?_ _ | refine Below.alloc ?_ (by first | exact Nat.le_refl _ | (simp; done) | (simp; omega) | omega) _ | refine Below.setCell ?_ (by first | exact Nat.le_refl _ | (simp; done) | (simp; omega) | omega) _ | refine bExtW ?_ (by first | exact Nat.le_refl _ | (simp; done) | (simp; omega) | omega) | refine Below.trans ?_ (Below.mono (by assumption) (by first | exact Nat.le_refl _ | (simp; done) | (simp; omega) | omega))))⟩
    · have h2 : 17 < k := by omega
      have d1 : decide (k < 1) = false := by simpa using h1
      have d2 : decide (17 < k) = true := by simpa using h2
      go_enter Try.func16, Try.ntmps16
      go_wp2
      refine bodyPost_ret (v := .tuple #[.string ⟨#[]⟩, .int .i64 1]) (by simp [results, Try.results16, go_sem]) rfl ⟨by unfold nmV; rw [if_pos (.inr h2)], (by repeat (first | exact Below.refl _ _ | refine Below.drew ?_ | refine below_drewN ?_ _ | refine Below.alloc ?_ (by first | exact Nat.le_refl _ | (simp; done) | (simp; omega) | omega) _ | refine Below.setCell ?_ (by first | exact Nat.le_refl _ | (simp; done) | (simp; omega) | omega) _ | refine bExtW ?_ (by first | exact Nat.le_refl _ | (simp; done) | (simp; omega) | omega) | refine Below.trans ?_ (Below.mono (by assumption) (by first | exact Nat.le_refl _ | (simp; done) | (simp; omega) | omega))))⟩
  · skip
    have hK : k = 1 ∨ k = 2 ∨ k = 3 ∨ k = 4 ∨ k = 5 ∨ k = 6 ∨ k = 7 ∨ k = 8 ∨ k = 9 ∨ k = 10 ∨ k = 11 ∨ k = 12 ∨ k = 13 ∨ k = 14 ∨ k = 15 ∨ k = 16 ∨ k = 17 := by omega
    clear h
    rcases hK with rfl | rfl | rfl | rfl | rfl | rfl | rfl | rfl | rfl | rfl | rfl | rfl | rfl | rfl | rfl | rfl | rfl
    all_goals
      go_enter Try.func16, Try.ntmps16
      go_wp2
      refine bodyPost_ret (v := _) (by simp [results, Try.results16, go_sem, nmV, nmB]) rfl ⟨rfl, (by repeat (first | exact Below.refl _ _ | refine Below.drew ?_ | refine below_drewN ?_ _ | refine Below.alloc ?_ (by first | exact Nat.le_refl _ | (simp; done) | (simp; omega) | omega) _ | refine Below.setCell ?_ (by first | exact Nat.le_refl _ | (simp; done) | (simp; omega) | omega) _ | refine bExtW ?_ (by first | exact Nat.le_refl _ | (simp; done) | (simp; omega) | omega) | refine Below.trans ?_ (Below.mono (by assumption) (by first | exact Nat.le_refl _ | (simp; done) | (simp; omega) | omega))))⟩
end Go.Proofs.Ytooilennejakhaa

namespace Go.Proofs.Ytooilennejakhaa
open Go.RowKit
set_option linter.unusedVariables false
set_option linter.unusedSimpArgs false
def mx4 (a b c d : Int) : Int := max (max (max a b) c) d
@[go_sem] theorem run_max4 (ts : Array TypeId) (t : TypeId) (a b c d : Int) (w : World) : (Builtin.max_ ts t #[.int .i64 a, .int .i64 b, .int .i64 c, .int .i64 d]).run Try.prog w = .ok (.int .i64 (mx4 a b c d)) w := by
  have hm : ∀ x y : Int, max x y = if y > x then y else x := by intro x y; split <;> omega
  unfold mx4
  rw [hm (max (max a b) c), hm (max a b), hm a b]
  simp [Builtin.max_, Builtin.max2, go_sem]
theorem mx4_good (x y : Int)  (hg : -1048576 ≤ x ∧ x ≤ 1048576 ∧ -1048576 ≤ y ∧ y ≤ 1048576) :
   mx4 x (wrap64 (-x)) y (wrap64 (-y)) ≤ 1048576 ∧ -1048576 ≤ (if y < x then y else x) := by
  unfold mx4 wrap64; omega
theorem mx4_bad (x y : Int) (wx : -9223372036854775808 ≤ x ∧ x ≤ 9223372036854775807) (wy : -9223372036854775808 ≤ y ∧ y ≤ 9223372036854775807) (hg : ¬ (-1048576 ≤ x ∧ x ≤ 1048576 ∧ -1048576 ≤ y ∧ y ≤ 1048576)) (h : mx4 x (wrap64 (-x)) y (wrap64 (-y)) ≤ 1048576) :
   (if y < x then y else x) < -1048576 := by
  revert h; unfold mx4 wrap64; omega
def smB (x y : Int) : Bool := decide (-1048576 ≤ x ∧ x ≤ 1048576 ∧ -1048576 ≤ y ∧ y ≤ 1048576)
def smL (l : List (Int × Int)) : Bool := l.all fun p => smB p.1 p.2
theorem smL_take_succ (l : List (Int × Int)) (k : Nat) (h : k < l.length) : smL (l.take (k+1)) = (smL (l.take k) && smB (l.getD k (0,0)).1 (l.getD k (0,0)).2) := by
  unfold smL; rw [List.take_succ_eq_append_getElem h, List.all_append]; simp [List.getD, h]
theorem smL_of_take (l : List (Int × Int)) (k : Nat) (h : smL (l.take k) = false) : smL l = false := by
  unfold smL at *
  rw [← List.take_append_drop k l, List.all_append, h]; rfl
set_option maxHeartbeats 400000 in
theorem small_any (b n cap : Nat) (l : List (Int × Int)) (w : World) (hn : l.length = n) (hb : b < w.heap.size) (hc : ∀ i, i < n → w.cell? ⟨b, i * 2, none⟩ = some (.int .i64 ((l.getD i (0,0)).1)) ∧ w.cell? ⟨b, i * 2 + 1, none⟩ = some (.int .i64 ((l.getD i (0,0)).2)))
   (hwf : ∀ i, i < n → (-9223372036854775808 ≤ (l.getD i (0,0)).1 ∧ (l.getD i (0,0)).1 ≤ 9223372036854775807) ∧ (-9223372036854775808 ≤ (l.getD i (0,0)).2 ∧ (l.getD i (0,0)).2 ≤ 9223372036854775807))
   (hz : n < 1000) :
    Calls Try.prog 68 #[.slice (some ⟨b, 0, none⟩) n cap] w fun e w' =>
      e = .returned (.bool (smL l)) ∧ Below w.heap.size w w' := by
  go_enter Try.func68, Try.ntmps68
  have HN := Lib.hid hn
  clear hn
  go_wp2
  go_loopw [7] (fun i wr => ∃ k : Nat, k ≤ n ∧ i = .int .i64 k ∧ smL (l.take k) = true ∧ Below w.heap.size w wr) (fun i _ => n - (intOf i).toNat)
  case atStart => exact ⟨0, Nat.zero_le _, rfl, rfl, Below.refl _ _⟩
  case round =>
    obtain ⟨k, hk, rfl, hs, hbl⟩ := hrel
    have HS := Lib.hid hs
    clear hs
    by_cases hlt : k < n
    · obtain ⟨c0, c1⟩ := hc k hlt
      obtain ⟨x0, x1⟩ := hwf k hlt
      rw [← hbl.cell (p := ⟨b, k * 2, none⟩) hb] at c0
      rw [← hbl.cell (p := ⟨b, k * 2 + 1, none⟩) hb] at c1
      have HT := Lib.hid (smL_take_succ l k (by rw [HN.out]; exact hlt))
      have hsz := hbl.size
      clear hc hwf
      obtain ⟨x, hx⟩ : ∃ x, x = (l.getD k (0,0)).1 := ⟨_, rfl⟩
      obtain ⟨y, hy⟩ : ∃ y, y = (l.getD k (0,0)).2 := ⟨_, rfl⟩
      rw [← hx] at c0 x0 HT
      rw [← hy] at c1 x1 HT
      clear hx hy
      rcases Decidable.em (-1048576 ≤ x ∧ x ≤ 1048576 ∧ -1048576 ≤ y ∧ y ≤ 1048576) with hg | hg
      · obtain ⟨g1, g2⟩ := mx4_good x y hg
        have HG := Lib.hid (show smB x y = true by simp [smB]; omega)
        clear x0 x1 hg
        go_wp2
        all_goals
          go_roundw
          case rel => exact ⟨k + 1, by omega, by go_num, by rw [HT.out, HS.out, HG.out]; rfl, hbl.alloc hsz _⟩
          case measure => simp [intOf]; omega
      · have HG := Lib.hid (show smB x y = false by simp [smB]; omega)
        have HE : Hid (smL l = false) := Lib.hid (smL_of_take l (k+1) (by rw [HT.out, HG.out]; simp))
        by_cases h1 : 1048576 < mx4 x (wrap64 (-x)) y (wrap64 (-y))
        · clear x0 x1 hg
          go_wp2
          go_ret
          exact ⟨by rw [HE.out]; rfl, hbl.alloc hsz _⟩
        · have h1' : mx4 x (wrap64 (-x)) y (wrap64 (-y)) ≤ 1048576 := by omega
          have h2 := mx4_bad x y x0 x1 hg h1'
          clear x0 x1 hg h1
          go_wp2
          all_goals
            go_ret
            exact ⟨by rw [HE.out]; rfl, hbl.alloc hsz _⟩
    · have hkn : k = n := by omega
      have HE : Hid (smL l = true) := by
        have := HS.out
        rw [hkn, ← HN.out, List.take_length] at this
        exact Lib.hid this
      clear hkn
      go_wp2
      go_ret
      exact ⟨by rw [HE.out]; rfl, hbl⟩
end Go.Proofs.Ytooilennejakhaa

namespace Go.Proofs.Ytooilennejakhaa
open Go.RowKit
set_option linter.unusedVariables false
set_option linter.unusedSimpArgs false
def knB (g : Int) : Bool := decide (g = 4 ∨ g = 6)
set_option maxHeartbeats 400000 in
theorem known_any (g : Int) (w : World) :
    Calls Try.prog 67 #[.int .i64 g] w fun e w' => e = .returned (.bool (knB g)) ∧ w = w' := by
  rcases Decidable.em (g = 4) with h | h
  · subst h
    go_enter Try.func67, Try.ntmps67
    go_wp2
    go_ret
    exact ⟨rfl, rfl⟩
  · rcases Decidable.em (g = 6) with h6 | h6
    · subst h6
      go_enter Try.func67, Try.ntmps67
      go_wp2
      go_ret
      exact ⟨rfl, rfl⟩
    · have e1 : (g == 4) = false := by simpa using h
      have e2 : (g == 6) = false := by simpa using h6
      have HE := Lib.hid (show knB g = false by simp [knB]; omega)
      go_enter Try.func67, Try.ntmps67
      go_wp2
      go_ret
      exact ⟨by rw [HE.out]; rfl, rfl⟩

def fltE (g : Int) (l : List (Int × Int)) : Int := if knB g = false then 1 else if smL l = false then 3 else 0
set_option maxHeartbeats 400000 in
theorem fault_any (g : Int) (b n cap : Nat) (l : List (Int × Int)) (w : World) (hn : l.length = n) (hb : b < w.heap.size) (hc : ∀ i, i < n → w.cell? ⟨b, i * 2, none⟩ = some (.int .i64 ((l.getD i (0,0)).1)) ∧ w.cell? ⟨b, i * 2 + 1, none⟩ = some (.int .i64 ((l.getD i (0,0)).2)))
   (hwf : ∀ i, i < n → (-9223372036854775808 ≤ (l.getD i (0,0)).1 ∧ (l.getD i (0,0)).1 ≤ 9223372036854775807) ∧ (-9223372036854775808 ≤ (l.getD i (0,0)).2 ∧ (l.getD i (0,0)).2 ≤ 9223372036854775807))
   (hz : n < 1000) :
    Calls Try.prog 53 #[.int .i64 (g), .slice (some ⟨b, 0, none⟩) n cap] w fun e w' =>
      e = .returned (.int .i64 (fltE g l)) ∧ Below w.heap.size w w' := by
  have hs := small_any b n cap l w hn hb hc hwf hz
  have HS := Lib.hid hs
  clear hs hc hwf hn
  rcases hk : knB g with _ | _
  · have HK := Lib.hid hk
    clear hk
    go_enter Try.func53, Try.ntmps53
    go_wp2_with (go_at_call 67; refine (known_any _ _).mono ?_; rintro e w' ⟨rfl, rfl⟩; rw [HK.out])
    go_ret
    exact ⟨by simp [fltE, HK.out], Below.refl _ _⟩
  · have HK := Lib.hid hk
    clear hk
    rcases hl : smL l with _ | _
    all_goals
      have HL := Lib.hid hl
      clear hl
      go_enter Try.func53, Try.ntmps53
      go_wp2_with (first | (go_at_call 67; refine (known_any _ _).mono ?_; rintro e w' ⟨rfl, rfl⟩; rw [HK.out]) | (go_at_call 68; refine HS.out.mono ?_; rintro e w' ⟨rfl, hb1⟩; rw [HL.out]))
      go_ret
      exact ⟨by simp [fltE, HK.out, HL.out], by assumption⟩
end Go.Proofs.Ytooilennejakhaa

namespace Go.Proofs.Ytooilennejakhaa
open Go.RowKit
set_option linter.unusedVariables false
set_option linter.unusedSimpArgs false
@[go_sem] theorem pt_field0 (a b : Value) (w : World) : (Instr.field 33 (.agg #[a, b]) 0).run Try.prog w = .ok a w := by kernel_rfl
@[go_sem] theorem pt_field1 (a b : Value) (w : World) : (Instr.field 33 (.agg #[a, b]) 1).run Try.prog w = .ok b w := by kernel_rfl
theorem mul_bd {a b A B : Int} (ha1 : -A ≤ a) (ha2 : a ≤ A) (hb1 : -B ≤ b) (hb2 : b ≤ B) : -(A*B) ≤ a*b ∧ a*b ≤ A*B := by
  have hA : 0 ≤ A := by omega
  have hB : 0 ≤ B := by omega
  have h1 := Int.mul_nonneg (show 0 ≤ A - a by omega) (show 0 ≤ B - b by omega)
  have h2 := Int.mul_nonneg (show 0 ≤ A + a by omega) (show 0 ≤ B + b by omega)
  have h3 := Int.mul_nonneg (show 0 ≤ A - a by omega) (show 0 ≤ B + b by omega)
  have h4 := Int.mul_nonneg (show 0 ≤ A + a by omega) (show 0 ≤ B - b by omega)
  simp only [Int.sub_mul, Int.mul_sub, Int.add_mul, Int.mul_add] at h1 h2 h3 h4
  constructor <;> omega

def tmX (x y x2 y2 : Int) : Int := x*x2 - y*y2
def tmY (g x y x2 y2 : Int) : Int := x*y2 + y*x2 + (if g = 6 then y*y2 else 0)
def miX (g x y : Int) : Int := if g = 6 then x + y else x

set_option maxHeartbeats 400000 in
theorem times_any (g x y x2 y2 : Int) (w : World) (b1 : -1073741824 ≤ x ∧ x ≤ 1073741824) (b2 : -1073741824 ≤ y ∧ y ≤ 1073741824) (b3 : -1073741824 ≤ x2 ∧ x2 ≤ 1073741824) (b4 : -1073741824 ≤ y2 ∧ y2 ≤ 1073741824)  :
    Calls Try.prog 72 #[.int .i64 (g), .agg #[.int .i64 (x), .int .i64 (y)], .agg #[.int .i64 (x2), .int .i64 (y2)]] w fun e w' =>
      e = .returned (.agg #[.int .i64 (tmX x y x2 y2), .int .i64 (tmY g x y x2 y2)]) ∧ Below w.heap.size w w' := by
  obtain ⟨m1, m2⟩ := mul_bd b1.1 b1.2 b3.1 b3.2
  obtain ⟨m3, m4⟩ := mul_bd b2.1 b2.2 b4.1 b4.2
  obtain ⟨m5, m6⟩ := mul_bd b1.1 b1.2 b4.1 b4.2
  obtain ⟨m7, m8⟩ := mul_bd b2.1 b2.2 b3.1 b3.2
  clear b1 b2 b3 b4
  by_cases h : g = 6
  · subst h
    go_enter Try.func72, Try.ntmps72
    go_wp2
    refine bodyPost_ret (v := .agg #[.int .i64 (x*x2 - y*y2), .int .i64 (x*y2 + y*x2 + y*y2)]) (by simp [results, Try.results72, go_sem]) rfl ⟨by simp [tmX, tmY], (by repeat (first | exact Below.refl _ _ | refine Below.drew ?_ | refine below_drewN ?_ _ | refine Below.alloc ?_ (by first | exact Nat.le_refl _ | (simp; done) | (simp; omega) | omega) _ | refine Below.setCell ?_ (by first | exact Nat.le_refl _ | (simp; done) | (simp; omega) | omega) _ | refine bExtW ?_ (by first | exact Nat.le_refl _ | (simp; done) | (simp; omega) | omega) | refine Below.trans ?_ (Below.mono (by assumption) (by first | exact Nat.le_refl _ | (simp; done) | (simp; omega) | omega))))⟩
  · have h' : (g == 6) = false := by simpa using h
    go_enter Try.func72, Try.ntmps72
    go_wp2
    refine bodyPost_ret (v := .agg #[.int .i64 (x*x2 - y*y2), .int .i64 (x*y2 + y*x2)]) (by simp [results, Try.results72, go_sem]) rfl ⟨by simp [tmX, tmY, h], (by repeat (first | exact Below.refl _ _ | refine Below.drew ?_ | refine below_drewN ?_ _ | refine Below.alloc ?_ (by first | exact Nat.le_refl _ | (simp; done) | (simp; omega) | omega) _ | refine Below.setCell ?_ (by first | exact Nat.le_refl _ | (simp; done) | (simp; omega) | omega) _ | refine bExtW ?_ (by first | exact Nat.le_refl _ | (simp; done) | (simp; omega) | omega) | refine Below.trans ?_ (Below.mono (by assumption) (by first | exact Nat.le_refl _ | (simp; done) | (simp; omega) | omega))))⟩

set_option maxHeartbeats 400000 in
theorem mirrored_any (g x y : Int) (w : World) (b1 : -1152921504606846976 ≤ x ∧ x ≤ 1152921504606846976) (b2 : -1152921504606846976 ≤ y ∧ y ≤ 1152921504606846976) :
    Calls Try.prog 73 #[.int .i64 (g), .agg #[.int .i64 (x), .int .i64 (y)]] w fun e w' => e = .returned (.agg #[.int .i64 (miX g x y), .int .i64 (-y)]) ∧ Below w.heap.size w w' := by
  rcases Decidable.em (g = 6) with h6 | h6
  · subst h6
    go_enter Try.func73, Try.ntmps73
    go_wp2
    refine bodyPost_ret (v := .agg #[.int .i64 (x+y), .int .i64 (-y)]) (by simp [results, Try.results73, go_sem]) rfl ⟨by simp [miX], (by repeat (first | exact Below.refl _ _ | refine Below.drew ?_ | refine below_drewN ?_ _ | refine Below.alloc ?_ (by first | exact Nat.le_refl _ | (simp; done) | (simp; omega) | omega) _ | refine Below.setCell ?_ (by first | exact Nat.le_refl _ | (simp; done) | (simp; omega) | omega) _ | refine bExtW ?_ (by first | exact Nat.le_refl _ | (simp; done) | (simp; omega) | omega) | refine Below.trans ?_ (Below.mono (by assumption) (by first | exact Nat.le_refl _ | (simp; done) | (simp; omega) | omega))))⟩
  · have e2 : (g == 6) = false := by simpa using h6
    have HE := Lib.hid h6
    clear h6
    go_enter Try.func73, Try.ntmps73
    go_wp2
    refine bodyPost_ret (v := .agg #[.int .i64 (x), .int .i64 (-y)]) (by simp [results, Try.results73, go_sem]) rfl ⟨by rw [miX, if_neg HE.out], (by repeat (first | exact Below.refl _ _ | refine Below.drew ?_ | refine below_drewN ?_ _ | refine Below.alloc ?_ (by first | exact Nat.le_refl _ | (simp; done) | (simp; omega) | omega) _ | refine Below.setCell ?_ (by first | exact Nat.le_refl _ | (simp; done) | (simp; omega) | omega) _ | refine bExtW ?_ (by first | exact Nat.le_refl _ | (simp; done) | (simp; omega) | omega) | refine Below.trans ?_ (Below.mono (by assumption) (by first | exact Nat.le_refl _ | (simp; done) | (simp; omega) | omega))))⟩

theorem miX_bd (g x y : Int) (b1 : -500000000 ≤ x ∧ x ≤ 500000000) (b2 : -500000000 ≤ y ∧ y ≤ 500000000) : -1000000000 ≤ miX g x y ∧ miX g x y ≤ 1000000000 := by
  unfold miX; split <;> omega
set_option maxHeartbeats 400000 in
theorem norm_any (g x y : Int) (w : World) (b1 : -500000000 ≤ x ∧ x ≤ 500000000) (b2 : -500000000 ≤ y ∧ y ≤ 500000000) :
    Calls Try.prog 58 #[.int .i64 (g), .agg #[.int .i64 (x), .int .i64 (y)]] w fun e w' => e = .returned (.int .i64 (tmX x y (miX g x y) (-y))) ∧ Below w.heap.size w w' := by
  have b3 := miX_bd g x y b1 b2
  go_enter Try.func58, Try.ntmps58
  go_wp2_with fail
  go_region_held3 (fun w' => w'.cell? ⟨w.heap.size, 0, none⟩ = some (.int .i64 (x)) ∧ w'.cell? ⟨w.heap.size, 1, none⟩ = some (.int .i64 (y)) ∧ Below w.heap.size w w') (first | (have hH := ‹(_ ∧ _ ∧ Below _ _ _)›; go_loud (exact ⟨bCs hb hH.1, bCs hb hH.2.1, hH.2.2.trans (hb.mono hH.2.2.size)⟩)) | exact ⟨by simp, by simp, (by repeat (first | exact Below.refl _ _ | refine Below.drew ?_ | refine below_drewN ?_ _ | refine Below.alloc ?_ (by first | exact Nat.le_refl _ | (simp; done) | (simp; omega) | omega) _ | refine Below.setCell ?_ (by first | exact Nat.le_refl _ | (simp; done) | (simp; omega) | omega) _ | refine bExtW ?_ (by first | exact Nat.le_refl _ | (simp; done) | (simp; omega) | omega) | refine Below.trans ?_ (Below.mono (by assumption) (by first | exact Nat.le_refl _ | (simp; done) | (simp; omega) | omega))))⟩ | go_keep) (first | (go_at_call 73; refine (mirrored_any g x y _ (by omega) (by omega)).mono ?_; rintro e w' ⟨rfl, hb⟩) | (go_at_call 72; refine (times_any g x y _ _ _ (by omega) (by omega) (by omega) (by omega)).mono ?_; rintro e w' ⟨rfl, hb⟩))
  go_wp2
  go_ret
  exact ⟨rfl, (‹(_ ∧ _ ∧ Below _ _ _)›).2.2⟩
end Go.Proofs.Ytooilennejakhaa

namespace Go.Proofs.Ytooilennejakhaa
open Go.RowKit
set_option linter.unusedVariables false
set_option linter.unusedSimpArgs false
theorem two_cells {W : World} {b : Nat} {x y x2 y2 : Int} (h0 : W.cell? ⟨b, 0, none⟩ = some (.int .i64 (x))) (h1 : W.cell? ⟨b, 1, none⟩ = some (.int .i64 (y))) (h2 : W.cell? ⟨b, 2, none⟩ = some (.int .i64 (x2))) (h3 : W.cell? ⟨b, 3, none⟩ = some (.int .i64 (y2))) :
  ∀ i, i < 2 → W.cell? ⟨b, i * 2, none⟩ = some (.int .i64 (([(x,y),(x2,y2)].getD i (0,0)).1)) ∧ W.cell? ⟨b, i * 2 + 1, none⟩ = some (.int .i64 (([(x,y),(x2,y2)].getD i (0,0)).2)) := by
  intro i hi
  have : i = 0 ∨ i = 1 := by omega
  rcases this with rfl | rfl
  · exact ⟨h0, h1⟩
  · exact ⟨h2, h3⟩
theorem one_cells {W : World} {b : Nat} {x y : Int} (h0 : W.cell? ⟨b, 0, none⟩ = some (.int .i64 (x))) (h1 : W.cell? ⟨b, 1, none⟩ = some (.int .i64 (y))) :
  ∀ i, i < 1 → W.cell? ⟨b, i * 2, none⟩ = some (.int .i64 (([(x,y)].getD i (0,0)).1)) ∧ W.cell? ⟨b, i * 2 + 1, none⟩ = some (.int .i64 (([(x,y)].getD i (0,0)).2)) := by
  intro i hi
  have : i = 0 := by omega
  subst this
  exact ⟨h0, h1⟩
theorem two_wf {x y x2 y2 : Int} (h0 : (-9223372036854775808 ≤ x ∧ x ≤ 9223372036854775807)) (h1 : (-9223372036854775808 ≤ y ∧ y ≤ 9223372036854775807)) (h2 : (-9223372036854775808 ≤ x2 ∧ x2 ≤ 9223372036854775807)) (h3 : (-9223372036854775808 ≤ y2 ∧ y2 ≤ 9223372036854775807)) : ∀ i, i < 2 → ((-9223372036854775808 ≤ ([(x,y),(x2,y2)].getD i (0,0)).1 ∧ ([(x,y),(x2,y2)].getD i (0,0)).1 ≤ 9223372036854775807)) ∧ ((-9223372036854775808 ≤ ([(x,y),(x2,y2)].getD i (0,0)).2 ∧ ([(x,y),(x2,y2)].getD i (0,0)).2 ≤ 9223372036854775807)) := by
  intro i hi
  have : i = 0 ∨ i = 1 := by omega
  rcases this with rfl | rfl
  · exact ⟨h0, h1⟩
  · exact ⟨h2, h3⟩
theorem one_wf {x y : Int} (h0 : (-9223372036854775808 ≤ x ∧ x ≤ 9223372036854775807)) (h1 : (-9223372036854775808 ≤ y ∧ y ≤ 9223372036854775807)) : ∀ i, i < 1 → ((-9223372036854775808 ≤ ([(x,y)].getD i (0,0)).1 ∧ ([(x,y)].getD i (0,0)).1 ≤ 9223372036854775807)) ∧ ((-9223372036854775808 ≤ ([(x,y)].getD i (0,0)).2 ∧ ([(x,y)].getD i (0,0)).2 ≤ 9223372036854775807)) := by
  intro i hi
  have : i = 0 := by omega
  subst this
  exact ⟨h0, h1⟩

def tdX (x y : Int) : Int := if smB x y = true then x else 0
def tdY (x y : Int) : Int := if smB x y = true then y else 0
def tdE (x y : Int) : Int := if smB x y = true then 0 else 4
set_option maxHeartbeats 400000 in
theorem told_any (x y : Int) (w : World) (h0 : (-9223372036854775808 ≤ x ∧ x ≤ 9223372036854775807)) (h1 : (-9223372036854775808 ≤ y ∧ y ≤ 9223372036854775807)) :
    Calls Try.prog 59 #[.agg #[.int .i64 (x), .int .i64 (y)]] w fun e w' => e = .returned (.tuple #[.agg #[.int .i64 (tdX x y), .int .i64 (tdY x y)], .int .i64 (tdE x y)]) ∧ Below w.heap.size w w' := by
  have HW := Lib.hid (one_wf h0 h1)
  clear h0 h1
  rcases hs : smB x y with _ | _
  · have HS : Hid (smL [(x,y)] = false) := Lib.hid (by simp [smL, hs])
    have HX : Hid (smB x y = false) := Lib.hid hs
    clear hs
    go_enter Try.func59, Try.ntmps59
    go_wp2_with fail
    refine (small_any (w.heap.size+1+1) 1 1 [(x,y)] _ rfl (by simp) (one_cells (by simp [go_sem]) (by simp [go_sem])) HW.out (by omega)).mono ?_
    rintro e w1 ⟨rfl, hb1⟩
    rw [HS.out]
    obtain ⟨E1, d1, rfl⟩ := bExt hb1; clear hb1
    go_wp2
    refine bodyPost_ret (v := .tuple #[.agg #[.int .i64 (0), .int .i64 (0)], .int .i64 4]) (by simp [results, Try.results59, go_sem]) rfl ⟨by simp [tdX, tdY, tdE, HX.out], (by repeat (first | exact Below.refl _ _ | refine Below.drew ?_ | refine below_drewN ?_ _ | refine Below.alloc ?_ (by first | exact Nat.le_refl _ | (simp; done) | (simp; omega) | omega) _ | refine Below.setCell ?_ (by first | exact Nat.le_refl _ | (simp; done) | (simp; omega) | omega) _ | refine bExtW ?_ (by first | exact Nat.le_refl _ | (simp; done) | (simp; omega) | omega) | refine Below.trans ?_ (Below.mono (by assumption) (by first | exact Nat.le_refl _ | (simp; done) | (simp; omega) | omega))))⟩
  · have HS : Hid (smL [(x,y)] = true) := Lib.hid (by simp [smL, hs])
    have HX : Hid (smB x y = true) := Lib.hid hs
    clear hs
    go_enter Try.func59, Try.ntmps59
    go_wp2_with fail
    refine (small_any (w.heap.size+1+1) 1 1 [(x,y)] _ rfl (by simp) (one_cells (by simp [go_sem]) (by simp [go_sem])) HW.out (by omega)).mono ?_
    rintro e w1 ⟨rfl, hb1⟩
    rw [HS.out]
    obtain ⟨E1, d1, rfl⟩ := bExt hb1; clear hb1
    go_wp2
    refine bodyPost_ret (v := .tuple #[.agg #[.int .i64 (x), .int .i64 (y)], .int .i64 0]) (by simp [results, Try.results59, go_sem]) rfl ⟨by simp [tdX, tdY, tdE, HX.out], (by repeat (first | exact Below.refl _ _ | refine Below.drew ?_ | refine below_drewN ?_ _ | refine Below.alloc ?_ (by first | exact Nat.le_refl _ | (simp; done) | (simp; omega) | omega) _ | refine Below.setCell ?_ (by first | exact Nat.le_refl _ | (simp; done) | (simp; omega) | omega) _ | refine bExtW ?_ (by first | exact Nat.le_refl _ | (simp; done) | (simp; omega) | omega) | refine Below.trans ?_ (Below.mono (by assumption) (by first | exact Nat.le_refl _ | (simp; done) | (simp; omega) | omega))))⟩
end Go.Proofs.Ytooilennejakhaa

namespace Go.Proofs.Ytooilennejakhaa
open Go.RowKit
set_option linter.unusedVariables false
set_option linter.unusedSimpArgs false
theorem fltE_two (g x y x2 y2 : Int) : fltE g [(x,y),(x2,y2)] = if ¬ (g = 4 ∨ g = 6) then 1 else if ¬ ((-1048576 ≤ x ∧ x ≤ 1048576 ∧ -1048576 ≤ y ∧ y ≤ 1048576) ∧ (-1048576 ≤ x2 ∧ x2 ≤ 1048576 ∧ -1048576 ≤ y2 ∧ y2 ≤ 1048576)) then 3 else 0 := by
  simp only [fltE, knB, smL, smB, List.all_cons, List.all_nil, Bool.and_true, decide_eq_false_iff_not, Bool.and_eq_false_iff, Decidable.not_and_iff_or_not]
theorem fltE_one (g x y : Int) : fltE g [(x,y)] = if ¬ (g = 4 ∨ g = 6) then 1 else if ¬ (-1048576 ≤ x ∧ x ≤ 1048576 ∧ -1048576 ≤ y ∧ y ≤ 1048576) then 3 else 0 := by
  simp only [fltE, knB, smL, smB, List.all_cons, List.all_nil, Bool.and_true, decide_eq_false_iff_not]
theorem fltE_two_ok {g x y x2 y2 : Int} (h : fltE g [(x,y),(x2,y2)] = 0) : (g = 4 ∨ g = 6) ∧ (-1048576 ≤ x ∧ x ≤ 1048576 ∧ -1048576 ≤ y ∧ y ≤ 1048576) ∧ (-1048576 ≤ x2 ∧ x2 ≤ 1048576 ∧ -1048576 ≤ y2 ∧ y2 ≤ 1048576) := by
  rw [fltE_two] at h
  split at h
  · omega
  · split at h <;> omega
theorem fltE_one_ok {g x y : Int} (h : fltE g [(x,y)] = 0) : (g = 4 ∨ g = 6) ∧ (-1048576 ≤ x ∧ x ≤ 1048576 ∧ -1048576 ≤ y ∧ y ≤ 1048576) := by
  rw [fltE_one] at h
  split at h
  · omega
  · split at h <;> omega

end Go.Proofs.Ytooilennejakhaa

namespace Go.Proofs.Ytooilennejakhaa
open Go.RowKit
set_option linter.unusedVariables false
set_option linter.unusedSimpArgs false
def TE (g x y x2 y2 : Int) : Int := if fltE g [(x,y),(x2,y2)] = 0 then tdE (tmX x y x2 y2) (tmY g x y x2 y2) else fltE g [(x,y),(x2,y2)]
def TX (g x y x2 y2 : Int) : Int := if fltE g [(x,y),(x2,y2)] = 0 then tdX (tmX x y x2 y2) (tmY g x y x2 y2) else 0
def TY (g x y x2 y2 : Int) : Int := if fltE g [(x,y),(x2,y2)] = 0 then tdY (tmX x y x2 y2) (tmY g x y x2 y2) else 0
def NE (g x y : Int) : Int := fltE g [(x,y)]
def NV (g x y : Int) : Int := if fltE g [(x,y)] = 0 then tmX x y (miX g x y) (-y) else 0
set_option maxRecDepth 100000 in
set_option maxHeartbeats 400000 in
theorem Norm_any (g x y : Int) (w : World) (h0 : (-9223372036854775808 ≤ x ∧ x ≤ 9223372036854775807)) (h1 : (-9223372036854775808 ≤ y ∧ y ≤ 9223372036854775807)) :
    Calls Try.prog 45 #[.int .i64 (g), .agg #[.int .i64 (x), .int .i64 (y)]] w fun r w' => r = .returned (.tuple #[.int .i64 (NV g x y), .int .i64 (NE g x y)]) ∧ Below w.heap.size w w' := by
  have HW := Lib.hid (one_wf h0 h1)
  clear h0 h1
  by_cases he : fltE g [(x,y)] = 0
  · obtain ⟨h1, h2⟩ := fltE_one_ok he
    have HE := Lib.hid he
    have HP : Hid (Ending.returned (.tuple #[.int .i64 (NV g x y), .int .i64 (NE g x y)]) = Ending.returned (.tuple #[.int .i64 (tmX x y (miX g x y) (-y)), .int .i64 (0)])) := Lib.hid (by simp [NV, NE, he])
    clear he h1
    go_enter Try.func45, Try.ntmps45
    go_wp2_with fail
    refine (fault_any g (w.heap.size+1) 1 1 [(x,y)] _ rfl (by simp) (one_cells (by simp [go_sem]) (by simp [go_sem])) HW.out (by omega)).mono ?_
    rintro e w1 ⟨rfl, hb1⟩
    rw [HE.out]
    obtain ⟨E1, d1, rfl⟩ := bExt hb1; clear hb1
    go_wp2_with fail
    refine (norm_any g x y _ (by omega) (by omega)).mono ?_
    rintro e w1 ⟨rfl, hb2⟩
    obtain ⟨E2, d2, rfl⟩ := bExt hb2; clear hb2
    go_wp2
    go_ret2
    exact ⟨HP.out.symm, (by repeat (first | exact Below.refl _ _ | refine Below.drew ?_ | refine below_drewN ?_ _ | refine Below.alloc ?_ (by first | exact Nat.le_refl _ | (simp; done) | (simp; omega) | omega) _ | refine Below.setCell ?_ (by first | exact Nat.le_refl _ | (simp; done) | (simp; omega) | omega) _ | refine bExtW ?_ (by first | exact Nat.le_refl _ | (simp; done) | (simp; omega) | omega) | refine Below.trans ?_ (Below.mono (by assumption) (by first | exact Nat.le_refl _ | (simp; done) | (simp; omega) | omega))))⟩
  · have hb : (fltE g [(x,y)] != 0) = true := by simpa using he
    have HP : Hid (Ending.returned (.tuple #[.int .i64 (NV g x y), .int .i64 (NE g x y)]) = Ending.returned (.tuple #[.int .i64 (0), .int .i64 (fltE g [(x,y)])])) := Lib.hid (by simp [NV, NE, he])
    clear he
    go_enter Try.func45, Try.ntmps45
    go_wp2_with fail
    refine (fault_any g (w.heap.size+1) 1 1 [(x,y)] _ rfl (by simp) (one_cells (by simp [go_sem]) (by simp [go_sem])) HW.out (by omega)).mono ?_
    rintro e w1 ⟨rfl, hb1⟩
    obtain ⟨E1, d1, rfl⟩ := bExt hb1; clear hb1
    go_wp2
    go_ret2
    exact ⟨HP.out.symm, (by repeat (first | exact Below.refl _ _ | refine Below.drew ?_ | refine below_drewN ?_ _ | refine Below.alloc ?_ (by first | exact Nat.le_refl _ | (simp; done) | (simp; omega) | omega) _ | refine Below.setCell ?_ (by first | exact Nat.le_refl _ | (simp; done) | (simp; omega) | omega) _ | refine bExtW ?_ (by first | exact Nat.le_refl _ | (simp; done) | (simp; omega) | omega) | refine Below.trans ?_ (Below.mono (by assumption) (by first | exact Nat.le_refl _ | (simp; done) | (simp; omega) | omega))))⟩
end Go.Proofs.Ytooilennejakhaa
