/- Lemmas on which the law of this seat rests; each states its own conditions. -/
import Derived.Test.YtajdoobkfbdgoaaDoorRows
import Derived.WalkKit
import Derived.WalkSpells
import Derived.WalkLawsBesides
import Derived.Lib.Hide
import Derived.Deep.RegionHeld3
import Derived.Deep.QuietTactic
import Derived.BigQuiet
set_option linter.unusedVariables false
set_option linter.unusedSimpArgs false
namespace Go.Proofs.YtajdoobkfbdgoaaDoor
theorem blw {P : Prop} (h : P := by repeat (first | exact Below.refl _ _ | refine Below.drew ?_ | refine below_drewN ?_ _ | refine Below.alloc ?_ (by first | exact Nat.le_refl _ | (simp; done) | (simp; omega) | omega) _ | refine Below.setCell ?_ (by first | exact Nat.le_refl _ | (simp; done) | (simp; omega) | omega) _ | refine bExtW ?_ (by first | exact Nat.le_refl _ | (simp; done) | (simp; omega) | omega) | refine Below.trans ?_ (Below.mono (by assumption) (by first | exact Nat.le_refl _ | (simp; done) | (simp; omega) | omega)))) : P := h
theorem bnd {P : Prop} (h : P := by first | exact Nat.le_refl _ | (simp; done) | (simp; omega) | omega) : P := h
theorem bnq {P : Prop} (h : P := by first | omega | (simp; done) | (simp; omega)) : P := h
section
open Go.RowKit
def extW (W : World) (E : Array Obj) (d : Nat) : World := { W with heap := W.heap ++ E, drawn := d }
section
variable {W : World} {E : Array Obj} {d : Nat}
@[go_sem, simp] theorem size_extW : (extW W E d).heap.size = W.heap.size + E.size := by simp [extW]
@[go_sem, simp] theorem tape_extW : (extW W E d).tape = W.tape := rfl
@[go_sem, simp] theorem extW_drew : (extW W E d).drew = extW W E (d+1) := rfl
@[go_sem, simp] theorem drew_extW : extW W.drew E d = extW W E d := rfl
@[go_sem, simp] theorem drewN_extW (n : Nat) : extW (W.drewN n) E d = extW W E d := rfl
@[go_sem, simp] theorem extW_drewN (n : Nat) : (extW W E d).drewN n = extW W E (d+n) := rfl
theorem heap_extW (n : Nat) (hn : n < W.heap.size) : (extW W E d).heap[n]? = W.heap[n]? := by
 simp [extW, Array.getElem?_append, hn]
theorem bExt {W w1 : World} (h : Below W.heap.size W w1) : ∃ E d, w1 = extW W E d := by
 refine ⟨w1.heap.extract W.heap.size w1.heap.size, w1.drawn, ?_⟩
 have hh : w1.heap = W.heap ++ w1.heap.extract W.heap.size w1.heap.size := by
  apply Array.ext_getElem?
  intro k
  have := h.size
  rcases Nat.lt_or_ge k W.heap.size with hk | hk
  ·rw [h.block k hk, Array.getElem?_append_left hk]
  ·rw [Array.getElem?_append_right hk, Array.getElem?_extract]
   simp only [Nat.min_self]
   split
   ·congr 1; omega
   ·rw [Array.getElem?_eq_none (by omega)]
 obtain ⟨h1, t1, d1, o1, p1⟩ := w1
 have ho := h.os
 have ht := h.tape
 have hp := h.output
 simp only at ho ht hp hh
 subst ho ht hp
 unfold extW
 simp only
 rw [← hh]
theorem bExtW {B : Nat} {a : World} (h : Below B a W) (hB : B ≤ W.heap.size) : Below B a (extW W E d) :=
 h.trans ⟨rfl, rfl, rfl, by simp, fun k hk => heap_extW k (by omega)⟩
end
def LtW (n : Nat) (W : World) : Prop := n < W.heap.size
theorem LtW.lt {n : Nat} {W : World} (h : LtW n W) : n < W.heap.size := h
section
variable {W : World} {E : Array Obj} {d : Nat}
@[go_sem] theorem LtW_alloc (n : Nat) (o : Obj) : LtW n (W.alloc o) ↔ (n = W.heap.size ∨ LtW n W) := by
 unfold LtW; rw [World.size_alloc]; omega
@[go_sem] theorem LtW_drew (n : Nat) : LtW n W.drew ↔ LtW n W := Iff.rfl
@[go_sem] theorem LtW_drewN (n k : Nat) : LtW n (W.drewN k) ↔ LtW n W := Iff.rfl
@[go_sem] theorem LtW_setCell (n : Nat) (a : Addr) (v : Value) : LtW n (W.setCell a v) ↔ LtW n W := by
 unfold LtW; rw [World.size_setCell]
@[go_sem] theorem LtW_extW (n : Nat) : LtW n (extW W E d) ↔ (LtW n W ∨ (W.heap.size ≤ n ∧ n < W.heap.size + E.size)) := by
 unfold LtW; rw [size_extW]; omega
@[go_sem] theorem cell?_extW (n i : Nat) (hn : LtW n W) : (extW W E d).cell? ⟨n, i, none⟩ = W.cell? ⟨n, i, none⟩ :=
 World.cell?_of_block (w := W) (heap_extW n hn)
@[go_sem] theorem frozen?_extW (n i : Nat) (hn : LtW n W) : (extW W E d).frozen? ⟨n, i, none⟩ = W.frozen? ⟨n, i, none⟩ :=
 World.frozen?_of_block (w := W) (heap_extW n hn)
@[go_sem] theorem shape?_extW (n : Nat) (hn : LtW n W) : (extW W E d).shape? n = W.shape? n := by
 simp [World.shape?, heap_extW n hn]
@[go_sem] theorem setCell_extW (n i : Nat) (v : Value) (hn : LtW n W) : (extW W E d).setCell ⟨n, i, none⟩ v = extW (W.setCell ⟨n, i, none⟩ v) E d := by
 have hn := hn.lt
 unfold World.setCell extW
 congr 1
 apply Array.ext_getElem?
 intro k
 simp only [Array.getElem?_modify, Array.getElem?_append, Array.size_modify]
 by_cases hk : k = n
 ·subst hk; simp [hn]
 ·simp [Ne.symm hk]
@[go_sem] theorem setCell_alloc_LtW (o : Obj) (n i : Nat) (v : Value) (hn : LtW n W) : (W.alloc o).setCell ⟨n, i, none⟩ v = (W.setCell ⟨n, i, none⟩ v).alloc o := World.setCell_alloc_past o n i v hn
@[go_sem] theorem cell?_alloc_LtW (o : Obj) (n i : Nat) (hn : LtW n W) : (W.alloc o).cell? ⟨n, i, none⟩ = W.cell? ⟨n, i, none⟩ := World.cell?_alloc_past o n i hn
@[go_sem] theorem frozen?_alloc_LtW (o : Obj) (n i : Nat) (hn : LtW n W) : (W.alloc o).frozen? ⟨n, i, none⟩ = W.frozen? ⟨n, i, none⟩ := World.frozen?_alloc_past o n i hn
theorem bCs {W w' : World} (hb : Below W.heap.size W w') {p : Addr} {v : Value} (h : W.cell? p = some v) : w'.cell? p = some v :=
 (hb.cell (World.block_lt_of_cell? W _ h)).trans h
end
end
section
open Go.RowKit
def mx4 (a b c d : Int) : Int := max (max (max a b) c) d
@[go_sem] theorem run_max4 (ts : Array TypeId) (t : TypeId) (a b c d : Int) (w : World) : (Builtin.max_ ts t #[.int .i64 a, .int .i64 b, .int .i64 c, .int .i64 d]).run Tryd.prog w = .ok (.int .i64 (mx4 a b c d)) w := by
 have hm : ∀ x y : Int, max x y = if y > x then y else x := by intro x y; split <;> omega
 unfold mx4
 rw [hm (max (max a b) c), hm (max a b), hm a b]
 simp [Builtin.max_, Builtin.max2, go_sem]
theorem mx4_good (x y : Int)  (hg : -1048576 ≤ x ∧ x ≤ 1048576 ∧ -1048576 ≤ y ∧ y ≤ 1048576) :
   mx4 x (wrap64 (-x)) y (wrap64 (-y)) ≤ 1048576 ∧ -1048576 ≤ (if y < x then y else x) := by
  unfold mx4 wrap64; omega
theorem mx4_bad (x y : Int) (wx : -9223372036854775808 ≤ x ∧ x ≤ 9223372036854775807) (wy : -9223372036854775808 ≤ y ∧ y ≤ 9223372036854775807) (hg : ¬ (-1048576 ≤ x ∧ x ≤ 1048576 ∧ -1048576 ≤ y ∧ y ≤ 1048576)) (h : mx4 x (wrap64 (-x)) y (wrap64 (-y)) ≤ 1048576) :
   (if y < x then y else x) < -1048576 := by
  revert h; unfold mx4 wrap64; omega
def smB (x y : Int) : Bool := decide (-1048576 ≤ x ∧ x ≤ 1048576 ∧ -1048576 ≤ y ∧ y ≤ 1048576)
def smL (l : List (Int × Int)) : Bool := l.all fun p => smB p.1 p.2
theorem smL_take_succ (l : List (Int × Int)) (k : Nat) (h : k < l.length) : smL (l.take (k+1)) = (smL (l.take k) && smB (l.getD k (0,0)).1 (l.getD k (0,0)).2) := by
 unfold smL; rw [List.take_succ_eq_append_getElem h, List.all_append]; simp [List.getD, h]
theorem smL_of_take (l : List (Int × Int)) (k : Nat) (h : smL (l.take k) = false) : smL l = false := by
 unfold smL at *
 rw [← List.take_append_drop k l, List.all_append, h]; rfl
set_option maxHeartbeats 400000 in
theorem small_any (b n cap : Nat) (l : List (Int × Int)) (w : World) (hn : l.length = n) (hb : b < w.heap.size) (hc : ∀ i, i < n → w.cell? ⟨b, i * 2, none⟩ = some (.int .i64 ((l.getD i (0,0)).1)) ∧ w.cell? ⟨b, i * 2 + 1, none⟩ = some (.int .i64 ((l.getD i (0,0)).2)))
   (hwf : ∀ i, i < n → (-9223372036854775808 ≤ (l.getD i (0,0)).1 ∧ (l.getD i (0,0)).1 ≤ 9223372036854775807) ∧ (-9223372036854775808 ≤ (l.getD i (0,0)).2 ∧ (l.getD i (0,0)).2 ≤ 9223372036854775807))
   (hz : n < 1000) :
    Calls Tryd.prog 81 #[.slice (some ⟨b, 0, none⟩) n cap] w fun e w' =>
      e = .returned (.bool (smL l)) ∧ Below w.heap.size w w' := by
  go_enter Tryd.func81, Tryd.ntmps81
  have HN := Lib.hid hn
  clear hn
  go_wp2
  go_loopw [7] (fun i wr => ∃ k : Nat, k ≤ n ∧ i = .int .i64 k ∧ smL (l.take k) = true ∧ Below w.heap.size w wr) (fun i _ => n - (intOf i).toNat)
  case atStart => exact ⟨0, Nat.zero_le _, rfl, rfl, Below.refl _ _⟩
  case round =>
    obtain ⟨k, hk, rfl, hs, hbl⟩ := hrel
    have HS := Lib.hid hs
    clear hs
    by_cases hlt : k < n
    · obtain ⟨c0, c1⟩ := hc k hlt
      obtain ⟨x0, x1⟩ := hwf k hlt
      rw [← hbl.cell (p := ⟨b, k * 2, none⟩) hb] at c0
      rw [← hbl.cell (p := ⟨b, k * 2 + 1, none⟩) hb] at c1
      have HT := Lib.hid (smL_take_succ l k (by rw [HN.out]; exact hlt))
      have hsz := hbl.size
      clear hc hwf
      obtain ⟨x, hx⟩ : ∃ x, x = (l.getD k (0,0)).1 := ⟨_, rfl⟩
      obtain ⟨y, hy⟩ : ∃ y, y = (l.getD k (0,0)).2 := ⟨_, rfl⟩
      rw [← hx] at c0 x0 HT
      rw [← hy] at c1 x1 HT
      clear hx hy
      rcases Decidable.em (-1048576 ≤ x ∧ x ≤ 1048576 ∧ -1048576 ≤ y ∧ y ≤ 1048576) with hg | hg
      · obtain ⟨g1, g2⟩ := mx4_good x y hg
        have HG := Lib.hid (show smB x y = true by simp [smB]; omega)
        clear x0 x1 hg
        go_wp2
        all_goals
          go_roundw
          case rel => exact ⟨k + 1, by omega, by go_num, by rw [HT.out, HS.out, HG.out]; rfl, hbl.alloc hsz _⟩
          case measure => simp [intOf]; omega
      · have HG := Lib.hid (show smB x y = false by simp [smB]; omega)
        have HE : Hid (smL l = false) := Lib.hid (smL_of_take l (k+1) (by rw [HT.out, HG.out]; simp))
        by_cases h1 : 1048576 < mx4 x (wrap64 (-x)) y (wrap64 (-y))
        · clear x0 x1 hg
          go_wp2
          go_ret
          exact ⟨by rw [HE.out]; rfl, hbl.alloc hsz _⟩
        · have h1' : mx4 x (wrap64 (-x)) y (wrap64 (-y)) ≤ 1048576 := by omega
          have h2 := mx4_bad x y x0 x1 hg h1'
          clear x0 x1 hg h1
          go_wp2
          all_goals
            go_ret
            exact ⟨by rw [HE.out]; rfl, hbl.alloc hsz _⟩
    · have hkn : k = n := by omega
      have HE : Hid (smL l = true) := by
        have := HS.out
        rw [hkn, ← HN.out, List.take_length] at this
        exact Lib.hid this
      clear hkn
      go_wp2
      go_ret
      exact ⟨by rw [HE.out]; rfl, hbl⟩
end
section
open Go.RowKit
def knB (g : Int) : Bool := decide (g = 4 ∨ g = 6)
set_option maxHeartbeats 400000 in
theorem known_any (g : Int) (w : World) :
  Calls Tryd.prog 80 #[.int .i64 g] w fun e w' => e = .returned (.bool (knB g)) ∧ w = w' := by
 rcases Decidable.em (g = 4) with h | h
 ·subst h
  go_enter Tryd.func80, Tryd.ntmps80
  go_wp2
  go_ret
  exact ⟨rfl, rfl⟩
 ·rcases Decidable.em (g = 6) with h6 | h6
  ·subst h6
   go_enter Tryd.func80, Tryd.ntmps80
   go_wp2
   go_ret
   exact ⟨rfl, rfl⟩
  ·have e1 : (g == 4) = false := by simpa using h
   have e2 : (g == 6) = false := by simpa using h6
   have HE := Lib.hid (show knB g = false by simp [knB]; omega)
   go_enter Tryd.func80, Tryd.ntmps80
   go_wp2
   go_ret
   exact ⟨by rw [HE.out]; rfl, rfl⟩
def fltE (g : Int) (l : List (Int × Int)) : Int := if knB g = false then 1 else if smL l = false then 3 else 0
set_option maxHeartbeats 400000 in
theorem fault_any (g : Int) (b n cap : Nat) (l : List (Int × Int)) (w : World) (hn : l.length = n) (hb : b < w.heap.size) (hc : ∀ i, i < n → w.cell? ⟨b, i * 2, none⟩ = some (.int .i64 ((l.getD i (0,0)).1)) ∧ w.cell? ⟨b, i * 2 + 1, none⟩ = some (.int .i64 ((l.getD i (0,0)).2)))
   (hwf : ∀ i, i < n → (-9223372036854775808 ≤ (l.getD i (0,0)).1 ∧ (l.getD i (0,0)).1 ≤ 9223372036854775807) ∧ (-9223372036854775808 ≤ (l.getD i (0,0)).2 ∧ (l.getD i (0,0)).2 ≤ 9223372036854775807))
   (hz : n < 1000) :
    Calls Tryd.prog 61 #[.int .i64 (g), .slice (some ⟨b, 0, none⟩) n cap] w fun e w' =>
      e = .returned (.int .i64 (fltE g l)) ∧ Below w.heap.size w w' := by
  have hs := small_any b n cap l w hn hb hc hwf hz
  have HS := Lib.hid hs
  clear hs hc hwf hn
  rcases hk : knB g with _ | _
  · have HK := Lib.hid hk
    clear hk
    go_enter Tryd.func61, Tryd.ntmps61
    go_wp2_with (go_at_call 80; refine (known_any _ _).mono ?_; rintro e w' ⟨rfl, rfl⟩; rw [HK.out])
    go_ret
    exact ⟨by simp [fltE, HK.out], Below.refl _ _⟩
  · have HK := Lib.hid hk
    clear hk
    rcases hl : smL l with _ | _
    all_goals
      have HL := Lib.hid hl
      clear hl
      go_enter Tryd.func61, Tryd.ntmps61
      go_wp2_with (first | (go_at_call 80; refine (known_any _ _).mono ?_; rintro e w' ⟨rfl, rfl⟩; rw [HK.out]) | (go_at_call 81; refine HS.out.mono ?_; rintro e w' ⟨rfl, hb1⟩; rw [HL.out]))
      go_ret
      exact ⟨by simp [fltE, HK.out, HL.out], by assumption⟩
end
section
open Go.RowKit
@[go_sem] theorem pt_field0 (a b : Value) (w : World) : (Instr.field 52 (.agg #[a, b]) 0).run Tryd.prog w = .ok a w := by kernel_rfl
@[go_sem] theorem pt_field1 (a b : Value) (w : World) : (Instr.field 52 (.agg #[a, b]) 1).run Tryd.prog w = .ok b w := by kernel_rfl
theorem mul_bd {a b A B : Int} (ha1 : -A ≤ a) (ha2 : a ≤ A) (hb1 : -B ≤ b) (hb2 : b ≤ B) : -(A*B) ≤ a*b ∧ a*b ≤ A*B := by
 have hA : 0 ≤ A := by omega
 have hB : 0 ≤ B := by omega
 have h1 := Int.mul_nonneg (show 0 ≤ A - a by omega) (show 0 ≤ B - b by omega)
 have h2 := Int.mul_nonneg (show 0 ≤ A + a by omega) (show 0 ≤ B + b by omega)
 have h3 := Int.mul_nonneg (show 0 ≤ A - a by omega) (show 0 ≤ B + b by omega)
 have h4 := Int.mul_nonneg (show 0 ≤ A + a by omega) (show 0 ≤ B - b by omega)
 simp only [Int.sub_mul, Int.mul_sub, Int.add_mul, Int.mul_add] at h1 h2 h3 h4
 constructor <;> omega
def tmX (x y x2 y2 : Int) : Int := x*x2 - y*y2
def tmY (g x y x2 y2 : Int) : Int := x*y2 + y*x2 + (if g = 6 then y*y2 else 0)
def miX (g x y : Int) : Int := if g = 6 then x + y else x
set_option maxHeartbeats 400000 in
theorem times_any (g x y x2 y2 : Int) (w : World) (b1 : -1073741824 ≤ x ∧ x ≤ 1073741824) (b2 : -1073741824 ≤ y ∧ y ≤ 1073741824) (b3 : -1073741824 ≤ x2 ∧ x2 ≤ 1073741824) (b4 : -1073741824 ≤ y2 ∧ y2 ≤ 1073741824)  :
  Calls Tryd.prog 96 #[.int .i64 (g), .agg #[.int .i64 (x), .int .i64 (y)], .agg #[.int .i64 (x2), .int .i64 (y2)]] w fun e w' =>
   e = .returned (.agg #[.int .i64 (tmX x y x2 y2), .int .i64 (tmY g x y x2 y2)]) ∧ Below w.heap.size w w' := by
 obtain ⟨m1, m2⟩ := mul_bd b1.1 b1.2 b3.1 b3.2
 obtain ⟨m3, m4⟩ := mul_bd b2.1 b2.2 b4.1 b4.2
 obtain ⟨m5, m6⟩ := mul_bd b1.1 b1.2 b4.1 b4.2
 obtain ⟨m7, m8⟩ := mul_bd b2.1 b2.2 b3.1 b3.2
 clear b1 b2 b3 b4
 by_cases h : g = 6
 ·subst h
  go_enter Tryd.func96, Tryd.ntmps96
  go_wp2
  refine bodyPost_ret (v := .agg #[.int .i64 (x*x2 - y*y2), .int .i64 (x*y2 + y*x2 + y*y2)]) (by simp [results, Tryd.results96, go_sem]) rfl ⟨by simp [tmX, tmY], blw⟩
 ·have h' : (g == 6) = false := by simpa using h
  go_enter Tryd.func96, Tryd.ntmps96
  go_wp2
  refine bodyPost_ret (v := .agg #[.int .i64 (x*x2 - y*y2), .int .i64 (x*y2 + y*x2)]) (by simp [results, Tryd.results96, go_sem]) rfl ⟨by simp [tmX, tmY, h], blw⟩
set_option maxHeartbeats 400000 in
theorem mirrored_any (g x y : Int) (w : World) (b1 : -1152921504606846976 ≤ x ∧ x ≤ 1152921504606846976) (b2 : -1152921504606846976 ≤ y ∧ y ≤ 1152921504606846976) :
  Calls Tryd.prog 90 #[.int .i64 (g), .agg #[.int .i64 (x), .int .i64 (y)]] w fun e w' => e = .returned (.agg #[.int .i64 (miX g x y), .int .i64 (-y)]) ∧ Below w.heap.size w w' := by
 rcases Decidable.em (g = 6) with h6 | h6
 ·subst h6
  go_enter Tryd.func90, Tryd.ntmps90
  go_wp2
  refine bodyPost_ret (v := .agg #[.int .i64 (x+y), .int .i64 (-y)]) (by simp [results, Tryd.results90, go_sem]) rfl ⟨by simp [miX], blw⟩
 ·have e2 : (g == 6) = false := by simpa using h6
  have HE := Lib.hid h6
  clear h6
  go_enter Tryd.func90, Tryd.ntmps90
  go_wp2
  refine bodyPost_ret (v := .agg #[.int .i64 (x), .int .i64 (-y)]) (by simp [results, Tryd.results90, go_sem]) rfl ⟨by rw [miX, if_neg HE.out], blw⟩
theorem miX_bd (g x y : Int) (b1 : -500000000 ≤ x ∧ x ≤ 500000000) (b2 : -500000000 ≤ y ∧ y ≤ 500000000) : -1000000000 ≤ miX g x y ∧ miX g x y ≤ 1000000000 := by
 unfold miX; split <;> omega
set_option maxHeartbeats 400000 in
theorem norm_any (g x y : Int) (w : World) (b1 : -500000000 ≤ x ∧ x ≤ 500000000) (b2 : -500000000 ≤ y ∧ y ≤ 500000000) :
  Calls Tryd.prog 89 #[.int .i64 (g), .agg #[.int .i64 (x), .int .i64 (y)]] w fun e w' => e = .returned (.int .i64 (tmX x y (miX g x y) (-y))) ∧ Below w.heap.size w w' := by
 have b3 := miX_bd g x y b1 b2
 go_enter Tryd.func89, Tryd.ntmps89
 go_wp2_with fail
 go_region_held3 (fun w' => w'.cell? ⟨w.heap.size, 0, none⟩ = some (.int .i64 (x)) ∧ w'.cell? ⟨w.heap.size, 1, none⟩ = some (.int .i64 (y)) ∧ Below w.heap.size w w') (first | (have hH := ‹(_ ∧ _ ∧ Below _ _ _)›; go_loud (exact ⟨bCs hb hH.1, bCs hb hH.2.1, hH.2.2.trans (hb.mono hH.2.2.size)⟩)) | exact ⟨by simp, by simp, blw⟩ | go_keep) (first | (go_at_call 90; refine (mirrored_any g x y _ (by omega) (by omega)).mono ?_; rintro e w' ⟨rfl, hb⟩) | (go_at_call 96; refine (times_any g x y _ _ _ (by omega) (by omega) (by omega) (by omega)).mono ?_; rintro e w' ⟨rfl, hb⟩))
 go_wp2
 go_ret
 exact ⟨rfl, (‹(_ ∧ _ ∧ Below _ _ _)›).2.2⟩
end
section
open Go.RowKit
theorem one_cells {W : World} {b : Nat} {x y : Int} (h0 : W.cell? ⟨b, 0, none⟩ = some (.int .i64 (x))) (h1 : W.cell? ⟨b, 1, none⟩ = some (.int .i64 (y))) :
 ∀ i, i < 1 → W.cell? ⟨b, i * 2, none⟩ = some (.int .i64 (([(x,y)].getD i (0,0)).1)) ∧ W.cell? ⟨b, i * 2 + 1, none⟩ = some (.int .i64 (([(x,y)].getD i (0,0)).2)) := by
 intro i hi
 have : i = 0 := by omega
 subst this
 exact ⟨h0, h1⟩
theorem one_wf {x y : Int} (h0 : (-9223372036854775808 ≤ x ∧ x ≤ 9223372036854775807)) (h1 : (-9223372036854775808 ≤ y ∧ y ≤ 9223372036854775807)) : ∀ i, i < 1 → ((-9223372036854775808 ≤ ([(x,y)].getD i (0,0)).1 ∧ ([(x,y)].getD i (0,0)).1 ≤ 9223372036854775807)) ∧ ((-9223372036854775808 ≤ ([(x,y)].getD i (0,0)).2 ∧ ([(x,y)].getD i (0,0)).2 ≤ 9223372036854775807)) := by
 intro i hi
 have : i = 0 := by omega
 subst this
 exact ⟨h0, h1⟩
def tdX (x y : Int) : Int := if smB x y = true then x else 0
def tdY (x y : Int) : Int := if smB x y = true then y else 0
def tdE (x y : Int) : Int := if smB x y = true then 0 else 4
set_option maxHeartbeats 400000 in
theorem told_any (x y : Int) (w : World) (h0 : (-9223372036854775808 ≤ x ∧ x ≤ 9223372036854775807)) (h1 : (-9223372036854775808 ≤ y ∧ y ≤ 9223372036854775807)) :
  Calls Tryd.prog 73 #[.agg #[.int .i64 (x), .int .i64 (y)]] w fun e w' => e = .returned (.tuple #[.agg #[.int .i64 (tdX x y), .int .i64 (tdY x y)], .int .i64 (tdE x y)]) ∧ Below w.heap.size w w' := by
 have HW := Lib.hid (one_wf h0 h1)
 clear h0 h1
 rcases hs : smB x y with _ | _
 ·have HS : Hid (smL [(x,y)] = false) := Lib.hid (by simp [smL, hs])
  have HX : Hid (smB x y = false) := Lib.hid hs
  clear hs
  go_enter Tryd.func73, Tryd.ntmps73
  go_wp2_with fail
  refine (small_any (w.heap.size+1+1) 1 1 [(x,y)] _ rfl (by simp) (one_cells (by simp [go_sem]) (by simp [go_sem])) HW.out (by omega)).mono ?_
  rintro e w1 ⟨rfl, hb1⟩
  rw [HS.out]
  obtain ⟨E1, d1, rfl⟩ := bExt hb1; clear hb1
  go_wp2
  refine bodyPost_ret (v := .tuple #[.agg #[.int .i64 (0), .int .i64 (0)], .int .i64 4]) (by simp [results, Tryd.results73, go_sem]) rfl ⟨by simp [tdX, tdY, tdE, HX.out], blw⟩
 ·have HS : Hid (smL [(x,y)] = true) := Lib.hid (by simp [smL, hs])
  have HX : Hid (smB x y = true) := Lib.hid hs
  clear hs
  go_enter Tryd.func73, Tryd.ntmps73
  go_wp2_with fail
  refine (small_any (w.heap.size+1+1) 1 1 [(x,y)] _ rfl (by simp) (one_cells (by simp [go_sem]) (by simp [go_sem])) HW.out (by omega)).mono ?_
  rintro e w1 ⟨rfl, hb1⟩
  rw [HS.out]
  obtain ⟨E1, d1, rfl⟩ := bExt hb1; clear hb1
  go_wp2
  refine bodyPost_ret (v := .tuple #[.agg #[.int .i64 (x), .int .i64 (y)], .int .i64 0]) (by simp [results, Tryd.results73, go_sem]) rfl ⟨by simp [tdX, tdY, tdE, HX.out], blw⟩
end
section
open Go.RowKit
theorem fltE_two (g x y x2 y2 : Int) : fltE g [(x,y),(x2,y2)] = if ¬ (g = 4 ∨ g = 6) then 1 else if ¬ ((-1048576 ≤ x ∧ x ≤ 1048576 ∧ -1048576 ≤ y ∧ y ≤ 1048576) ∧ (-1048576 ≤ x2 ∧ x2 ≤ 1048576 ∧ -1048576 ≤ y2 ∧ y2 ≤ 1048576)) then 3 else 0 := by
 simp only [fltE, knB, smL, smB, List.all_cons, List.all_nil, Bool.and_true, decide_eq_false_iff_not, Bool.and_eq_false_iff, Decidable.not_and_iff_or_not]
theorem fltE_one (g x y : Int) : fltE g [(x,y)] = if ¬ (g = 4 ∨ g = 6) then 1 else if ¬ (-1048576 ≤ x ∧ x ≤ 1048576 ∧ -1048576 ≤ y ∧ y ≤ 1048576) then 3 else 0 := by
 simp only [fltE, knB, smL, smB, List.all_cons, List.all_nil, Bool.and_true, decide_eq_false_iff_not]
theorem fltE_two_ok {g x y x2 y2 : Int} (h : fltE g [(x,y),(x2,y2)] = 0) : (g = 4 ∨ g = 6) ∧ (-1048576 ≤ x ∧ x ≤ 1048576 ∧ -1048576 ≤ y ∧ y ≤ 1048576) ∧ (-1048576 ≤ x2 ∧ x2 ≤ 1048576 ∧ -1048576 ≤ y2 ∧ y2 ≤ 1048576) := by
 rw [fltE_two] at h
 split at h
 ·omega
 ·split at h <;> omega
theorem fltE_one_ok {g x y : Int} (h : fltE g [(x,y)] = 0) : (g = 4 ∨ g = 6) ∧ (-1048576 ≤ x ∧ x ≤ 1048576 ∧ -1048576 ≤ y ∧ y ≤ 1048576) := by
 rw [fltE_one] at h
 split at h
 ·omega
 ·split at h <;> omega
end
section
open Go.RowKit
def NE (g x y : Int) : Int := fltE g [(x,y)]
def NV (g x y : Int) : Int := if fltE g [(x,y)] = 0 then tmX x y (miX g x y) (-y) else 0
set_option maxRecDepth 100000 in
set_option maxHeartbeats 400000 in
theorem Norm_any (g x y : Int) (w : World) (h0 : (-9223372036854775808 ≤ x ∧ x ≤ 9223372036854775807)) (h1 : (-9223372036854775808 ≤ y ∧ y ≤ 9223372036854775807)) :
  Calls Tryd.prog 71 #[.int .i64 (g), .agg #[.int .i64 (x), .int .i64 (y)]] w fun r w' => r = .returned (.tuple #[.int .i64 (NV g x y), .int .i64 (NE g x y)]) ∧ Below w.heap.size w w' := by
 have HW := Lib.hid (one_wf h0 h1)
 clear h0 h1
 by_cases he : fltE g [(x,y)] = 0
 ·obtain ⟨h1, h2⟩ := fltE_one_ok he
  have HE := Lib.hid he
  have HP : Hid (Ending.returned (.tuple #[.int .i64 (NV g x y), .int .i64 (NE g x y)]) = Ending.returned (.tuple #[.int .i64 (tmX x y (miX g x y) (-y)), .int .i64 (0)])) := Lib.hid (by simp [NV, NE, he])
  clear he h1
  go_enter Tryd.func71, Tryd.ntmps71
  go_wp2_with fail
  refine (fault_any g (w.heap.size+1) 1 1 [(x,y)] _ rfl (by simp) (one_cells (by simp [go_sem]) (by simp [go_sem])) HW.out (by omega)).mono ?_
  rintro e w1 ⟨rfl, hb1⟩
  rw [HE.out]
  obtain ⟨E1, d1, rfl⟩ := bExt hb1; clear hb1
  go_wp2_with fail
  refine (norm_any g x y _ (by omega) (by omega)).mono ?_
  rintro e w1 ⟨rfl, hb2⟩
  obtain ⟨E2, d2, rfl⟩ := bExt hb2; clear hb2
  go_wp2
  go_ret2
  exact ⟨HP.out.symm, blw⟩
 ·have hb : (fltE g [(x,y)] != 0) = true := by simpa using he
  have HP : Hid (Ending.returned (.tuple #[.int .i64 (NV g x y), .int .i64 (NE g x y)]) = Ending.returned (.tuple #[.int .i64 (0), .int .i64 (fltE g [(x,y)])])) := Lib.hid (by simp [NV, NE, he])
  clear he
  go_enter Tryd.func71, Tryd.ntmps71
  go_wp2_with fail
  refine (fault_any g (w.heap.size+1) 1 1 [(x,y)] _ rfl (by simp) (one_cells (by simp [go_sem]) (by simp [go_sem])) HW.out (by omega)).mono ?_
  rintro e w1 ⟨rfl, hb1⟩
  obtain ⟨E1, d1, rfl⟩ := bExt hb1; clear hb1
  go_wp2
  go_ret2
  exact ⟨HP.out.symm, blw⟩
end
section
open Go.RowKit
theorem tmX_comm (x y a b : Int) : tmX x y a b = tmX a b x y := by simp only [tmX, Int.mul_comm]
theorem tmY_comm (g x y a b : Int) : tmY g x y a b = tmY g a b x y := by
 simp only [tmY]; rw [Int.mul_comm x b, Int.mul_comm y a, Int.mul_comm y b, Int.add_comm (b*x)]
def sm (x y : Int) : Prop := -1048576 ≤ x ∧ x ≤ 1048576 ∧ -1048576 ≤ y ∧ y ≤ 1048576
theorem norm_mul (g x y a b : Int) : tmX x y (miX g x y) (-y) * tmX a b (miX g a b) (-b) = tmX (tmX x y a b) (tmY g x y a b) (miX g (tmX x y a b) (tmY g x y a b)) (-(tmY g x y a b)) := by
 by_cases h : g = 6 <;> simp only [tmX, tmY, miX, h, if_true, if_false] <;> grind
theorem tm_dist (g x y a b c d : Int) : tmX (x + a) (y + b) c d = tmX x y c d + tmX a b c d ∧ tmY g (x + a) (y + b) c d = tmY g x y c d + tmY g a b c d := by
 by_cases h : g = 6 <;> simp only [tmX, tmY, h, if_true, if_false] <;> constructor <;> grind
end
namespace Z
abbrev Pt := Int × Int
def G (g : Int) : Prop := g = 4 ∨ g = 6
def mul (g : Int) (a b : Pt) : Pt := (tmX a.1 a.2 b.1 b.2, tmY g a.1 a.2 b.1 b.2)
def add (a b : Pt) : Pt := (a.1 + b.1, a.2 + b.2)
def sub (a b : Pt) : Pt := (a.1 - b.1, a.2 - b.2)
def conj (g : Int) (a : Pt) : Pt := (miX g a.1 a.2, -a.2)
def nrm (g : Int) (a : Pt) : Int := tmX a.1 a.2 (miX g a.1 a.2) (-a.2)
theorem ext2 {a b : Pt} (h1 : a.1 = b.1) (h2 : a.2 = b.2) : a = b := by
 obtain ⟨a1, a2⟩ := a; obtain ⟨b1, b2⟩ := b; simp_all
theorem mul_comm (g : Int) (a b : Pt) : mul g a b = mul g b a := ext2 (tmX_comm ..) (tmY_comm ..)
theorem add_mul (g : Int) (a b c : Pt) : mul g (add a b) c = add (mul g a c) (mul g b c) := ext2 (tm_dist g ..).1 (tm_dist g ..).2
theorem mul_add (g : Int) (a b c : Pt) : mul g c (add a b) = add (mul g c a) (mul g c b) := by rw [mul_comm, add_mul, mul_comm g a, mul_comm g b]
theorem one_mul (g : Int) (a : Pt) : mul g (1,0) a = a := by apply ext2 <;> simp [mul, tmX, tmY]
theorem zero_mul (g : Int) (a : Pt) : mul g (0,0) a = (0,0) := by apply ext2 <;> simp [mul, tmX, tmY]
theorem mul_zero (g : Int) (a : Pt) : mul g a (0,0) = (0,0) := by rw [mul_comm, zero_mul]
theorem sub_mul (g : Int) (a b c : Pt) : mul g (sub a b) c = sub (mul g a c) (mul g b c) := by
 apply ext2
 ·simp only [mul, sub, tmX]; grind
 ·simp only [mul, sub, tmY]; split <;> grind
theorem nrm_mul (g : Int) (a b : Pt) : nrm g (mul g a b) = nrm g a * nrm g b := (norm_mul g ..).symm
theorem nrm4 (a : Pt) : nrm 4 a = a.1 * a.1 + a.2 * a.2 := by simp [nrm, tmX, miX, Int.mul_neg]
theorem nrm6 (a : Pt) : nrm 6 a = a.1 * a.1 + a.1 * a.2 + a.2 * a.2 := by simp [nrm, tmX, miX, Int.mul_neg, Int.mul_add]
theorem sq_nonneg (x : Int) : 0 ≤ x * x := by
 rcases Int.le_total 0 x with h | h
 ·exact Int.mul_nonneg h h
 ·have := Int.mul_nonneg (show 0 ≤ -x by omega) (show 0 ≤ -x by omega); rwa [Int.neg_mul_neg] at this
theorem sq_pos {x : Int} (h : x ≠ 0) : 1 ≤ x * x := by
 rcases Int.lt_or_gt_of_ne h with h | h
 ·have := Int.mul_le_mul (show 1 ≤ -x by omega) (show 1 ≤ -x by omega) (by omega) (by omega); rw [Int.neg_mul_neg] at this; omega
 ·have := Int.mul_le_mul (show 1 ≤ x by omega) (show 1 ≤ x by omega) (by omega) (by omega); omega
theorem nrm6' (a : Pt) : 4 * nrm 6 a = (2 * a.1 + a.2) * (2 * a.1 + a.2) + 3 * (a.2 * a.2) := by rw [nrm6]; grind
theorem nrm6'' (a : Pt) : 4 * nrm 6 a = (a.1 + 2 * a.2) * (a.1 + 2 * a.2) + 3 * (a.1 * a.1) := by rw [nrm6]; grind
theorem nrm_nonneg {g : Int} (hg : G g) (a : Pt) : 0 ≤ nrm g a := by
 rcases hg with rfl | rfl
 ·rw [nrm4]; have := sq_nonneg a.1; have := sq_nonneg a.2; omega
 ·have h := nrm6' a; have := sq_nonneg (2 * a.1 + a.2); have := sq_nonneg a.2; omega
theorem nrm_pos {g : Int} (hg : G g) {a : Pt} (h : a ≠ (0,0)) : 1 ≤ nrm g a := by
 have hne : a.1 ≠ 0 ∨ a.2 ≠ 0 := by
  by_cases h1 : a.1 = 0
  ·right; intro h2; exact h (ext2 h1 h2)
  ·exact .inl h1
 rcases hg with rfl | rfl
 ·rw [nrm4]; have h1 := sq_nonneg a.1; have h2 := sq_nonneg a.2
  rcases hne with h | h <;> have := sq_pos h <;> omega
 ·have h1 := sq_nonneg (2 * a.1 + a.2); have h2 := sq_nonneg (a.1 + 2 * a.2)
  have e1 := nrm6' a; have e2 := nrm6'' a
  rcases hne with h | h <;> have := sq_pos h <;> omega
theorem nrm_conj {g : Int} (hg : G g) (a : Pt) : nrm g (conj g a) = nrm g a := by
 rcases hg with rfl | rfl
 ·rw [nrm4, nrm4]; simp [conj, miX, Int.neg_mul_neg]
 ·rw [nrm6, nrm6]; simp [conj, miX]; grind
def Dvd (g : Int) (a b : Pt) : Prop := ∃ q, b = mul g q a
theorem dvd_refl (g : Int) (a : Pt) : Dvd g a a := ⟨(1,0), (one_mul g a).symm⟩
structure IsGcd (g : Int) (a b d : Pt) : Prop where
 left : Dvd g d a
 right : Dvd g d b
 comb : ∃ u v, d = add (mul g u a) (mul g v b)
theorem part_bd {g : Int} (hg : G g) {a : Pt} {B : Int} (hB : 0 ≤ B) (h : 4 * nrm g a ≤ 3 * (B * B)) : (-B ≤ a.1 ∧ a.1 ≤ B) ∧ (-B ≤ a.2 ∧ a.2 ≤ B) := by
 have key : ∀ z : Int, z * z ≤ B * B → -B ≤ z ∧ z ≤ B := by
  intro z hz
  constructor
  ·refine Decidable.byContradiction fun hc => ?_
   have := Int.mul_le_mul (show B + 1 ≤ -z by omega) (show B + 1 ≤ -z by omega) (by omega) (by omega)
   rw [Int.neg_mul_neg, Int.add_mul, Int.mul_add] at this; omega
  ·refine Decidable.byContradiction fun hc => ?_
   have := Int.mul_le_mul (show B + 1 ≤ z by omega) (show B + 1 ≤ z by omega) (by omega) (by omega)
   rw [Int.add_mul, Int.mul_add] at this; omega
 rcases hg with rfl | rfl
 ·rw [nrm4] at h
  have h1 := sq_nonneg a.1; have h2 := sq_nonneg a.2; have h3 := sq_nonneg B
  exact ⟨key _ (by omega), key _ (by omega)⟩
 ·have h1 := sq_nonneg (2 * a.1 + a.2); have h2 := sq_nonneg (a.1 + 2 * a.2)
  have e1 := nrm6' a; have e2 := nrm6'' a
  exact ⟨key _ (by omega), key _ (by omega)⟩
theorem nrm_bd {g : Int} (hg : G g) {a : Pt} {B : Int} (h1 : -B ≤ a.1 ∧ a.1 ≤ B) (h2 : -B ≤ a.2 ∧ a.2 ≤ B) : nrm g a ≤ 3 * (B * B) := by
 have m1 := mul_bd h1.1 h1.2 h1.1 h1.2
 have m2 := mul_bd h1.1 h1.2 h2.1 h2.2
 have m3 := mul_bd h2.1 h2.2 h2.1 h2.2
 rcases hg with rfl | rfl
 ·rw [nrm4]; have := sq_nonneg B; omega
 ·rw [nrm6]; omega
end Z
namespace Z
def near (a b : Int) : Int := (2 * a + b) / (2 * b)
def over (g : Int) (a b : Pt) : Pt := (near (mul g a (conj g b)).1 (nrm g b), near (mul g a (conj g b)).2 (nrm g b))
def turn (g : Int) (p : Pt) : Pt := (-p.2, if g = 4 then p.1 else p.1 + p.2)
def tn (g : Int) : Nat → Pt → Pt
 | 0, p => p
 | k + 1, p => turn g (tn g k p)
theorem turn_mul {g : Int} (hg : G g) (p : Pt) : turn g p = mul g (0,1) p := by
 rcases hg with rfl | rfl <;> apply ext2 <;> simp [turn, mul, tmX, tmY]
theorem nrm_turn {g : Int} (hg : G g) (p : Pt) : nrm g (turn g p) = nrm g p := by
 rw [turn_mul hg, nrm_mul]
 rcases hg with rfl | rfl <;> simp [nrm, tmX, miX]
theorem nrm_tn {g : Int} (hg : G g) (k : Nat) (p : Pt) : nrm g (tn g k p) = nrm g p := by
 induction k with
 | zero => rfl
 | succ k ih => rw [tn, nrm_turn hg, ih]
theorem turn_zero (g : Int) : turn g (0,0) = (0,0) := by simp [turn]
def rank (g : Int) (p : Pt) : Nat :=
 if g = 4 then (if 0 < p.1 ∧ 0 ≤ p.2 then 0 else if 0 ≤ p.1 ∧ p.2 < 0 then 1 else if p.1 < 0 ∧ p.2 ≤ 0 then 2 else 3)
 else (if 0 < p.1 ∧ 0 ≤ p.2 then 0 else if p.2 < 0 ∧ 0 ≤ p.1 + p.2 then 1 else if 0 ≤ p.1 ∧ p.1 + p.2 < 0 then 2 else if p.1 < 0 ∧ p.2 ≤ 0 then 3 else if 0 < p.2 ∧ p.1 + p.2 ≤ 0 then 4 else 5)
end Z
namespace Z
structure Mv where
 t : Nat
 f : Bool
 o : Pt
deriving DecidableEq
def mir (g : Int) (f : Bool) (z : Pt) : Pt := if f then conj g z else z
def lin (g : Int) (t : Nat) (f : Bool) (z : Pt) : Pt := tn g t (mir g f z)
def To (g : Int) (m : Mv) (z : Pt) : Pt := add (lin g m.t m.f z) m.o
def idm : Mv := ⟨0, false, (0,0)⟩
def bothT (g : Int) (f h : Mv) : Nat := if f.f then (f.t + (g.toNat - h.t)) % g.toNat else (f.t + h.t) % g.toNat
def both (g : Int) (f h : Mv) : Mv := ⟨bothT g f h, f.f ^^ h.f, To g f h.o⟩
def okT (g : Int) (m : Mv) : Prop := m.t < g.toNat
theorem tn_add (g : Int) (a b : Nat) (p : Pt) : tn g (a + b) p = tn g a (tn g b p) := by
 induction a with
 | zero => simp [tn]
 | succ a ih => rw [show a + 1 + b = (a + b) + 1 by omega, tn, tn, ih]
theorem tn_full {g : Int} (hg : G g) (p : Pt) : tn g g.toNat p = p := by
 rcases hg with rfl | rfl
 ·apply ext2 <;> simp [tn, turn]
 ·apply ext2 <;> simp [tn, turn] <;> omega
theorem tn_full_mul {g : Int} (hg : G g) (k : Nat) (p : Pt) : tn g (g.toNat * k) p = p := by
 induction k with
 | zero => rfl
 | succ k ih => rw [Nat.mul_succ, tn_add, tn_full hg, ih]
theorem tn_mod {g : Int} (hg : G g) (k : Nat) (p : Pt) : tn g (k % g.toNat) p = tn g k p := by
 have h := Nat.div_add_mod k g.toNat
 conv => rhs; rw [← h, tn_add, tn_full_mul hg]
theorem conj_conj (g : Int) (p : Pt) : conj g (conj g p) = p := by
 apply ext2 <;> simp [conj, miX] <;> split <;> omega
theorem turn_conj {g : Int} (hg : G g) (p : Pt) : turn g (conj g (turn g p)) = conj g p := by
 rcases hg with rfl | rfl <;> apply ext2 <;> simp [turn, conj, miX] <;> omega
theorem tn_conj {g : Int} (hg : G g) (k : Nat) (p : Pt) : tn g k (conj g (tn g k p)) = conj g p := by
 induction k with
 | zero => rfl
 | succ k ih => rw [Nat.add_comm k 1, tn_add, Nat.add_comm 1 k]; show tn g 1 (tn g k (conj g (turn g (tn g k p)))) = _; rw [← tn_add, Nat.add_comm 1 k, tn_add]; show tn g k (turn g (conj g (turn g (tn g k p)))) = _; rw [turn_conj hg, ih]
theorem conj_tn {g : Int} (hg : G g) {k : Nat} (hk : k ≤ g.toNat) (p : Pt) : conj g (tn g k p) = tn g (g.toNat - k) (conj g p) := by
 have h := tn_conj hg k p
 rw [← h, ← tn_add, Nat.sub_add_cancel hk, tn_full hg]
theorem conj_add (g : Int) (a b : Pt) : conj g (add a b) = add (conj g a) (conj g b) := by
 apply ext2 <;> simp [conj, add, miX] <;> (try split) <;> omega
theorem turn_add (g : Int) (a b : Pt) : turn g (add a b) = add (turn g a) (turn g b) := by
 apply ext2 <;> simp [turn, add] <;> (try split) <;> omega
theorem tn_addp (g : Int) (k : Nat) (a b : Pt) : tn g k (add a b) = add (tn g k a) (tn g k b) := by
 induction k with
 | zero => rfl
 | succ k ih => rw [tn, ih, turn_add]; rfl
theorem lin_add (g : Int) (t : Nat) (f : Bool) (a b : Pt) : lin g t f (add a b) = add (lin g t f a) (lin g t f b) := by
 cases f
 ·exact tn_addp g t a b
 ·simp only [lin, mir, if_true]; rw [conj_add, tn_addp]
theorem lin_both {g : Int} (hg : G g) {f h : Mv} (hh : okT g h) (z : Pt) : lin g (bothT g f h) (f.f ^^ h.f) z = lin g f.t f.f (lin g h.t h.f z) := by
 unfold okT at hh
 cases e1 : f.f <;> cases e2 : h.f <;> simp only [lin, mir, bothT, e1, e2, if_true, if_false, Bool.false_eq_true, Bool.xor_false, Bool.xor_true, Bool.not_true, Bool.not_false]
 ·rw [tn_mod hg, tn_add]
 ·rw [tn_mod hg, tn_add]
 ·rw [tn_mod hg, tn_add, conj_tn hg (by omega)]
 ·rw [tn_mod hg, tn_add, conj_tn hg (by omega), conj_conj]
theorem add_assoc (a b c : Pt) : add (add a b) c = add a (add b c) := by apply ext2 <;> simp [add] <;> omega
theorem To_both {g : Int} (hg : G g) {f h : Mv} (hh : okT g h) (z : Pt) : To g (both g f h) z = To g f (To g h z) := by
 simp only [To, both]
 rw [lin_both hg hh, lin_add, add_assoc]
theorem both_ok {g : Int} (hg : G g) (f h : Mv) : okT g (both g f h) := by
 have : 0 < g.toNat := by rcases hg with rfl | rfl <;> decide
 unfold okT both bothT
 simp only
 split <;> exact Nat.mod_lt _ this
theorem lin_inj4 : ∀ (t1 t2 : Fin 4) (f1 f2 : Bool), lin 4 t1 f1 (1,0) = lin 4 t2 f2 (1,0) → lin 4 t1 f1 (0,1) = lin 4 t2 f2 (0,1) → t1 = t2 ∧ f1 = f2 := by decide +kernel
theorem lin_inj6 : ∀ (t1 t2 : Fin 6) (f1 f2 : Bool), lin 6 t1 f1 (1,0) = lin 6 t2 f2 (1,0) → lin 6 t1 f1 (0,1) = lin 6 t2 f2 (0,1) → t1 = t2 ∧ f1 = f2 := by decide +kernel
theorem lin_inj {g : Int} (hg : G g) {t1 t2 : Nat} {f1 f2 : Bool} (h1 : t1 < g.toNat) (h2 : t2 < g.toNat) (e1 : lin g t1 f1 (1,0) = lin g t2 f2 (1,0)) (e2 : lin g t1 f1 (0,1) = lin g t2 f2 (0,1)) : t1 = t2 ∧ f1 = f2 := by
 rcases hg with rfl | rfl
 ·have := lin_inj4 ⟨t1, h1⟩ ⟨t2, h2⟩ f1 f2 e1 e2; simpa using this
 ·have := lin_inj6 ⟨t1, h1⟩ ⟨t2, h2⟩ f1 f2 e1 e2; simpa using this
theorem add_cancel {a b c : Pt} (h : add a c = add b c) : a = b := by
 simp only [add, Prod.mk.injEq] at h
 exact ext2 (by omega) (by omega)
theorem tn_zero (g : Int) (k : Nat) : tn g k (0,0) = (0,0) := by
 induction k with
 | zero => rfl
 | succ k ih => rw [tn, ih, turn_zero]
theorem lin_zero (g : Int) (t : Nat) (f : Bool) : lin g t f (0,0) = (0,0) := by
 have e : mir g f (0,0) = (0,0) := by cases f <;> simp [mir, conj, miX]
 rw [lin, e, tn_zero]
theorem To_zero (g : Int) (m : Mv) : To g m (0,0) = m.o := by rw [To, lin_zero]; simp [add]
theorem ext_maps {g : Int} (hg : G g) {m n : Mv} (hm : okT g m) (hn : okT g n) (h : ∀ z, To g m z = To g n z) : m = n := by
 have h0 := h (0,0)
 rw [To_zero, To_zero] at h0
 have h1 := h (1,0)
 have h2 := h (0,1)
 simp only [To, h0] at h1 h2
 obtain ⟨e1, e2⟩ := lin_inj hg hm hn (add_cancel h1) (add_cancel h2)
 cases m; cases n; simp_all
theorem both_assoc {g : Int} (hg : G g) {f h k : Mv} (hh : okT g h) (hk : okT g k) : both g (both g f h) k = both g f (both g h k) :=
 ext_maps hg (both_ok hg _ _) (both_ok hg _ _) fun z => by rw [To_both hg hk, To_both hg hh, To_both hg (both_ok hg _ _), To_both hg hk]
def neg (p : Pt) : Pt := (-p.1, -p.2)
def invT (g : Int) (f : Mv) : Nat := if f.f then f.t else (g.toNat - f.t) % g.toNat
def inv (g : Int) (f : Mv) : Mv := ⟨invT g f, f.f, neg (lin g (invT g f) f.f f.o)⟩
theorem inv_ok {g : Int} (hg : G g) {f : Mv} (hf : okT g f) : okT g (inv g f) := by
 have : 0 < g.toNat := by rcases hg with rfl | rfl <;> decide
 unfold okT inv invT at *
 simp only
 split
 ·exact hf
 ·exact Nat.mod_lt _ this
theorem neg_eq (g : Int) (p : Pt) : add p (neg p) = (0,0) ∧ add (neg p) p = (0,0) := by
 constructor <;> apply ext2 <;> simp [add, neg] <;> omega
theorem bothT_inv {g : Int} (hg : G g) {f : Mv} (hf : okT g f) : bothT g (inv g f) f = 0 ∧ bothT g f (inv g f) = 0 := by
 unfold okT at hf
 have hm : ∀ a, a < g.toNat → ((g.toNat - a) % g.toNat + a) % g.toNat = 0 := by
  intro a ha
  rw [Nat.mod_add_mod, Nat.sub_add_cancel (by omega), Nat.mod_self]
 have hm2 : ∀ a, a < g.toNat → (a + (g.toNat - a)) % g.toNat = 0 := by
  intro a ha
  rw [show a + (g.toNat - a) = g.toNat by omega, Nat.mod_self]
 cases e : f.f
 ·simp only [bothT, inv, invT, e, Bool.false_eq_true, if_false]
  exact ⟨hm _ hf, by rw [Nat.add_comm]; exact hm _ hf⟩
 ·simp only [bothT, inv, invT, e, if_true]
  exact ⟨hm2 _ hf, hm2 _ hf⟩
theorem both_inv {g : Int} (hg : G g) {f : Mv} (hf : okT g f) : both g (inv g f) f = idm ∧ both g f (inv g f) = idm := by
 have hb := bothT_inv hg hf
 constructor
 ·unfold both
  rw [hb.1]
  have e2 : ((inv g f).f ^^ f.f) = false := by simp [inv]
  have e3 : To g (inv g f) f.o = (0,0) := (neg_eq g _).1
  rw [e2, e3]; rfl
 ·unfold both
  rw [hb.2]
  have e2 : (f.f ^^ (inv g f).f) = false := by simp [inv]
  have e3 : To g f (inv g f).o = (0,0) := by
   have hl := lin_both hg (f := f) (h := inv g f) (inv_ok hg hf) f.o
   rw [hb.2, e2] at hl
   have h4 : lin g f.t f.f (lin g (inv g f).t (inv g f).f f.o) = f.o := by rw [← hl]; rfl
   have h5 : add (lin g f.t f.f (lin g (inv g f).t (inv g f).f f.o)) (lin g f.t f.f (inv g f).o) = (0,0) := by
    rw [← lin_add]
    have : add (lin g (inv g f).t (inv g f).f f.o) (inv g f).o = (0,0) := (neg_eq g _).1
    rw [this, lin_zero]
   rw [h4] at h5
   unfold To
   simp only [add, Prod.mk.injEq] at h5 ⊢
   omega
  rw [e2, e3]; rfl
def pw (g : Int) (f : Mv) : Nat → Mv
 | 0 => idm
 | n + 1 => both g f (pw g f n)
theorem idm_ok {g : Int} (hg : G g) : okT g idm := by rcases hg with rfl | rfl <;> simp [okT, idm]
theorem nrm_add_le {g : Int} (hg : G g) (a r : Pt) : nrm g (add a r) ≤ 2 * nrm g a + 2 * nrm g r := by
 have h := nrm_nonneg hg (sub a r)
 have e : nrm g (sub a r) + nrm g (add a r) = 2 * nrm g a + 2 * nrm g r := by
  rcases hg with rfl | rfl
  ·simp only [nrm4, sub, add]; grind
  ·simp only [nrm6, sub, add]; grind
 omega
theorem nrm_lin {g : Int} (hg : G g) (t : Nat) (f : Bool) (z : Pt) : nrm g (lin g t f z) = nrm g z := by
 cases f
 ·exact nrm_tn hg t z
 ·simp only [lin, mir, if_true]; rw [nrm_tn hg, nrm_conj hg]
theorem nrm_To {g : Int} (hg : G g) (m : Mv) (z : Pt) : nrm g (To g m z) ≤ 2 * nrm g z + 2 * nrm g m.o := by
 have := nrm_add_le hg (lin g m.t m.f z) m.o
 rw [nrm_lin hg] at this
 exact this
end Z
end Go.Proofs.YtajdoobkfbdgoaaDoor
