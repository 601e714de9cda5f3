/- Lemmas on which the law of this seat rests; each states its own conditions. -/
import Derived.Test.YtajdoobkfbdgoaaDoorC05
import Derived.Laws.AppendOwnNone
import Derived.Maps.AppendAt
import Derived.Test.YtajdoobkfbdgoaaDoorC03
import Derived.Deep.RegionHeld3
import Derived.Test.YtajdoobkfbdgoaaDoorC04
import Derived.IntWalk
import Derived.Test.YtajdoobkfbdgoaaDoorRows
set_option linter.unusedVariables false
set_option linter.unusedSimpArgs false
namespace Go.Proofs.YtajdoobkfbdgoaaDoor
section
open Go.RowKit
open Go.Shelf
attribute [local go_sem] Oper.semAt_some
theorem keepsOthers_of_below {W W' : World} (h : Below W.heap.size W W') : KeepsOthers W W' :=
 ⟨h.size, fun k o hk _ => by rw [h.block k (Array.getElem?_eq_some_iff.1 hk).1]; exact hk⟩
theorem Boxed.below {W W' : World} {B : Nat} {t : TypeId} {v : Value} (h : Boxed W B t v) (hb : Below W.heap.size W W') : Boxed W' B t v := (hb.block B h.lt).trans h
theorem own_kept {A B : World} {base e size k : Nat} {v : Value} {xs : List Value} {row : Option Nat} (h : A.ownsRow base e size v k xs) (hg : A.grownBy B row) (hr : ∀ r, row = some r → ∃ o : Obj, A.heap[r]? = some o ∧ o.isCells = false) : B.ownsRow base e size v k xs := by
 refine h.kept hg ?_
 rcases h.2 with ⟨rfl, _⟩ | ⟨g, cap, cur, rfl, _, hgb, _⟩
 ·exact .inl rfl
 ·refine .inr fun e' => ?_
  obtain ⟨o, ho, hc⟩ := hr g (by simpa [Value.ownBlock] using e'.symm)
  rw [hgb] at ho; cases ho; cases hc
theorem box_kept {A B : World} {b : Nat} {t : TypeId} {v : Value} {row : Option Nat} (h : Boxed A b t v) (hg : A.grownBy B row) (hr : ∀ r, row = some r → ∃ o : Obj, A.heap[r]? = some o ∧ o.isCells = false) : Boxed B b t v :=
 h.kept hg (fun e' => by obtain ⟨o, ho, hc⟩ := hr b e'.symm; rw [show A.heap[b]? = _ from h] at ho; cases ho; cases hc)
theorem rowIs_not_own {A : World} {b t n base e size k : Nat} {f : Nat → Value} {v : Value} {xs : List Value} (hr : A.rowIs b t n f) (h : A.ownsRow base e size v k xs) (hne : t ≠ e) : some b ≠ v.ownBlock := by
 rcases h.2 with ⟨rfl, _⟩ | ⟨g, cap, cur, rfl, _, hg, _⟩
 ·simp [Value.ownBlock]
 ·intro e'
  have e2 : b = g := by simpa [Value.ownBlock] using e'
  subst e2
  obtain ⟨cs, hb, _⟩ := hr
  rw [hb] at hg
  injection hg with hg
  injection hg with _ h5
  exact hne h5
theorem rowIs_grown {A B : World} {b t n : Nat} {f : Nat → Value} {row : Option Nat} (hr : A.rowIs b t n f) (hg : A.grownBy B row) (hne : some b ≠ row) : B.rowIs b t n f := hr.of_block (hg.block b hr.lt hne)
theorem own_nil_or {v : Value} : v = .slice none 0 0 → v.ownBlock = none := fun e => by subst e; rfl
structure AIv (w : World) (kb ob tb W H n : Nat) (a : Option Addr) (c : Nat) (vk vo : Value) (ks : List (Fin H)) (os : List Nat) (W' : World) : Prop where
 k1 : Boxed W' kb 186 vk
 k2 : W'.ownsRow w.heap.size 31 1 vk ks.length (ks.map fun z => rowV a c W z.val)
 o1 : Boxed W' ob 23 vo
 o2 : W'.ownsRow w.heap.size 3 1 vo os.length (natV os)
 rt : W'.rowIs tb 33 3 (tF W H (.slice a n c))
 bel : Below w.heap.size w W'
def AI (w : World) (kb ob tb W H n : Nat) (a : Option Addr) (c : Nat) (st : List (Fin H) × List Nat) (W' : World) : Prop := ∃ vk vo, AIv w kb ob tb W H n a c vk vo st.1 st.2 W'
section
variable {w : World} {kb ob tb W H n : Nat} {a : Option Addr} {c : Nat} {vk vo : Value} {ks : List (Fin H)} {os : List Nat} {st : List (Fin H) × List Nat} {A B : World}
theorem AIv.kept {row : Option Nat} (h : AIv w kb ob tb W H n a c vk vo ks os A) (hg : A.grownBy B row) (hr : ∀ r, row = some r → w.heap.size ≤ r ∧ ∃ o : Obj, A.heap[r]? = some o ∧ o.isCells = false) : AIv w kb ob tb W H n a c vk vo ks os B :=
 have hr' : ∀ r, row = some r → ∃ o : Obj, A.heap[r]? = some o ∧ o.isCells = false := fun r e => (hr r e).2
 ⟨box_kept h.k1 hg hr', own_kept h.k2 hg hr', box_kept h.o1 hg hr', own_kept h.o2 hg hr', rowIs_kept h.rt hg hr', h.bel.grown hg h.bel.size (fun k e => (hr k e).1)⟩
theorem AI.kept {row : Option Nat} (h : AI w kb ob tb W H n a c st A) (hg : A.grownBy B row) (hr : ∀ r, row = some r → w.heap.size ≤ r ∧ ∃ o : Obj, A.heap[r]? = some o ∧ o.isCells = false) : AI w kb ob tb W H n a c st B := by
 obtain ⟨vk, vo, h⟩ := h
 exact ⟨vk, vo, h.kept hg hr⟩
theorem AIv.below (h : AIv w kb ob tb W H n a c vk vo ks os A) (hb : Below A.heap.size A B) : AIv w kb ob tb W H n a c vk vo ks os B :=
 ⟨Boxed.below h.k1 hb, ownBelow h.k2 hb, Boxed.below h.o1 hb, ownBelow h.o2 hb, rowBelow h.rt hb h.rt.lt, h.bel.trans (hb.mono h.bel.size)⟩
theorem AIv.appOut (h : AIv w kb ob tb W H n a c vk vo ks os A) {v' : Value} {ix : Nat} {w1 : World} {o : Obj} (hw : w.heap.size ≤ ob) (hkb : kb ≠ ob) (htb : tb ≠ ob)
  (hown : w1.ownsRow w.heap.size 3 1 v' (os.length + 1) (natV os ++ [.int .i64 (ix)])) (hg : (A.alloc o).grownBy w1 vo.ownBlock) :
  AIv w kb ob tb W H n a c vk v' ks (os ++ [ix]) (w1.setCell ⟨ob, 0, none⟩ v') ∧ KeepsOthers A (w1.setCell ⟨ob, 0, none⟩ v') ∧ Boxed w1 ob 23 vo := by
 obtain ⟨b1, b2, b3, b4, b5⟩ := h.o1.appended (by decide) h.o2 h.bel.size hw hown hg
 have k2w : w1.ownsRow w.heap.size 31 1 vk ks.length (ks.map fun z => rowV a c W z.val) := (h.k2.alloc o).kept hg (by
  rcases own_ne h.k2 h.o2 (by decide) with e | e
  ·exact .inl (own_nil_or e)
  ·exact .inr e)
 refine ⟨⟨?_, ?_, b2, ?_, ?_, h.bel.trans b5⟩, b4, b1⟩
 ·exact Boxed.other ((h.k1.alloc o).kept hg (h.k1.not_row (by decide) h.o2)) hkb v'
 ·exact k2w.kept (grownBy_setCell' w1 ob v') (.inr (Ne.symm (b1.not_row (by decide) k2w)))
 ·rw [List.length_append, natV_snoc]; exact b3
 ·exact (rowIs_grown (h.rt.alloc o) hg (rowIs_not_own h.rt h.o2 (by decide))).setOther htb _
theorem AIv.appKnown (h : AIv w kb ob tb W H n a c vk vo ks os A) {v' : Value} {y : Fin H} {w1 : World} (hw : w.heap.size ≤ kb) (hkb : ob ≠ kb) (htb : tb ≠ kb)
  (hown : w1.ownsRow w.heap.size 31 1 v' (ks.length + 1) ((ks.map fun z => rowV a c W z.val) ++ [rowV a c W y.val])) (hg : A.grownBy w1 vk.ownBlock) :
  AIv w kb ob tb W H n a c v' vo (ks ++ [y]) os (w1.setCell ⟨kb, 0, none⟩ v') ∧ KeepsOthers A (w1.setCell ⟨kb, 0, none⟩ v') ∧ Boxed w1 kb 186 vk ∧ Boxed w1 ob 23 vo := by
 have k1w : Boxed w1 kb 186 vk := h.k1.kept hg (h.k1.not_row (by decide) h.k2)
 have o1w : Boxed w1 ob 23 vo := h.o1.kept hg (h.o1.not_row (by decide) h.k2)
 have o2w : w1.ownsRow w.heap.size 3 1 vo os.length (natV os) := h.o2.kept hg (by
  rcases own_ne h.o2 h.k2 (by decide) with e | e
  ·exact .inl (own_nil_or e)
  ·exact .inr e)
 refine ⟨⟨k1w.set v', ?_, Boxed.other o1w hkb v', ?_, ?_, ?_⟩, ?_, k1w, o1w⟩
 ·rw [List.length_append, List.map_append]
  exact hown.kept (grownBy_setCell' w1 kb v') (.inr (Ne.symm (k1w.not_row (by decide) hown)))
 ·exact o2w.kept (grownBy_setCell' w1 kb v') (.inr (Ne.symm (k1w.not_row (by decide) o2w)))
 ·exact (rowIs_grown h.rt hg (rowIs_not_own h.rt h.k2 (by decide))).setOther htb _
 ·exact (h.bel.grown hg h.bel.size (fun k e => (h.k2.lt k e).1)).setCell (p := ⟨kb, 0, none⟩) hw _
 ·refine (KeepsOthers.of_grownBy hg fun j o ej hj => ?_).trans (KeepsOthers.setCell _ _ _)
  rcases h.k2.2 with ⟨rfl, _⟩ | ⟨g, cap, cur, rfl, _, hgb, _⟩
  ·simp [Value.ownBlock] at ej
  ·obtain rfl : g = j := by simpa [Value.ownBlock] using ej
   rw [hgb] at hj; cases hj; rfl
end
theorem rows_of_own {w : World} {base W H n : Nat} {a : Option Addr} {c : Nat} {bs : List Bool} {ks : List (Fin H)} {A0 : Option Addr} {c0 : Nat} (h : w.ownsRow base 31 1 (.slice A0 ks.length c0) ks.length (ks.map fun z => rowV a c W z.val)) (hT : OkT w a n c bs) (hn : n = W * H) : RowsAt w A0 ks.length W (ks.map fun z => rowL bs W z.val) := by
 refine ⟨by simp, fun hk => ?_⟩
 rcases h.2 with ⟨e, h0⟩ | ⟨g, cap, cur, e, _⟩
 ·omega
 ·injection e with e1 e2 e3
  subst e1
  have hlt : g < w.heap.size := by
   have := h.cellAt 0 (by omega)
   rw [List.getElem?_map, List.getElem?_eq_getElem hk] at this
   exact World.block_lt_of_cell? w _ this
  refine ⟨g, 0, rfl, hlt, fun j hj => ?_⟩
  obtain ⟨A, cc, hv, hb⟩ := rowV_bools (a := a) (bs := bs) hT.cap hn (ks[j]).isLt
  refine ⟨A, cc, ?_, ?_⟩
  ·rw [Nat.zero_add, h.cellAt j (by omega), List.getElem?_map, List.getElem?_eq_getElem hj]
   simp only [Option.map_some]
   rw [hv]
  ·have := (hb w hT).bits
   rwa [show (ks.map fun z => rowL bs W z.val).getD j [] = rowL bs W (ks[j]).val by simp [List.getD, hj]]
theorem IsInts.of_natsB {w : World} {base : Nat} {v : Value} {L : List Nat} (h : w.ownsRow base 3 1 v L.length (natV L)) : ∃ a c, v = .slice a L.length c ∧ IsInts w a L.length (natI L) ∧ ∀ b o, a = some ⟨b, o, none⟩ → base ≤ b := by
 obtain ⟨a, c, rfl, hi⟩ := IsInts.of_nats h
 refine ⟨a, c, rfl, hi, fun b o hb' => ?_⟩
 rcases h.2 with ⟨e, e0⟩ | ⟨g, cap, cur, e, hb, _⟩
 ·injection e with e1 e2 e3
  rw [e1] at hb'; cases hb'
 ·injection e with e1 e2 e3
  rw [e1] at hb'; cases hb'; exact hb
def IntsPostG (L : List Nat) (w : World) (r : Ending) (w' : World) : Prop :=
 ∃ A c, r = .returned (.tuple #[.slice A L.length c, .int .i64 (0)]) ∧ IsInts w' A L.length (natI L) ∧ Below w.heap.size w w' ∧ ∀ b o, A = some ⟨b, o, none⟩ → w.heap.size ≤ b
set_option maxRecDepth 100000 in
set_option maxHeartbeats 8000000 in
theorem Alike_okG (W H : Nat) (a : Option Addr) (c : Nat) (bs : List Bool) (w : World) (hT : OkT w a (W * H) c bs) (hW : W ≤ 64) (hH : H ≤ 64) :
  Calls Tryd.prog 75 #[.agg #[.int .i64 (W), .int .i64 (H), .slice a (W*H) c]] w (IntsPostG (alikeL W H bs) w) := by
 have HT := Lib.hid hT
 have h4 : W * H ≤ 4096 := Nat.le_trans (Nat.mul_le_mul hW hH) (by omega)
 have HWr := Lib.hid (fun w => tWrong_any W H a (W * H) c w (by omega) (by omega) (by omega))
 have HW0 := Lib.hid (wrT_ok hW hH)
 have hcap := hT.cap
 have hlim := hT.lim
 clear hT
 refine (callsIn_wide (n := 9)).1 ?_
 refine callsIn_of_wp_marks Tryd.func75 rfl trivial ?_ rfl
 simp only [Tryd.ntmps75, List.size_toArray, List.length_cons, List.length_nil, Nat.reduceAdd, Nat.reduceSub, Array.replicate_succ, Array.replicate_zero, List.push_toArray, List.append_toArray, List.nil_append, List.cons_append]
 refine wpIn_wide.2 ?_
 generalize hn : W * H = n at *
 have HN := Lib.hid hn
 clear hn
 go_wp2_with fail
 have hrq := tF_alloc w W H (.slice a n c) rfl
 have hB0 : Below w.heap.size w (w.alloc (.cells #[.int .i64 (W), .int .i64 (H), .slice a n c] 33)) := blw
 have hsz : (w.alloc (.cells #[.int .i64 (W), .int .i64 (H), .slice a n c] 33)).heap.size = w.heap.size + 1 := by simp
 generalize w.alloc (.cells #[.int .i64 (W), .int .i64 (H), .slice a n c] 33) = W0 at *
 refine (HWr.out _).mono ?_
 rintro r w1 ⟨rfl, hb⟩
 rw [HW0.out]
 replace hrq := rowBelow hrq hb (by omega)
 have d0 : w1.cell? ⟨w.heap.size, 0, none⟩ = some (.int .i64 (W)) := hrq.cell (i := 0) (by omega)
 have d1 : w1.cell? ⟨w.heap.size, 1, none⟩ = some (.int .i64 (H)) := hrq.cell (i := 1) (by omega)
 have d2 : w1.cell? ⟨w.heap.size, 2, none⟩ = some (.slice a n c) := hrq.cell (i := 2) (by omega)
 have HB1 := Lib.hid (hB0.trans (hb.mono hB0.size))
 have hsz1 : w.heap.size + 1 ≤ w1.heap.size := by have := hb.size; omega
 have lq : LtW w.heap.size w1 := by unfold LtW; omega
 clear hrq hB0 hb hsz
 go_wp2_with fail
 refine (callsIn_wide.1 (rows_in W H a n c 9 _)).mono ?_
 rintro r w3 ⟨rfl, rfl⟩
 go_wp2_with fail
 have hko : Boxed (((w1.alloc (.cells #[.slice none 0 0] 23)).alloc (.cells #[.slice none 0 0] 186)).alloc (.cells #[.int .i64 (W), .int .i64 (H), .slice a n c] 33)) w1.heap.size 23 (.slice none 0 0) := ((Boxed.new w1 23 (.slice none 0 0)).alloc _).alloc _
 have hkk : Boxed (((w1.alloc (.cells #[.slice none 0 0] 23)).alloc (.cells #[.slice none 0 0] 186)).alloc (.cells #[.int .i64 (W), .int .i64 (H), .slice a n c] 33)) (w1.heap.size+1) 186 (.slice none 0 0) := by
  have := (Boxed.new (w1.alloc (.cells #[.slice none 0 0] 23)) 186 (.slice none 0 0)).alloc (.cells #[.int .i64 (W), .int .i64 (H), .slice a n c] 33)
  rwa [World.size_alloc] at this
 have hrt := tF_alloc ((w1.alloc (.cells #[.slice none 0 0] 23)).alloc (.cells #[.slice none 0 0] 186)) W H (.slice a n c) rfl
 simp only [World.size_alloc] at hrt
 have hbl : Below w.heap.size w (((w1.alloc (.cells #[.slice none 0 0] 23)).alloc (.cells #[.slice none 0 0] 186)).alloc (.cells #[.int .i64 (W), .int .i64 (H), .slice a n c] 33)) := ((HB1.out.alloc HB1.out.size _).alloc (by simp; omega) _).alloc (by simp; omega) _
 have hs3 : (((w1.alloc (.cells #[.slice none 0 0] 23)).alloc (.cells #[.slice none 0 0] 186)).alloc (.cells #[.int .i64 (W), .int .i64 (H), .slice a n c] 33)).heap.size = w1.heap.size + 3 := by simp
 generalize ((w1.alloc (.cells #[.slice none 0 0] 23)).alloc (.cells #[.slice none 0 0] 186)).alloc (.cells #[.int .i64 (W), .int .i64 (H), .slice a n c] 33) = W3 at *
 obtain ⟨ob, ho⟩ : ∃ ob, w1.heap.size = ob := ⟨_, rfl⟩
 rw [ho] at hko hkk hrt hs3 hsz1 ⊢
 have hAI : AI w (ob+1) ob (ob+1+1) W H n a c (aFold H W bs []) W3 := ⟨_, _, hkk, World.ownsRow_nil _ _ _ _, hko, World.ownsRow_nil _ _ _ _, hrt, hbl⟩
 have hTB : TB (ob+1+1) W H a n c bs W3 := TB.of_row hrt (HT.out.bits.below hbl)
 clear hko hkk hrt hbl d0 d1 d2 lq ho
 refine (wpIn_wide (n := 9)).1 ?_
 refine wpIn_rangeFunc_ownH rfl (by omega) (gf := 57) (lb := #[.pointer (some ⟨ob+1+1, 0, none⟩)]) rfl trivial (enters_of Tryd.func57 (by kernel_rfl) rfl)
  (rows_stops 8 (by omega) (ob+1+1) W H a n c bs hW hH HN.out.symm hcap hlim W3 hTB) (fun h k x => k (h x))
  (fun A l o o' _ ho hc _ x => x.kept (grownBy_putObj' A l o') (fun r e => by cases e; exact ⟨o, ho, hc⟩)) (Below.refl _ _) (fun _ => rfl)
  (fun pre W' => AI w (ob+1) ob (ob+1+1) W H n a c (aFold H W bs pre) W') (fun _ _ _ => False)
  (fun s A B row hs hg hr => hs.kept hg (fun r e => ⟨by have := (hr r e).1; omega, (hr r e).2⟩)) (fun _ _ _ _ _ hs _ _ => hs) hAI
  (fun x a' W' => ∃ B, ob + 2 < B ∧ Boxed W' B 31 (rowV a c W x.val) ∧ a' = { tmps := #[.agg #[.int .i64 (W), .int .i64 (H), .slice a n c], .pointer (some ⟨w.heap.size, 0, none⟩), .slice none 0 0, .int .i64 0, .int .i64 0, .pointer (some ⟨ob, 0, none⟩), .pointer (some ⟨ob + 1, 0, none⟩), undef, .pointer (some ⟨B, 0, none⟩), undef, .agg #[.int .i64 (W), .int .i64 (H), .slice a n c], .int .i64 0, .int .i64 0, .bool false, undef, .agg #[.int .i64 (W), .int .i64 (H), .slice a n c], .func (.func 57) #[] #[.pointer (some ⟨ob + 1 + 1, 0, none⟩)], .int .i64 ((x.val : Nat)), rowV a c W x.val, undef, undef, undef, undef, undef, undef, undef, undef, undef, undef, undef, undef, undef, undef, undef, undef], defers := [] })
  (fun x a' _ X Y row hs hg hr => by
   obtain ⟨B, h1, h3, h4⟩ := hs
   exact ⟨B, h1, boxed_own B 31 (fun (_ : Unit) => _) () X Y row h3 hg (fun r e => (hr r e).2), h4⟩)
  ?assign ?body ?done ?stop
 case assign =>
  rintro l pre x W4 K hi hK
  obtain ⟨vk, vo, hi⟩ := hi
  have hrt := hi.rt.lt
  have HI4 := Lib.hid hi
  obtain ⟨A1, cc1, hrv, _⟩ := rowV_bools (a := a) (bs := bs) hcap HN.out.symm x.isLt
  simp only [hrv] at hK ⊢
  clear hi hrv
  gi_wp2
  have hb4 : Below W4.heap.size W4 (W4.alloc (.cells #[.slice A1 W cc1] 31)) := (Below.refl _ _).alloc (Nat.le_refl _) _
  exact hK _ _ ((KeepsOthers.alloc _ _).from _) (fun h => h.below hb4) ⟨vk, vo, HI4.out.below hb4⟩ ⟨W4.heap.size, hrt, Boxed.new W4 31 _, rfl⟩
 case body =>
  rintro l pre x a' W4 hl ⟨r, hr⟩ hA4 ⟨B, hB, bR, rfl⟩ hlt
  obtain ⟨y, hy⟩ := x
  simp only at bR ⊢
  obtain ⟨A1, cc1, hrv, hrow⟩ := rowV_bools (a := a) (bs := bs) hcap HN.out.symm hy
  simp only [hrv] at bR ⊢
  have hfs := aFold_snoc H W bs pre ⟨y, hy⟩
  have hfl := aFold_len H W bs pre
  generalize aFold H W bs pre = st at *
  obtain ⟨ks, os⟩ := st
  simp only at hfl
  have hol : os.length ≤ 64 ∧ ks.length ≤ 64 := by omega
  clear hfl
  obtain ⟨vk, vo, hA⟩ := hA4
  simp only at hA
  have hT4 := HT.out.below hA.bel
  have hk2 := hA.k2
  obtain ⟨Ak, ck, rfl⟩ := own_form hk2
  have hRA := rows_of_own hk2 hT4 HN.out.symm
  have hJ := (hrow W4 hT4).bits
  have cR := bR.cell
  have cK := hA.k1.cell
  have HIX := Lib.hid (index_any Ak ks.length ck W (ks.map fun z => rowL bs W z.val) B A1 cc1 (rowL bs W y) W4 hRA cR hJ (by omega) (by omega))
  have hs4 := hA.bel.size
  have HFS := Lib.hid hfs
  have hil : fIdx (ks.map fun z => rowL bs W z.val) (rowL bs W y) ≤ ks.length := by have := fIdx_le (ks.map fun z => rowL bs W z.val) (rowL bs W y); simpa using this
  have HST : Hid (aStep H W bs (ks, os) ⟨y, hy⟩ = (if fIdx (ks.map fun z => rowL bs W z.val) (rowL bs W y) < ks.length then ks else ks ++ [⟨y, hy⟩], os ++ [fIdx (ks.map fun z => rowL bs W z.val) (rowL bs W y)])) := Lib.hid rfl
  generalize fIdx (ks.map fun z => rowL bs W z.val) (rowL bs W y) = ix at *
  have HA4 := Lib.hid hA; have HBR := Lib.hid bR
  have HRV := Lib.hid hrv
  clear hA bR hfs hk2 hRA hJ hT4 hrow hrv
  gi_wp2
  refine ⟨trivial, ?_⟩
  gi_at_call 92
  refine (CallsIn.inRound l (callsIn_wide.2 HIX.out)).mono ?_
  rintro e W5 ⟨rfl, hb5⟩
  have HA5 := Lib.hid (HA4.out.below hb5); have HBR5 := Lib.hid (Boxed.below HBR.out hb5)
  have HKO5 := Lib.hid (keepsOthers_of_below hb5)
  have hsz5 : W4.heap.size ≤ W5.heap.size := hb5.size
  have co : W5.cell? ⟨ob, 0, none⟩ = some vo := HA5.out.o1.cell
  have ck5 : W5.cell? ⟨ob+1, 0, none⟩ = some (.slice Ak ks.length ck) := HA5.out.k1.cell
  have cr5 : W5.cell? ⟨B, 0, none⟩ = some (.slice A1 W cc1) := HBR5.out.cell
  clear hb5 cR cK
  by_cases hix : ix < ks.length
  ·rw [show idxV ks.length ix = (ix : Int) from if_pos hix]
   gi_wp2_with (gi_at_builtin; refine wpAppIn okInts' rfl (.tmp 30) (.tmp 32) rfl w.heap.size _ _ _ #[.int .i64 ix] rfl HA5.out.o2 rfl rfl ?_ (by omega) (by omega) (by omega) ?_)
   ·simp [Value.oneCell']
   intro v' w2 hown2 hg2
   obtain ⟨g2, cap2, rfl⟩ := ownsRow_succ hown2
   obtain ⟨hAN, hKN, hbo⟩ := HA5.out.appOut (by omega) (by omega) (by omega) hown2 hg2
   have cbo := hbo.cell; have fbo := hbo.frozen
   have HAN := Lib.hid hAN; have HKN := Lib.hid (HKO5.out.trans hKN)
   clear hAN hKN hbo hown2 hg2
   gi_wp2
   exact ⟨HKN.out.from _, fun _ => TB.of_row HAN.out.rt (HT.out.below HAN.out.bel).bits, by
    have e := HFS.out
    rw [HST.out, if_pos hix] at e
    show AI _ _ _ _ _ _ _ _ _ (aFold H W bs (pre ++ [⟨y, hy⟩])) _
    rw [e]; exact ⟨_, _, HAN.out⟩⟩
  ·rw [show idxV ks.length ix = -1 from if_neg hix]
   gi_wp2
   refine region_inRound (by kernel_rfl) (by kernel_rfl) (fun a w h => h) (anyT_any (S := fun w' => Boxed w' (ob+1) 186 (.slice Ak ks.length ck)) (stop := fun j => j == 7) _ _ _ _ ?_)
   (refine anyT_take (i := 0) (.slice Ak ks.length ck) rfl (by kernel_rfl) (fun c a w h => h) (.inl ⟨by simp [Region.wanted], fun wx hx => ?_⟩) HA5.out.k1 ?_; (have e1 := Boxed.cell hx; clear hx; go_simp))
   (refine anyT_take (i := 1) (.int .i64 ((ks.length : Nat))) rfl (by kernel_rfl) (fun c a w h => h) (.inl ⟨by simp [Region.wanted], fun wx hx => ?_⟩) HA5.out.k1 ?_; (have e1 := Boxed.cell hx; clear hx; go_simp))
   (refine anyT_take (i := 2) (.slice Ak ks.length ck) rfl (by kernel_rfl) (fun c a w h => h) (.inl ⟨by simp [Region.wanted], fun wx hx => ?_⟩) HA5.out.k1 ?_; (have e1 := Boxed.cell hx; clear hx; go_simp))
   refine anyT_one (i := 3) (by kernel_rfl) rfl rfl ?_
   go_simp
   refine ⟨HA5.out.k1, ?_⟩
   refine anyT_one (i := 4) (by kernel_rfl) rfl rfl ?_
   go_simp
   have hb6 : Below W5.heap.size W5 (W5.alloc (.cells #[.slice A1 W cc1] 31)).drew := ((Below.refl _ _).alloc (Nat.le_refl _) _).drew
   have HA6 := Lib.hid (HA5.out.below hb6)
   have HKO6 := Lib.hid (HKO5.out.trans (keepsOthers_of_below hb6))
   have hcs : ∀ (j : Nat) (u : Value), (#[Value.slice A1 W cc1])[j]? = some u → (W5.alloc (.cells #[.slice A1 W cc1] 31)).drew.cell? ⟨W5.heap.size, j, none⟩ = some u := fun j u hj => by
    have := World.cell?_alloc_new W5 (#[Value.slice A1 W cc1]) 31 j
    rw [cell_drew_own, this]; exact hj
   have hs6 : W5.heap.size ≤ (W5.alloc (.cells #[.slice A1 W cc1] 31)).drew.heap.size := hb6.size
   generalize (W5.alloc (.cells #[.slice A1 W cc1] 31)).drew = W6 at *
   have HCS := Lib.hid hcs
   clear hb6 hcs
   refine ⟨HA6.out.k1, ?_⟩
   refine anyT_one (i := 5) (by kernel_rfl) rfl rfl ?_
   refine opApp okRows (.tmp 26) (.tmp 28) rfl w.heap.size (.slice Ak ks.length ck) ks.length _ #[.slice A1 W cc1] W5.heap.size rfl HA6.out.k2 rfl HCS.out rfl (by simp [Value.oneCell']) (by omega) (by omega) (by omega) ?_
   intro v' w1 hown1 hg1
   obtain ⟨g1, cap1, rfl⟩ := ownsRow_succ hown1
   obtain ⟨hA7, hK7, hk7, ho7⟩ := HA6.out.appKnown (y := ⟨y, hy⟩) (by omega) (by omega) (by omega) (by rw [HRV.out]; exact hown1) hg1
   refine ⟨fun _ => hk7, ?_⟩
   refine anyT_one (i := 6) (by kernel_rfl) rfl rfl ?_
   go_simp
   refine anyT_one (i := 7) (by kernel_rfl) rfl rfl ?_
   have ck7 := hk7.cell; have fk7 := hk7.frozen
   have HA7 := Lib.hid hA7; have HK7 := Lib.hid (HKO6.out.trans hK7)
   clear hA7 hK7 hk7 ho7 hown1 hg1
   go_simp
   refine anyT_done (by kernel_rfl) ?_
   have co7 := HA7.out.o1.cell
   have hs7 := HA7.out.bel.size
   have hik : ix = ks.length := by omega
   generalize w1.setCell ⟨ob+1, 0, none⟩ (.slice (some ⟨g1, 0, none⟩) (ks.length + 1) cap1) = W7 at *
   gi_wp2_with (gi_at_builtin; refine wpAppIn okInts' rfl (.tmp 30) (.tmp 32) rfl w.heap.size _ _ _ #[.int .i64 (ks.length : Nat)] rfl HA7.out.o2 rfl rfl ?_ (by omega) (by omega) (by omega) ?_)
   ·simp [Value.oneCell']
   intro v' w2 hown2 hg2
   obtain ⟨g2, cap2, rfl⟩ := ownsRow_succ hown2
   obtain ⟨hAN, hKN, hbo⟩ := HA7.out.appOut (by omega) (by omega) (by omega) hown2 hg2
   have cbo := hbo.cell; have fbo := hbo.frozen
   have HAN := Lib.hid hAN; have HKN := Lib.hid (HK7.out.trans hKN)
   clear hAN hKN hbo hown2 hg2 co7
   gi_wp2
   exact ⟨HKN.out.from _, fun _ => TB.of_row HAN.out.rt (HT.out.below HAN.out.bel).bits, by
    have e := HFS.out
    rw [HST.out, if_neg hix] at e
    show AI _ _ _ _ _ _ _ _ _ (aFold H W bs (pre ++ [⟨y, hy⟩])) _
    rw [e, hik]; exact ⟨_, _, HAN.out⟩⟩
 case done =>
  rintro D ys W4 hD rfl ⟨vk, vo, hA⟩ hK
  have hlen : (aFold H W bs (List.finRange H)).2 = alikeL W H bs := rfl
  rw [hlen] at hA
  have hll := alikeL_len W H bs
  generalize alikeL W H bs = L at *
  have co := hA.o1.cell
  have HA := Lib.hid hA
  have HKD := Lib.hid hK
  have HLL := Lib.hid hll
  clear hA hK hlen hll
  go_wp2
  refine ⟨by simp, .inl ⟨_, _, rfl, run_takeDeferred HKD.out, ?_⟩⟩
  obtain ⟨A0, c0, e, hI, hIb⟩ := IsInts.of_natsB (ownsRow_putObj HA.out.o2 (.deferred none) HKD.out rfl)
  subst e
  refine ⟨.tuple #[.slice A0 L.length c0, .int .i64 (0)], by simp [results, Tryd.f75, go_sem], ?_⟩
  exact ⟨A0, c0, rfl, hI, HA.out.bel.trans (belowK_b (w := w) (Nat.le_refl _) W4 D _ _ (by omega) HKD.out rfl rfl), hIb⟩
 case stop =>
  rintro D c pre W' _ _ h _
  exact h.elim
end
section
open Go.RowKit
theorem mul64n {W H : Nat} (hW : W ≤ 64) (hH : H ≤ 64) : W * H ≤ 4096 := Nat.le_trans (Nat.mul_le_mul hW hH) (by omega)
end
section
open Go.RowKit
namespace Ef
def crs (W : Nat) (cs : List Int) (a b : Nat) : Option Int :=
 if a < W ∧ W ≤ b then some (cs.getD ((b - W) * W + a) 0)
 else if b < W ∧ W ≤ a then some (cs.getD ((a - W) * W + b) 0) else none
def g (p : List Int) (i : Nat) : Int := p.getD i (-1)
def ClosedAt (W : Nat) (cs p : List Int) (a : Nat) : Prop := ∀ b v, b < p.length → crs W cs a b = some v → g p a = v ∨ g p b = v
def Closed (W : Nat) (cs p : List Int) : Prop := ∀ a, a < p.length → 0 ≤ g p a → ClosedAt W cs p a
def Extd (p q : List Int) : Prop := q.length = p.length ∧ ∀ i, i < p.length → 0 ≤ g p i → g q i = g p i
def Good (p : List Int) : Prop := ∀ i, i < p.length → -1 ≤ g p i ∧ g p i < 62
def Least (W : Nat) (cs p r : List Int) : Prop := Extd p r ∧ Closed W cs r ∧ Good r ∧ ∀ q, Good q → Extd p q → Closed W cs q → Extd r q
def Never (W : Nat) (cs p : List Int) : Prop := ∀ q, Good q → Extd p q → ¬ Closed W cs q
inductive Str (W : Nat) (cs : List Int) (N : Nat) : Nat → List Int → Prop
 | zero : Str W cs N 0 (List.replicate N (-1))
 | keep {i : Nat} {p : List Int} : Str W cs N i p → i < N → 0 ≤ g p i → Str W cs N (i + 1) p
 | tie {i : Nat} {p r : List Int} {k : Nat} : Str W cs N i p → i < N → g p i < 0 → k < 62 → (∀ j : Nat, j < k → Never W cs (p.set i j)) → Least W cs (p.set i k) r → Str W cs N (i + 1) r
end Ef
end
section
open Go.RowKit
theorem own_none {w : World} {base e size n k c : Nat} {xs : List Value} (h : w.ownsRow base e size (.slice none k c) n xs) : c = 0 := by
 rcases h.2 with ⟨e1, _⟩ | ⟨g, cap, cur, e1, _⟩
 ·injection e1
 ·cases e1
theorem wpAppV {W : World} {ops : Array Oper} {rest : List Oper} {o : Oper} {a : Act} {Q : Exit → Act → World → Prop} {t e bytes : Nat} {z : Value} (hE : ElemOk t e 1 bytes z)
  (hgd : o.guard = none) (s x : Operand) (ho : o.op = .call { callee := .builtin .append, args := #[s, x], argTypes := #[t, t] })
  (base : Nat) (v : Value) (n : Nat) (xs : List Value) (A : Option Addr) (m c : Nat) (news : List Value) (hs : a.eval s = v) (hown : W.ownsRow base e 1 v n xs)
  (hx : a.eval x = .slice A m c) (hc : A = none → c = 0) (hl : news.length = m) (hI : 0 < m → ∃ b of, A = some ⟨b, of, none⟩ ∧ ∀ j u, news[j]? = some u → W.cell? ⟨b, of + j, none⟩ = some u)
  (h1 : ∀ u ∈ news, u.oneCell' = true) (hb : bytes ≤ 4096) (hn : n + m ≤ 1000000000) (hbase : base ≤ W.heap.size)
  (h : ∀ v' w', w'.ownsRow base e 1 v' (n + m) (xs ++ news) → W.grownBy w' v.ownBlock → (v'.ownBlock = v.ownBlock ∨ v'.ownBlock = some W.heap.size) → wpList Tryd.prog ops Q rest (a.put o.dst v') w') : wpList Tryd.prog ops Q (o :: rest) a W := by
 obtain ⟨h2, h3, h4, h5⟩ := hE
 obtain ⟨i0, hi, hz0, hz1, hz2⟩ := info_parts h3
 rcases A with _ | ad
 ·have hm : m = 0 := by
   rcases Nat.eq_zero_or_pos m with h0 | h0
   ·exact h0
   ·obtain ⟨_, _, e, _⟩ := hI h0; cases e
  subst hm
  have hc0 := hc rfl
  subst hc0
  have hnn : news = [] := List.length_eq_zero_iff.1 hl
  subst hnn
  refine wpList_append_own_none hgd s x t ho base e i0 1 h2 hi v n xs hs hown hx (h v W ?_ (World.grownBy.refl _ _) (.inl rfl))
  simpa using hown
 ·refine wpList_append_own_at _ hgd s x t ho base e i0 z 1 bytes h2 hi hz0 hz1 hz2 h4 h5 v n xs hs hown ad m c news hx (by simpa using hl) ?_ h1 (by unfold maxLen; omega) ?_ hbase ?_
  ·intro j u hj
   have hjm : j < m := by rw [← hl]; exact (List.getElem?_eq_some_iff.1 hj).1
   obtain ⟨b, of, e, hcell⟩ := hI (by omega)
   cases e
   rw [Addr.add_lit]
   exact hcell j u hj
  ·calc (n + m) * bytes ≤ 1000000001 * 4096 := Nat.mul_le_mul (by omega) hb
    _ ≤ 140737488355328 := by omega
  ·intro v' w' hown' hg _ hat
   exact h v' w' hown' hg hat
end
section
open Go.RowKit
section
variable {P : Program} {ops : Array Oper} {md : Region.Mode} {Q : Exit → Act → World → Prop}
end
end
section
open Go.RowKit
structure BelowX (base mb : Nat) (W w : World) : Prop where
 os : w.os = W.os
 tape : w.tape = W.tape
 output : w.output = W.output
 size : base ≤ w.heap.size
 block : ∀ k, k < base → k ≠ mb → w.heap[k]? = W.heap[k]?
theorem BelowX.refl {base mb : Nat} {W : World} (h : base ≤ W.heap.size) : BelowX base mb W W := ⟨rfl, rfl, rfl, h, fun _ _ _ => rfl⟩
theorem BelowX.below {base mb q : Nat} {W w : World} (h : BelowX base mb W w) (hW : W.heap.size = base) (hq : q ≤ mb) (hm : mb < base) : Below q W w :=
 ⟨h.os, h.tape, h.output, by rw [hW]; exact h.size, fun k hk => h.block k (by omega) (by omega)⟩
theorem BelowX.rowIs {base mb b t n : Nat} {f : Nat → Value} {W w : World} (h : BelowX base mb W w) (hr : W.rowIs b t n f) (hb : b < base) (hm : b ≠ mb) : w.rowIs b t n f := hr.of_block (h.block b hb hm)
structure FB (base mb : Nat) (W H : Int) (L : List Bool) (W1 : World) (v : Value) (w : World) : Prop where
 row : w.rowIs mb 33 3 (tF W H v)
 own : w.ownsRow base 4 1 v L.length (L.map Value.bool)
 bel : BelowX base mb W1 w
theorem FB.app {base mb : Nat} {W H : Int} {L : List Bool} {n : Nat} {W1 w WE w2 : World} {v : Value} {A : Option Addr} {cp : Nat} {bit : Bool} (hr : w.rowIs mb 33 3 (tF W H v)) (hx : BelowX base mb W1 w) (hE : Below w.heap.size w WE) (hm : mb < base)
  (hown : w2.ownsRow base 4 1 (.slice A (n + 1) cp) (n + 1) (L.map Value.bool ++ (#[Value.bool bit]).toList)) (hb : Below base WE w2) :
  FB base mb W H (L ++ [bit]) W1 (.slice A (n + 1) cp) (w2.setCell ⟨mb, 2, none⟩ (.slice A (n + 1) cp)) := by
 have hlt : mb < w.heap.size := Nat.lt_of_lt_of_le hm hx.size
 have hn : (L ++ [bit]).length = n + 1 := by
  have h1 := hown.1
  simp at h1
  simp; omega
 have hsz : w.heap.size ≤ WE.heap.size := hE.size
 refine ⟨?_, ?_, ?_⟩
 ·refine ((rowBelow (rowBelow hr hE hlt) hb hm).set 2 _).congr fun i hi => ?_
  have hi3 : i = 0 ∨ i = 1 ∨ i = 2 := by omega
  rcases hi3 with rfl | rfl | rfl <;> rfl
 ·rw [hn, List.map_append]
  exact ownsRow_setCell_below hown (a := ⟨mb, 2, none⟩) hm _
 ·refine ⟨hb.os.trans (hE.os.trans hx.os), hb.tape.trans (hE.tape.trans hx.tape), hb.output.trans (hE.output.trans hx.output), ?_, fun k hk hkm => ?_⟩
  ·rw [World.size_setCell]; exact Nat.le_trans hx.size (Nat.le_trans hE.size hb.size)
  ·rw [Below.heap_setCell _ _ _ k (fun e => hkm (by rw [e])), hb.block k hk, hE.block k (Nat.lt_of_lt_of_le hk hx.size), hx.block k hk hkm]
theorem OkT.of_owns {w : World} {base : Nat} {v : Value} {L : List Bool} (h : w.ownsRow base 4 1 v L.length (L.map Value.bool)) : ∃ a c, v = .slice a L.length c ∧ OkT w a L.length c L ∧ (∀ b o, a = some ⟨b, o, none⟩ → base ≤ b) := by
 obtain ⟨a, c, rfl, hi⟩ := IsBools.of_owns (n := L.length) rfl h
 refine ⟨a, c, rfl, ⟨hi, ?_, ?_⟩, ?_⟩
 all_goals
  rcases h.2 with ⟨e, e0⟩ | ⟨g, cap, cur, e, hb, _, h1, h2, _⟩
  ·injection e with e1 e2 e3
   first | omega | (intro b o hb; rw [e1] at hb; cases hb)
  ·injection e with e1 e2 e3
   unfold maxLen at h2
   first | omega | (intro b o hb'; rw [e1] at hb'; cases hb'; exact hb)
end
section
open Go.RowKit
theorem okI8 : ElemOk 23 3 1 8 (.int .i64 0) := ⟨Tryd.underlying23, by kernel_rfl, rfl, by omega⟩
def i64v (x : Int) : Value := .int .i64 x
theorem ints_owns {w : World} {base : Nat} {v : Value} {L : List Int} (h : w.ownsRow base 3 1 v L.length (L.map i64v)) : ∃ a c, v = .slice a L.length c ∧ IsInts w a L.length L ∧ (a = none → c = 0) ∧ (∀ b o, a = some ⟨b, o, none⟩ → base ≤ b) := by
 rcases h.2 with ⟨e, e0⟩ | ⟨gb, cap, cur, e, hb, hg, h1, h2, h3, h4⟩
 ·exact ⟨none, 0, by rw [e, e0], ⟨rfl, fun hn => by omega⟩, fun _ => rfl, fun b o e => by cases e⟩
 ·refine ⟨_, _, e, ⟨rfl, fun _ => ⟨gb, 0, rfl, (Array.getElem?_eq_some_iff.1 hg).1, fun j hj => ?_⟩⟩, (fun e => by cases e), fun b o e => by cases e; exact hb⟩
  have h5 : cur[j]? = some (i64v (L.getD j 0)) := by
   rw [← Array.getElem?_toList, ← List.getElem?_take_of_lt (show j < L.length * 1 by omega), h4, List.getElem?_map, List.getElem?_eq_getElem hj]
   simp [List.getD, hj]
  simp [World.cell?, hg, h5, i64v]
end
section
open Go.RowKit
namespace Ef
section
variable {W N : Nat} {cs p0 p : List Int} {T : List Nat} {a b : Nat}
structure Inv (W : Nat) (cs : List Int) (N : Nat) (p0 p : List Int) (T : List Nat) : Prop where
 len : p.length = N
 ext : Extd p0 p
 good : Good p
 forced : ∀ q, Good q → Extd p0 q → Closed W cs q → Extd p q
 closed : ∀ x, x < N → 0 ≤ g p x → x ∉ T → ClosedAt W cs p x
 todo : ∀ x ∈ T, x < N ∧ 0 ≤ g p x
structure InvA (W : Nat) (cs : List Int) (N : Nat) (p0 p : List Int) (T : List Nat) (a b : Nat) : Prop where
 len : p.length = N
 ext : Extd p0 p
 good : Good p
 forced : ∀ q, Good q → Extd p0 q → Closed W cs q → Extd p q
 closed : ∀ x, x < N → 0 ≤ g p x → x ∉ T → x ≠ a → ClosedAt W cs p x
 todo : ∀ x ∈ T, x < N ∧ 0 ≤ g p x
 lt : a < N
 tied : 0 ≤ g p a
 upto : ∀ y v, y < b → crs W cs a y = some v → g p a = v ∨ g p y = v
def cnt (p : List Int) (N : Nat) : Nat := (List.range N).countP fun i => decide (g p i < 0)
end
end Ef
end
section
open Go.RowKit
theorem own_parts {w : World} {base e n c g : Nat} {xs : List Value} (h : w.ownsRow base e 1 (.slice (some ⟨g, 0, none⟩) n c) n xs) : xs.length = n ∧ base ≤ g ∧ n ≤ c ∧ c ≤ maxLen ∧ ∃ cur : Array Value, w.heap[g]? = some (.cells cur e (0, 0)) ∧ cur.size = c ∧ cur.toList.take n = xs := by
 have h0 := h.1
 rcases h.2 with ⟨e1, _⟩ | ⟨g', cap, cur, e1, hb, hg, h1, h2, h3, h4⟩
 ·cases e1
 ·injection e1 with e1 _ e3
  injection e1 with e1
  injection e1 with e1
  subst e1 e3
  rw [Nat.mul_one] at h0 h3 h4
  exact ⟨h0, hb, h1, h2, cur, hg, h3, h4⟩
theorem own_mk {w : World} {base e n c g : Nat} {xs : List Value} {cur : Array Value} (h0 : xs.length = n) (hb : base ≤ g) (h1 : n ≤ c) (h2 : c ≤ maxLen) (hg : w.heap[g]? = some (.cells cur e (0, 0))) (h3 : cur.size = c) (h4 : cur.toList.take n = xs) : w.ownsRow base e 1 (.slice (some ⟨g, 0, none⟩) n c) n xs :=
 ⟨by omega, .inr ⟨g, c, cur, rfl, hb, hg, h1, h2, by omega, by rw [Nat.mul_one]; exact h4⟩⟩
theorem own_base {w : World} {base base' e n c g : Nat} {xs : List Value} (h : w.ownsRow base e 1 (.slice (some ⟨g, 0, none⟩) n c) n xs) (hb : base' ≤ g) : w.ownsRow base' e 1 (.slice (some ⟨g, 0, none⟩) n c) n xs := by
 obtain ⟨a, b, d, f, cur, g1, g2, g3⟩ := own_parts h
 exact own_mk a hb d f g1 g2 g3
theorem own_cell {w : World} {base e n c g i : Nat} {xs : List Value} (h : w.ownsRow base e 1 (.slice (some ⟨g, 0, none⟩) n c) n xs) (hi : i < n) : w.cell? ⟨g, i, none⟩ = xs[i]? ∧ w.frozen? ⟨g, i, none⟩ = false := by
 obtain ⟨a, b, d, f, cur, g1, g2, g3⟩ := own_parts h
 refine ⟨?_, by simp [World.frozen?, g1]⟩
 have h5 : cur[i]? = xs[i]? := by
  rw [← Array.getElem?_toList, ← List.getElem?_take_of_lt hi, g3]
 simp [World.cell?, g1, h5]
theorem own_some {w : World} {base e n : Nat} {v : Value} {xs : List Value} (h : w.ownsRow base e 1 v n xs) (hn : 0 < n) : ∃ g c, v = .slice (some ⟨g, 0, none⟩) n c := by
 rcases h.2 with ⟨_, e0⟩ | ⟨g', cap, cur, e1, _⟩
 ·omega
 ·exact ⟨_, _, e1⟩
theorem wpAppK {W : World} {ops : Array Oper} {rest : List Oper} {o : Oper} {a : Act} {Q : Exit → Act → World → Prop} {t e bytes : Nat} {z : Value} (hE : ElemOk t e 1 bytes z)
  (hgd : o.guard = none) (s x : Operand) (ho : o.op = .call { callee := .builtin .append, args := #[s, x], argTypes := #[t, t] })
  (base : Nat) (v : Value) (n : Nat) (xs : List Value) (u : Value) (B : Nat) (hs : a.eval s = v) (hown : W.ownsRow base e 1 v n xs)
  (hx : a.eval x = .slice (some ⟨B, 0, none⟩) 1 1) (hcs : W.cell? ⟨B, 0, none⟩ = some u) (h1 : u.oneCell' = true)
  (hb : bytes ≤ 4096) (hn : n ≤ 100000000) (hbase : base ≤ W.heap.size)
  (h : ∀ v' w', w'.ownsRow base e 1 v' (n + 1) (xs ++ [u]) → W.grownBy w' v.ownBlock → (v'.ownBlock = v.ownBlock ∨ v'.ownBlock = some W.heap.size) → wpList Tryd.prog ops Q rest (a.put o.dst v') w') : wpList Tryd.prog ops Q (o :: rest) a W :=
 wpAppV hE hgd s x ho base v n xs (some ⟨B, 0, none⟩) 1 1 [u] hs hown hx (fun e => by cases e) rfl (fun _ => ⟨B, 0, rfl, fun j y hj => by
  have hj0 : j = 0 := by
   have := (List.getElem?_eq_some_iff.1 hj).1
   simpa using this
  subst hj0
  simp at hj
  subst hj
  exact hcs⟩) (fun y hy => by simp at hy; subst hy; exact h1) hb (by omega) hbase h
end
namespace Lo
def crun (f : Nat → Bool) : Nat → Nat → Nat
 | _, 0 => 0
 | x, k + 1 => if f x then crun f (x+1) k + 1 else 0
def mxTo (g : Nat → Nat) : Nat → Nat
 | 0 => 0
 | k + 1 => max (mxTo g k) (g k)
def scanTo (f : Nat → Bool) (s most : Nat) : Nat → Nat × Nat
 | 0 => (0, most)
 | i + 1 => if f (s + i) then ((scanTo f s most i).1 + 1, max (scanTo f s most i).2 ((scanTo f s most i).1 + 1)) else (0, (scanTo f s most i).2)
theorem crun_le (f : Nat → Bool) (k : Nat) : ∀ x, crun f x k ≤ k := by
  induction k with
  | zero => intro x; simp [crun]
  | succ k ih => intro x; unfold crun; split; · have := ih (x+1); omega
                 · omega
theorem crun_ge {f : Nat → Bool} {m : Nat} : ∀ {k x : Nat}, m ≤ k → (∀ j, j < m → f (x + j) = true) → m ≤ crun f x k := by
 induction m with
 | zero => intros; omega
 | succ m ih =>
  intro k x hk h
  cases k with
  | zero => omega
  | succ k =>
   have h0 := h 0 (by omega)
   simp only [Nat.add_zero] at h0
   unfold crun
   rw [h0]
   have := ih (k := k) (x := x + 1) (by omega) (fun j hj => by have := h (j+1) (by omega); rwa [show x + (j + 1) = x + 1 + j by omega] at this)
   simp; omega
theorem crun_all {f : Nat → Bool} {k : Nat} : ∀ {x j : Nat}, j < crun f x k → f (x + j) = true := by
 induction k with
 | zero => intro x j h; simp [crun] at h
 | succ k ih =>
  intro x j h
  unfold crun at h
  split at h
  ·rename_i h0
   cases j with
   | zero => exact h0
   | succ j =>
    have := ih (x := x + 1) (j := j) (by omega)
    rwa [show x + 1 + j = x + (j + 1) by omega] at this
  ·omega
theorem le_mxTo {g : Nat → Nat} {k i : Nat} (h : i < k) : g i ≤ mxTo g k := by
 induction k with
 | zero => omega
 | succ k ih =>
  unfold mxTo
  by_cases e : i = k
  ·subst e; omega
  ·have := ih (by omega); omega
theorem mxTo_le {g : Nat → Nat} {k m : Nat} (h : ∀ i, i < k → g i ≤ m) : mxTo g k ≤ m := by
 induction k with
 | zero => simp [mxTo]
 | succ k ih =>
  unfold mxTo
  have := ih (fun i hi => h i (by omega))
  have := h k (by omega)
  omega
theorem mxTo_congr {g g' : Nat → Nat} {k : Nat} (h : ∀ i, i < k → g i = g' i) : mxTo g k = mxTo g' k := by
 apply Nat.le_antisymm
 ·exact mxTo_le fun i hi => by rw [h i hi]; exact le_mxTo hi
 ·exact mxTo_le fun i hi => by rw [← h i hi]; exact le_mxTo hi
theorem scan_len (f : Nat → Bool) (s most i : Nat) : (scanTo f s most i).1 ≤ i ∧ most ≤ (scanTo f s most i).2 ∧ (∀ j, j < (scanTo f s most i).1 → f (s + i - 1 - j) = true) := by
 induction i with
 | zero => simp [scanTo]
 | succ i ih =>
  obtain ⟨h1, h2, h3⟩ := ih
  unfold scanTo
  split
  ·rename_i h
   refine ⟨by simp only; omega, by simp only; omega, fun j hj => ?_⟩
   simp only at hj
   cases j with
   | zero => rw [show s + (i+1) - 1 - 0 = s + i by omega]; exact h
   | succ j =>
    have := h3 j (by omega)
    rwa [show s + (i + 1) - 1 - (j + 1) = s + i - 1 - j by omega]
  ·exact ⟨by simp only; omega, h2, fun j hj => by simp at hj⟩
theorem scan_mono (f : Nat → Bool) (s most i : Nat) : (scanTo f s most i).2 ≤ (scanTo f s most (i+1)).2 := by
 show _ ≤ (scanTo f s most (i+1)).2
 rw [scanTo]
 split <;> simp only <;> omega
theorem scan_mono' (f : Nat → Bool) (s most i j : Nat) (h : i ≤ j) : (scanTo f s most i).2 ≤ (scanTo f s most j).2 := by
  induction j with
  | zero => obtain rfl : i = 0 := by omega
            exact Nat.le_refl _
  | succ j ih =>
    by_cases e : i = j + 1
    · subst e; exact Nat.le_refl _
    · exact Nat.le_trans (ih (by omega)) (scan_mono f s most j)
theorem scan_run {f : Nat → Bool} {s most m : Nat} : ∀ {i : Nat}, m ≤ i → (∀ j, j < m → f (s + i - 1 - j) = true) → m ≤ (scanTo f s most i).1 := by
 induction m with
 | zero => intros; omega
 | succ m ih =>
  intro i hi h
  cases i with
  | zero => omega
  | succ i =>
   have h0 := h 0 (by omega)
   rw [show s + (i+1) - 1 - 0 = s + i by omega] at h0
   rw [scanTo, if_pos h0]
   have := ih (i := i) (by omega) (fun j hj => by have := h (j+1) (by omega); rwa [show s + (i + 1) - 1 - (j + 1) = s + i - 1 - j by omega] at this)
   simp only; omega
theorem scan_ge {f : Nat → Bool} {s most i : Nat} (h : 0 < (scanTo f s most i).1) : (scanTo f s most i).1 ≤ (scanTo f s most i).2 := by
 cases i with
 | zero => simp [scanTo] at h
 | succ i =>
  rw [scanTo] at h ⊢
  split
  ·simp only; omega
  ·rename_i h0; rw [if_neg h0] at h; simp at h
theorem scan_le {f : Nat → Bool} {s most B : Nat} (hm : most ≤ B) : ∀ (i : Nat), (∀ j, j ≤ i → (scanTo f s most j).1 ≤ B) → (scanTo f s most i).2 ≤ B := by
 intro i
 induction i with
 | zero => intro _; simpa [scanTo] using hm
 | succ i ih =>
  intro h
  have h1 := ih (fun j hj => h j (by omega))
  have h2 := h (i+1) (by omega)
  rw [scanTo] at h2 ⊢
  split
  ·rename_i h0; rw [if_pos h0] at h2; simp only at h2 ⊢; omega
  ·exact h1
theorem scan_max {f : Nat → Bool} {W s most : Nat} (hp : ∀ i, f (i + W) = f i) (hs : s < W) (hf : f s = false) (hW : W ≤ 64) : (scanTo f s most W).2 = max most (mxTo (fun x => crun f x 65) W) := by
 have hper : ∀ i k, f (i + k * W) = f i := by
  intro i k
  induction k with
  | zero => simp
  | succ k ih => rw [Nat.add_mul, Nat.one_mul, ← Nat.add_assoc, hp, ih]
 have hmod : ∀ i, f (i % W) = f i := by
  intro i
  have := hper (i % W) (i / W)
  rw [Nat.mul_comm, Nat.mod_add_div] at this
  exact this.symm
 apply Nat.le_antisymm
 ·refine scan_le (by omega) W fun i hi => ?_
  obtain ⟨h1, _, h3⟩ := scan_len f s most i
  generalize (scanTo f s most i).1 = m at *
  by_cases hm : m = 0
  ·omega
  have h4 : m ≤ crun f ((s + i - m) % W) 65 := crun_ge (by omega) fun j hj => by
   have e : f ((s + i - m) % W + j) = f (s + i - m + j) := by
    rw [← hmod ((s + i - m) % W + j), Nat.mod_add_mod, hmod]
   rw [e, show s + i - m + j = s + i - 1 - (m - 1 - j) by omega]
   exact h3 _ (by omega)
  have h5 := le_mxTo (g := fun x => crun f x 65) (k := W) (i := (s + i - m) % W) (Nat.mod_lt _ (by omega))
  omega
 ·have h0 := (scan_len f s most W).2.1
  have h1 : mxTo (fun x => crun f x 65) W ≤ (scanTo f s most W).2 := by
   refine mxTo_le fun x hx => ?_
   generalize hm : crun f x 65 = m
   by_cases hm0 : m = 0
   ·omega
   have hall : ∀ j, j < m → f (x + j) = true := fun j hj => crun_all (by rw [hm]; exact hj)
   -- where the run lies behind s
   obtain ⟨x', hx1, hx2, hx3⟩ : ∃ x', s < x' ∧ x' < s + W ∧ (x' = x ∨ x' = x + W) := by
    by_cases h : s < x
    ·exact ⟨x, h, by omega, .inl rfl⟩
    ·by_cases h2 : x = s
     ·have := hall 0 (by omega); rw [Nat.add_zero, h2, hf] at this; cases this
     ·exact ⟨x + W, by omega, by omega, .inr rfl⟩
   have hall' : ∀ j, j < m → f (x' + j) = true := by
    intro j hj
    rcases hx3 with rfl | rfl
    ·exact hall j hj
    ·rw [show x + W + j = x + j + W by omega, hp]; exact hall j hj
   have hend : x' + m ≤ s + W := by
    rcases Nat.lt_or_ge (s + W) (x' + m) with h | h
    ·have := hall' (s + W - x') (by omega)
     rw [show x' + (s + W - x') = s + W by omega, hp, hf] at this
     cases this
    ·exact h
   have h2 := scan_run (f := f) (s := s) (most := most) (m := m) (i := x' + m - s) (by omega) (fun j hj => by
    rw [show s + (x' + m - s) - 1 - j = x' + (m - 1 - j) by omega]
    exact hall' _ (by omega))
   have h3 := scan_ge (f := f) (s := s) (most := most) (i := x' + m - s) (by omega)
   have h4 := scan_mono' f s most (x' + m - s) W (by omega)
   omega
  omega
theorem run_full {f : Nat → Bool} {W : Nat} (hW : 0 < W) (h : ∀ i, f i = true) : mxTo (fun x => crun f x 65) W = 65 := by
 apply Nat.le_antisymm
 ·exact mxTo_le fun x hx => crun_le f 65 x
 ·have h1 := le_mxTo (g := fun x => crun f x 65) hW
  have h2 : 65 ≤ crun f 0 65 := crun_ge (Nat.le_refl _) fun j hj => h _
  omega
def rf (of : Bool) (W : Nat) (bs : List Bool) (y i : Nat) : Bool := decide (bs.getD (y * W + i % W) false = of)
def rowG (of : Bool) (W : Nat) (bs : List Bool) (y : Nat) : Nat := mxTo (fun x => crun (rf of W bs y) x 65) W
def longV (of : Bool) (W H : Nat) (bs : List Bool) : Nat := mxTo (rowG of W bs) H
theorem rowG_le (of : Bool) (W : Nat) (bs : List Bool) (y : Nat) : rowG of W bs y ≤ 65 := mxTo_le fun x hx => crun_le _ 65 x
theorem longV_le (of : Bool) (W H : Nat) (bs : List Bool) : longV of W H bs ≤ 65 := mxTo_le fun y hy => rowG_le of W bs y
theorem rf_per (of : Bool) (W : Nat) (bs : List Bool) (y i : Nat) : rf of W bs y (i + W) = rf of W bs y i := by unfold rf; rw [Nat.add_mod_right]
def foldG (g : Nat → Nat) {H : Nat} (pre : List (Fin H)) : Nat := pre.foldl (fun m y => max m (g y.val)) 0
theorem foldG_snoc (g : Nat → Nat) {H : Nat} (pre : List (Fin H)) (y : Fin H) : foldG g (pre ++ [y]) = max (foldG g pre) (g y.val) := by simp [foldG]
theorem foldG_spec' (g : Nat → Nat) {H : Nat} (l : List (Fin H)) : ∀ m, m ≤ l.foldl (fun m y => max m (g y.val)) m ∧ (∀ y ∈ l, g y.val ≤ l.foldl (fun m y => max m (g y.val)) m) ∧ (∀ B, m ≤ B → (∀ y ∈ l, g y.val ≤ B) → l.foldl (fun m y => max m (g y.val)) m ≤ B) := by
 induction l with
 | nil => intro m; simp
 | cons a l ih =>
  intro m
  obtain ⟨h1, h2, h3⟩ := ih (max m (g a.val))
  simp only [List.foldl_cons, List.mem_cons]
  refine ⟨by omega, ?_, fun B hB h => h3 B ?_ fun y hy => h y (.inr hy)⟩
  ·rintro y (rfl | hy)
   ·omega
   ·exact h2 y hy
  ·have := h a (.inl rfl); omega
theorem foldG_all (g : Nat → Nat) (H : Nat) : foldG g (List.finRange H) = mxTo g H := by
 obtain ⟨_, h2, h3⟩ := foldG_spec' g (List.finRange H) 0
 apply Nat.le_antisymm
 ·exact h3 _ (by omega) fun y _ => le_mxTo y.isLt
 ·exact mxTo_le fun i hi => h2 ⟨i, hi⟩ (List.mem_finRange _)
theorem foldG_le (g : Nat → Nat) {H B : Nat} (h : ∀ y, g y ≤ B) (pre : List (Fin H)) : foldG g pre ≤ B := (foldG_spec' g pre 0).2.2 B (by omega) fun y _ => h _
end Lo
end Go.Proofs.YtajdoobkfbdgoaaDoor
