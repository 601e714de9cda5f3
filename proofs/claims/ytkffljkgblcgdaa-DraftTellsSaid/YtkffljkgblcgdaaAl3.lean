/- Lemmas and contracts of functions (what each call returns, and that it changes nothing that was there) that the proof of a law of this seat uses; each lemma states its own conditions. -/
import Derived.Test.YtkffljkgblcgdaaAl2
import Derived.Test.YtkffljkgblcgdaaRegT
namespace Go.Proofs.Ytkffljkgblcgdaa
open Go.RowKit
set_option linter.unusedVariables false
set_option linter.unusedSimpArgs false
open Go.Shelf
attribute [local go_sem] Oper.semAt_some
theorem keepsOthers_of_below {W W' : World} (h : Below W.heap.size W W') : KeepsOthers W W' :=
  ⟨h.size, fun k o hk _ => by rw [h.block k (Array.getElem?_eq_some_iff.1 hk).1]; exact hk⟩
theorem Boxed.below {W W' : World} {B : Nat} {t : TypeId} {v : Value} (h : Boxed W B t v) (hb : Below W.heap.size W W') : Boxed W' B t v := (hb.block B h.lt).trans h
theorem own_kept {A B : World} {base e size k : Nat} {v : Value} {xs : List Value} {row : Option Nat} (h : A.ownsRow base e size v k xs) (hg : A.grownBy B row) (hr : ∀ r, row = some r → ∃ o : Obj, A.heap[r]? = some o ∧ o.isCells = false) : B.ownsRow base e size v k xs := by
  refine h.kept hg ?_
  rcases h.2 with ⟨rfl, _⟩ | ⟨g, cap, cur, rfl, _, hgb, _⟩
  · exact .inl rfl
  · refine .inr fun e' => ?_
    obtain ⟨o, ho, hc⟩ := hr g (by simpa [Value.ownBlock] using e'.symm)
    rw [hgb] at ho; cases ho; cases hc
theorem box_kept {A B : World} {b : Nat} {t : TypeId} {v : Value} {row : Option Nat} (h : Boxed A b t v) (hg : A.grownBy B row) (hr : ∀ r, row = some r → ∃ o : Obj, A.heap[r]? = some o ∧ o.isCells = false) : Boxed B b t v :=
  h.kept hg (fun e' => by obtain ⟨o, ho, hc⟩ := hr b e'.symm; rw [show A.heap[b]? = _ from h] at ho; cases ho; cases hc)
theorem rowIs_not_own {A : World} {b t n base e size k : Nat} {f : Nat → Value} {v : Value} {xs : List Value} (hr : A.rowIs b t n f) (h : A.ownsRow base e size v k xs) (hne : t ≠ e) : some b ≠ v.ownBlock := by
  rcases h.2 with ⟨rfl, _⟩ | ⟨g, cap, cur, rfl, _, hg, _⟩
  · simp [Value.ownBlock]
  · intro e'
    have e2 : b = g := by simpa [Value.ownBlock] using e'
    subst e2
    obtain ⟨cs, hb, _⟩ := hr
    rw [hb] at hg
    injection hg with hg
    injection hg with _ h5
    exact hne h5
theorem rowIs_grown {A B : World} {b t n : Nat} {f : Nat → Value} {row : Option Nat} (hr : A.rowIs b t n f) (hg : A.grownBy B row) (hne : some b ≠ row) : B.rowIs b t n f := hr.of_block (hg.block b hr.lt hne)
theorem own_nil_or {v : Value} : v = .slice none 0 0 → v.ownBlock = none := fun e => by subst e; rfl
/-- What the search knows: the rows that were new (known, in box kb), and the numbers told (box ob). -/
structure AIv (w : World) (kb ob tb W H n : Nat) (a : Option Addr) (c : Nat) (vk vo : Value) (ks : List (Fin H)) (os : List Nat) (W' : World) : Prop where
  k1 : Boxed W' kb 117 vk
  k2 : W'.ownsRow w.heap.size 23 1 vk ks.length (ks.map fun z => rowV a c W z.val)
  o1 : Boxed W' ob 22 vo
  o2 : W'.ownsRow w.heap.size 3 1 vo os.length (natV os)
  rt : W'.rowIs tb 25 3 (tF W H (.slice a n c))
  bel : Below w.heap.size w W'
def AI (w : World) (kb ob tb W H n : Nat) (a : Option Addr) (c : Nat) (st : List (Fin H) × List Nat) (W' : World) : Prop := ∃ vk vo, AIv w kb ob tb W H n a c vk vo st.1 st.2 W'
section
variable {w : World} {kb ob tb W H n : Nat} {a : Option Addr} {c : Nat} {vk vo : Value} {ks : List (Fin H)} {os : List Nat} {st : List (Fin H) × List Nat} {A B : World}
theorem AIv.kept {row : Option Nat} (h : AIv w kb ob tb W H n a c vk vo ks os A) (hg : A.grownBy B row) (hr : ∀ r, row = some r → w.heap.size ≤ r ∧ ∃ o : Obj, A.heap[r]? = some o ∧ o.isCells = false) : AIv w kb ob tb W H n a c vk vo ks os B :=
  have hr' : ∀ r, row = some r → ∃ o : Obj, A.heap[r]? = some o ∧ o.isCells = false := fun r e => (hr r e).2
  ⟨box_kept h.k1 hg hr', own_kept h.k2 hg hr', box_kept h.o1 hg hr', own_kept h.o2 hg hr', rowIs_kept h.rt hg hr', h.bel.grown hg h.bel.size (fun k e => (hr k e).1)⟩
theorem AI.kept {row : Option Nat} (h : AI w kb ob tb W H n a c st A) (hg : A.grownBy B row) (hr : ∀ r, row = some r → w.heap.size ≤ r ∧ ∃ o : Obj, A.heap[r]? = some o ∧ o.isCells = false) : AI w kb ob tb W H n a c st B := by
  obtain ⟨vk, vo, h⟩ := h
  exact ⟨vk, vo, h.kept hg hr⟩
theorem AIv.below (h : AIv w kb ob tb W H n a c vk vo ks os A) (hb : Below A.heap.size A B) : AIv w kb ob tb W H n a c vk vo ks os B :=
  ⟨Boxed.below h.k1 hb, ownBelow h.k2 hb, Boxed.below h.o1 hb, ownBelow h.o2 hb, rowBelow h.rt hb h.rt.lt, h.bel.trans (hb.mono h.bel.size)⟩
/-- 'out = append(out, ix)'. -/
theorem AIv.appOut (h : AIv w kb ob tb W H n a c vk vo ks os A) {v' : Value} {ix : Nat} {w1 : World} {o : Obj} (hw : w.heap.size ≤ ob) (hkb : kb ≠ ob) (htb : tb ≠ ob)
    (hown : w1.ownsRow w.heap.size 3 1 v' (os.length + 1) (natV os ++ [.int .i64 (ix)])) (hg : (A.alloc o).grownBy w1 vo.ownBlock) :
    AIv w kb ob tb W H n a c vk v' ks (os ++ [ix]) (w1.setCell ⟨ob, 0, none⟩ v') ∧ KeepsOthers A (w1.setCell ⟨ob, 0, none⟩ v') ∧ Boxed w1 ob 22 vo := by
  obtain ⟨b1, b2, b3, b4, b5⟩ := h.o1.appended (by decide) h.o2 h.bel.size hw hown hg
  have k2w : w1.ownsRow w.heap.size 23 1 vk ks.length (ks.map fun z => rowV a c W z.val) := (h.k2.alloc o).kept hg (by
    rcases own_ne h.k2 h.o2 (by decide) with e | e
    · exact .inl (own_nil_or e)
    · exact .inr e)
  refine ⟨⟨?_, ?_, b2, ?_, ?_, h.bel.trans b5⟩, b4, b1⟩
  · exact Boxed.other ((h.k1.alloc o).kept hg (h.k1.not_row (by decide) h.o2)) hkb v'
  · exact k2w.kept (grownBy_setCell' w1 ob v') (.inr (Ne.symm (b1.not_row (by decide) k2w)))
  · rw [List.length_append, natV_snoc]; exact b3
  · exact (rowIs_grown (h.rt.alloc o) hg (rowIs_not_own h.rt h.o2 (by decide))).setOther htb _
/-- 'known = append(known, row)': the row that is appended lies in a block by itself. -/
theorem AIv.appKnown (h : AIv w kb ob tb W H n a c vk vo ks os A) {v' : Value} {y : Fin H} {w1 : World} (hw : w.heap.size ≤ kb) (hkb : ob ≠ kb) (htb : tb ≠ kb)
    (hown : w1.ownsRow w.heap.size 23 1 v' (ks.length + 1) ((ks.map fun z => rowV a c W z.val) ++ [rowV a c W y.val])) (hg : A.grownBy w1 vk.ownBlock) :
    AIv w kb ob tb W H n a c v' vo (ks ++ [y]) os (w1.setCell ⟨kb, 0, none⟩ v') ∧ KeepsOthers A (w1.setCell ⟨kb, 0, none⟩ v') ∧ Boxed w1 kb 117 vk ∧ Boxed w1 ob 22 vo := by
  have k1w : Boxed w1 kb 117 vk := h.k1.kept hg (h.k1.not_row (by decide) h.k2)
  have o1w : Boxed w1 ob 22 vo := h.o1.kept hg (h.o1.not_row (by decide) h.k2)
  have o2w : w1.ownsRow w.heap.size 3 1 vo os.length (natV os) := h.o2.kept hg (by
    rcases own_ne h.o2 h.k2 (by decide) with e | e
    · exact .inl (own_nil_or e)
    · exact .inr e)
  refine ⟨⟨k1w.set v', ?_, Boxed.other o1w hkb v', ?_, ?_, ?_⟩, ?_, k1w, o1w⟩
  · rw [List.length_append, List.map_append]
    exact hown.kept (grownBy_setCell' w1 kb v') (.inr (Ne.symm (k1w.not_row (by decide) hown)))
  · exact o2w.kept (grownBy_setCell' w1 kb v') (.inr (Ne.symm (k1w.not_row (by decide) o2w)))
  · exact (rowIs_grown h.rt hg (rowIs_not_own h.rt h.k2 (by decide))).setOther htb _
  · exact (h.bel.grown hg h.bel.size (fun k e => (h.k2.lt k e).1)).setCell (p := ⟨kb, 0, none⟩) hw _
  · refine (KeepsOthers.of_grownBy hg fun j o ej hj => ?_).trans (KeepsOthers.setCell _ _ _)
    rcases h.k2.2 with ⟨rfl, _⟩ | ⟨g, cap, cur, rfl, _, hgb, _⟩
    · simp [Value.ownBlock] at ej
    · obtain rfl : g = j := by simpa [Value.ownBlock] using ej
      rw [hgb] at hj; cases hj; rfl
end
theorem rows_of_own {w : World} {base W H n : Nat} {a : Option Addr} {c : Nat} {bs : List Bool} {ks : List (Fin H)} {A0 : Option Addr} {c0 : Nat} (h : w.ownsRow base 23 1 (.slice A0 ks.length c0) ks.length (ks.map fun z => rowV a c W z.val)) (hT : OkT w a n c bs) (hn : n = W * H) : RowsAt w A0 ks.length W (ks.map fun z => rowL bs W z.val) := by
  refine ⟨by simp, fun hk => ?_⟩
  rcases h.2 with ⟨e, h0⟩ | ⟨g, cap, cur, e, _⟩
  · omega
  · injection e with e1 e2 e3
    subst e1
    have hlt : g < w.heap.size := by
      have := h.cellAt 0 (by omega)
      rw [List.getElem?_map, List.getElem?_eq_getElem hk] at this
      exact World.block_lt_of_cell? w _ this
    refine ⟨g, 0, rfl, hlt, fun j hj => ?_⟩
    obtain ⟨A, cc, hv, hb⟩ := rowV_bools (a := a) (bs := bs) hT.cap hn (ks[j]).isLt
    refine ⟨A, cc, ?_, ?_⟩
    · rw [Nat.zero_add, h.cellAt j (by omega), List.getElem?_map, List.getElem?_eq_getElem hj]
      simp only [Option.map_some]
      rw [hv]
    · have := (hb w hT).bits
      rwa [show (ks.map fun z => rowL bs W z.val).getD j [] = rowL bs W (ks[j]).val by simp [List.getD, hj]]
set_option maxRecDepth 100000 in
set_option maxHeartbeats 8000000 in
theorem Alike_bad (W H : Int) (a : Option Addr) (n c : Nat) (w : World) (h1 : (-9223372036854775808 ≤ W ∧ W ≤ 9223372036854775807)) (h2 : (-9223372036854775808 ≤ H ∧ H ≤ 9223372036854775807)) (h3 : n ≤ 9223372036854775807) (he : wrT W H n ≠ 0) :
    Calls Try.prog 51 #[.agg #[.int .i64 (W), .int .i64 (H), .slice a n c]] w fun e w' => e = .returned (.tuple #[.slice none 0 0, .int .i64 (wrT W H n)]) ∧ Below w.heap.size w w' := by
  have hb : (wrT W H n != 0) = true := by simpa using he
  clear he
  go_enter Try.func51, Try.ntmps51
  (go_wp2_with fail; refine (tWrong_any W H a n c _ h1 h2 h3).mono ?_; rintro r w1 ⟨rfl, hb⟩; obtain ⟨E, d, rfl⟩ := bExt hb; clear hb)
  go_wp2
  go_ret2
  exact ⟨rfl, (by repeat (first | exact Below.refl _ _ | refine Below.drew ?_ | refine below_drewN ?_ _ | refine Below.alloc ?_ (by first | exact Nat.le_refl _ | (simp; done) | (simp; omega) | omega) _ | refine Below.setCell ?_ (by first | exact Nat.le_refl _ | (simp; done) | (simp; omega) | omega) _ | refine bExtW ?_ (by first | exact Nat.le_refl _ | (simp; done) | (simp; omega) | omega) | refine Below.trans ?_ (Below.mono (by assumption) (by first | exact Nat.le_refl _ | (simp; done) | (simp; omega) | omega))))⟩
theorem IsInts.of_natsB {w : World} {base : Nat} {v : Value} {L : List Nat} (h : w.ownsRow base 3 1 v L.length (natV L)) : ∃ a c, v = .slice a L.length c ∧ IsInts w a L.length (natI L) ∧ ∀ b o, a = some ⟨b, o, none⟩ → base ≤ b := by
  obtain ⟨a, c, rfl, hi⟩ := IsInts.of_nats h
  refine ⟨a, c, rfl, hi, fun b o hb' => ?_⟩
  rcases h.2 with ⟨e, e0⟩ | ⟨g, cap, cur, e, hb, _⟩
  · injection e with e1 e2 e3
    rw [e1] at hb'; cases hb'
  · injection e with e1 e2 e3
    rw [e1] at hb'; cases hb'; exact hb
/-- As IntsPost; the numbers lie in a block of the call's own. -/
def IntsPostG (L : List Nat) (w : World) (r : Ending) (w' : World) : Prop :=
  ∃ A c, r = .returned (.tuple #[.slice A L.length c, .int .i64 (0)]) ∧ IsInts w' A L.length (natI L) ∧ Below w.heap.size w w' ∧ ∀ b o, A = some ⟨b, o, none⟩ → w.heap.size ≤ b
set_option maxRecDepth 100000 in
set_option maxHeartbeats 8000000 in
theorem Alike_okG (W H : Nat) (a : Option Addr) (c : Nat) (bs : List Bool) (w : World) (hT : OkT w a (W * H) c bs) (hW : W ≤ 64) (hH : H ≤ 64) :
    Calls Try.prog 51 #[.agg #[.int .i64 (W), .int .i64 (H), .slice a (W*H) c]] w (IntsPostG (alikeL W H bs) w) := by
  have HT := Lib.hid hT
  have h4 : W * H ≤ 4096 := Nat.le_trans (Nat.mul_le_mul hW hH) (by omega)
  have HWr := Lib.hid (fun w => tWrong_any W H a (W * H) c w (by omega) (by omega) (by omega))
  have HW0 := Lib.hid (wrT_ok hW hH)
  have hcap := hT.cap
  have hlim := hT.lim
  clear hT
  refine (callsIn_wide (n := 9)).1 ?_
  refine callsIn_of_wp_marks Try.func51 rfl trivial ?_ rfl
  simp only [Try.ntmps51, List.size_toArray, List.length_cons, List.length_nil, Nat.reduceAdd, Nat.reduceSub, Array.replicate_succ, Array.replicate_zero, List.push_toArray, List.append_toArray, List.nil_append, List.cons_append]
  refine wpIn_wide.2 ?_
  generalize hn : W * H = n at *
  have HN := Lib.hid hn
  clear hn
  go_wp2_with fail
  have hrq := tF_alloc w W H (.slice a n c) rfl
  have hB0 : Below w.heap.size w (w.alloc (.cells #[.int .i64 (W), .int .i64 (H), .slice a n c] 25)) := (by repeat (first | exact Below.refl _ _ | refine Below.drew ?_ | refine below_drewN ?_ _ | refine Below.alloc ?_ (by first | exact Nat.le_refl _ | (simp; done) | (simp; omega) | omega) _ | refine Below.setCell ?_ (by first | exact Nat.le_refl _ | (simp; done) | (simp; omega) | omega) _ | refine bExtW ?_ (by first | exact Nat.le_refl _ | (simp; done) | (simp; omega) | omega) | refine Below.trans ?_ (Below.mono (by assumption) (by first | exact Nat.le_refl _ | (simp; done) | (simp; omega) | omega))))
  have hsz : (w.alloc (.cells #[.int .i64 (W), .int .i64 (H), .slice a n c] 25)).heap.size = w.heap.size + 1 := by simp
  generalize w.alloc (.cells #[.int .i64 (W), .int .i64 (H), .slice a n c] 25) = W0 at *
  refine (HWr.out _).mono ?_
  rintro r w1 ⟨rfl, hb⟩
  rw [HW0.out]
  replace hrq := rowBelow hrq hb (by omega)
  have d0 : w1.cell? ⟨w.heap.size, 0, none⟩ = some (.int .i64 (W)) := hrq.cell (i := 0) (by omega)
  have d1 : w1.cell? ⟨w.heap.size, 1, none⟩ = some (.int .i64 (H)) := hrq.cell (i := 1) (by omega)
  have d2 : w1.cell? ⟨w.heap.size, 2, none⟩ = some (.slice a n c) := hrq.cell (i := 2) (by omega)
  have HB1 := Lib.hid (hB0.trans (hb.mono hB0.size))
  have hsz1 : w.heap.size + 1 ≤ w1.heap.size := by have := hb.size; omega
  have lq : LtW w.heap.size w1 := by unfold LtW; omega
  clear hrq hB0 hb hsz
  go_wp2_with fail
  refine (callsIn_wide.1 (rows_in W H a n c 9 _)).mono ?_
  rintro r w3 ⟨rfl, rfl⟩
  go_wp2_with fail
  have hko : Boxed (((w1.alloc (.cells #[.slice none 0 0] 22)).alloc (.cells #[.slice none 0 0] 117)).alloc (.cells #[.int .i64 (W), .int .i64 (H), .slice a n c] 25)) w1.heap.size 22 (.slice none 0 0) := ((Boxed.new w1 22 (.slice none 0 0)).alloc _).alloc _
  have hkk : Boxed (((w1.alloc (.cells #[.slice none 0 0] 22)).alloc (.cells #[.slice none 0 0] 117)).alloc (.cells #[.int .i64 (W), .int .i64 (H), .slice a n c] 25)) (w1.heap.size+1) 117 (.slice none 0 0) := by
    have := (Boxed.new (w1.alloc (.cells #[.slice none 0 0] 22)) 117 (.slice none 0 0)).alloc (.cells #[.int .i64 (W), .int .i64 (H), .slice a n c] 25)
    rwa [World.size_alloc] at this
  have hrt := tF_alloc ((w1.alloc (.cells #[.slice none 0 0] 22)).alloc (.cells #[.slice none 0 0] 117)) W H (.slice a n c) rfl
  simp only [World.size_alloc] at hrt
  have hbl : Below w.heap.size w (((w1.alloc (.cells #[.slice none 0 0] 22)).alloc (.cells #[.slice none 0 0] 117)).alloc (.cells #[.int .i64 (W), .int .i64 (H), .slice a n c] 25)) := ((HB1.out.alloc HB1.out.size _).alloc (by simp; omega) _).alloc (by simp; omega) _
  have hs3 : (((w1.alloc (.cells #[.slice none 0 0] 22)).alloc (.cells #[.slice none 0 0] 117)).alloc (.cells #[.int .i64 (W), .int .i64 (H), .slice a n c] 25)).heap.size = w1.heap.size + 3 := by simp
  generalize ((w1.alloc (.cells #[.slice none 0 0] 22)).alloc (.cells #[.slice none 0 0] 117)).alloc (.cells #[.int .i64 (W), .int .i64 (H), .slice a n c] 25) = W3 at *
  obtain ⟨ob, ho⟩ : ∃ ob, w1.heap.size = ob := ⟨_, rfl⟩
  rw [ho] at hko hkk hrt hs3 hsz1 ⊢
  have hAI : AI w (ob+1) ob (ob+1+1) W H n a c (aFold H W bs []) W3 := ⟨_, _, hkk, World.ownsRow_nil _ _ _ _, hko, World.ownsRow_nil _ _ _ _, hrt, hbl⟩
  have hTB : TB (ob+1+1) W H a n c bs W3 := TB.of_row hrt (HT.out.bits.below hbl)
  clear hko hkk hrt hbl d0 d1 d2 lq ho
  refine (wpIn_wide (n := 9)).1 ?_
  refine wpIn_rangeFunc_ownH rfl (by omega) (gf := 95) (lb := #[.pointer (some ⟨ob+1+1, 0, none⟩)]) rfl trivial (enters_of Try.func95 (by kernel_rfl) rfl)
    (rows_stops 8 (by omega) (ob+1+1) W H a n c bs hW hH HN.out.symm hcap hlim W3 hTB) (fun h k x => k (h x))
    (fun A l o o' _ ho hc _ x => x.kept (grownBy_putObj' A l o') (fun r e => by cases e; exact ⟨o, ho, hc⟩)) (Below.refl _ _) (fun _ => rfl)
    (fun pre W' => AI w (ob+1) ob (ob+1+1) W H n a c (aFold H W bs pre) W') (fun _ _ _ => False)
    (fun s A B row hs hg hr => hs.kept hg (fun r e => ⟨by have := (hr r e).1; omega, (hr r e).2⟩)) (fun _ _ _ _ _ hs _ _ => hs) hAI
    (fun x a' W' => ∃ B, ob + 2 < B ∧ Boxed W' B 23 (rowV a c W x.val) ∧ a' = { tmps := #[.agg #[.int .i64 (W), .int .i64 (H), .slice a n c], .pointer (some ⟨w.heap.size, 0, none⟩), .slice none 0 0, .int .i64 0, .int .i64 0, .pointer (some ⟨ob, 0, none⟩), .pointer (some ⟨ob + 1, 0, none⟩), undef, .pointer (some ⟨B, 0, none⟩), undef, .agg #[.int .i64 (W), .int .i64 (H), .slice a n c], .int .i64 0, .int .i64 0, .bool false, undef, .agg #[.int .i64 (W), .int .i64 (H), .slice a n c], .func (.func 95) #[] #[.pointer (some ⟨ob + 1 + 1, 0, none⟩)], .int .i64 ((x.val : Nat)), rowV a c W x.val, undef, undef, undef, undef, undef, undef, undef, undef, undef, undef, undef, undef, undef, undef, undef, undef], defers := [] })
    (fun x a' _ X Y row hs hg hr => by
      obtain ⟨B, h1, h3, h4⟩ := hs
      exact ⟨B, h1, boxed_own B 23 (fun (_ : Unit) => _) () X Y row h3 hg (fun r e => (hr r e).2), h4⟩)
    ?assign ?body ?done ?stop
  case assign =>
    rintro l pre x W4 K hi hK
    obtain ⟨vk, vo, hi⟩ := hi
    have hrt := hi.rt.lt
    have HI4 := Lib.hid hi
    obtain ⟨A1, cc1, hrv, _⟩ := rowV_bools (a := a) (bs := bs) hcap HN.out.symm x.isLt
    simp only [hrv] at hK ⊢
    clear hi hrv
    gi_wp2
    have hb4 : Below W4.heap.size W4 (W4.alloc (.cells #[.slice A1 W cc1] 23)) := (Below.refl _ _).alloc (Nat.le_refl _) _
    exact hK _ _ ((KeepsOthers.alloc _ _).from _) (fun h => h.below hb4) ⟨vk, vo, HI4.out.below hb4⟩ ⟨W4.heap.size, hrt, Boxed.new W4 23 _, rfl⟩
  case body =>
    rintro l pre x a' W4 hl ⟨r, hr⟩ hA4 ⟨B, hB, bR, rfl⟩ hlt
    obtain ⟨y, hy⟩ := x
    simp only at bR ⊢
    obtain ⟨A1, cc1, hrv, hrow⟩ := rowV_bools (a := a) (bs := bs) hcap HN.out.symm hy
    simp only [hrv] at bR ⊢
    have hfs := aFold_snoc H W bs pre ⟨y, hy⟩
    have hfl := aFold_len H W bs pre
    generalize aFold H W bs pre = st at *
    obtain ⟨ks, os⟩ := st
    simp only at hfl
    have hol : os.length ≤ 64 ∧ ks.length ≤ 64 := by omega
    clear hfl
    obtain ⟨vk, vo, hA⟩ := hA4
    simp only at hA
    have hT4 := HT.out.below hA.bel
    have hk2 := hA.k2
    obtain ⟨Ak, ck, rfl⟩ := own_form hk2
    have hRA := rows_of_own hk2 hT4 HN.out.symm
    have hJ := (hrow W4 hT4).bits
    have cR := bR.cell
    have cK := hA.k1.cell
    have HIX := Lib.hid (index_any Ak ks.length ck W (ks.map fun z => rowL bs W z.val) B A1 cc1 (rowL bs W y) W4 hRA cR hJ (by omega) (by omega))
    have hs4 := hA.bel.size
    have HFS := Lib.hid hfs
    have hil : fIdx (ks.map fun z => rowL bs W z.val) (rowL bs W y) ≤ ks.length := by have := fIdx_le (ks.map fun z => rowL bs W z.val) (rowL bs W y); simpa using this
    have HST : Hid (aStep H W bs (ks, os) ⟨y, hy⟩ = (if fIdx (ks.map fun z => rowL bs W z.val) (rowL bs W y) < ks.length then ks else ks ++ [⟨y, hy⟩], os ++ [fIdx (ks.map fun z => rowL bs W z.val) (rowL bs W y)])) := Lib.hid rfl
    generalize fIdx (ks.map fun z => rowL bs W z.val) (rowL bs W y) = ix at *
    have HA4 := Lib.hid hA; have HBR := Lib.hid bR
    have HRV := Lib.hid hrv
    clear hA bR hfs hk2 hRA hJ hT4 hrow hrv
    gi_wp2
    refine ⟨trivial, ?_⟩
    gi_at_call 93
    refine (CallsIn.inRound l (callsIn_wide.2 HIX.out)).mono ?_
    rintro e W5 ⟨rfl, hb5⟩
    have HA5 := Lib.hid (HA4.out.below hb5); have HBR5 := Lib.hid (Boxed.below HBR.out hb5)
    have HKO5 := Lib.hid (keepsOthers_of_below hb5)
    have hsz5 : W4.heap.size ≤ W5.heap.size := hb5.size
    have co : W5.cell? ⟨ob, 0, none⟩ = some vo := HA5.out.o1.cell
    have ck5 : W5.cell? ⟨ob+1, 0, none⟩ = some (.slice Ak ks.length ck) := HA5.out.k1.cell
    have cr5 : W5.cell? ⟨B, 0, none⟩ = some (.slice A1 W cc1) := HBR5.out.cell
    clear hb5 cR cK
    by_cases hix : ix < ks.length
    · rw [show idxV ks.length ix = (ix : Int) from if_pos hix]
      gi_wp2_with (gi_at_builtin; refine wpAppIn okInts' rfl (.tmp 30) (.tmp 32) rfl w.heap.size _ _ _ #[.int .i64 ix] rfl HA5.out.o2 rfl rfl ?_ (by omega) (by omega) (by omega) ?_)
      · simp [Value.oneCell']
      intro v' w2 hown2 hg2
      obtain ⟨g2, cap2, rfl⟩ := ownsRow_succ hown2
      obtain ⟨hAN, hKN, hbo⟩ := HA5.out.appOut (by omega) (by omega) (by omega) hown2 hg2
      have cbo := hbo.cell; have fbo := hbo.frozen
      have HAN := Lib.hid hAN; have HKN := Lib.hid (HKO5.out.trans hKN)
      clear hAN hKN hbo hown2 hg2
      gi_wp2
      exact ⟨HKN.out.from _, fun _ => TB.of_row HAN.out.rt (HT.out.below HAN.out.bel).bits, by
        have e := HFS.out
        rw [HST.out, if_pos hix] at e
        show AI _ _ _ _ _ _ _ _ _ (aFold H W bs (pre ++ [⟨y, hy⟩])) _
        rw [e]; exact ⟨_, _, HAN.out⟩⟩
    · rw [show idxV ks.length ix = -1 from if_neg hix]
      gi_wp2
      refine region_inRound (by kernel_rfl) (by kernel_rfl) (fun a w h => h) (anyT_any (S := fun w' => Boxed w' (ob+1) 117 (.slice Ak ks.length ck)) (stop := fun j => j == 7) _ _ _ _ ?_)
      (refine anyT_take (i := 0) (.slice Ak ks.length ck) rfl (by kernel_rfl) (fun c a w h => h) (.inl ⟨by simp [Region.wanted], fun wx hx => ?_⟩) HA5.out.k1 ?_; (have e1 := Boxed.cell hx; clear hx; go_simp))
      (refine anyT_take (i := 1) (.int .i64 ((ks.length : Nat))) rfl (by kernel_rfl) (fun c a w h => h) (.inl ⟨by simp [Region.wanted], fun wx hx => ?_⟩) HA5.out.k1 ?_; (have e1 := Boxed.cell hx; clear hx; go_simp))
      (refine anyT_take (i := 2) (.slice Ak ks.length ck) rfl (by kernel_rfl) (fun c a w h => h) (.inl ⟨by simp [Region.wanted], fun wx hx => ?_⟩) HA5.out.k1 ?_; (have e1 := Boxed.cell hx; clear hx; go_simp))
      refine anyT_one (i := 3) (by kernel_rfl) rfl rfl ?_
      go_simp
      refine ⟨HA5.out.k1, ?_⟩
      refine anyT_one (i := 4) (by kernel_rfl) rfl rfl ?_
      go_simp
      have hb6 : Below W5.heap.size W5 (W5.alloc (.cells #[.slice A1 W cc1] 23)).drew := ((Below.refl _ _).alloc (Nat.le_refl _) _).drew
      have HA6 := Lib.hid (HA5.out.below hb6)
      have HKO6 := Lib.hid (HKO5.out.trans (keepsOthers_of_below hb6))
      have hcs : ∀ (j : Nat) (u : Value), (#[Value.slice A1 W cc1])[j]? = some u → (W5.alloc (.cells #[.slice A1 W cc1] 23)).drew.cell? ⟨W5.heap.size, j, none⟩ = some u := fun j u hj => by
        have := World.cell?_alloc_new W5 (#[Value.slice A1 W cc1]) 23 j
        rw [cell_drew_own, this]; exact hj
      have hs6 : W5.heap.size ≤ (W5.alloc (.cells #[.slice A1 W cc1] 23)).drew.heap.size := hb6.size
      generalize (W5.alloc (.cells #[.slice A1 W cc1] 23)).drew = W6 at *
      have HCS := Lib.hid hcs
      clear hb6 hcs
      refine ⟨HA6.out.k1, ?_⟩
      refine anyT_one (i := 5) (by kernel_rfl) rfl rfl ?_
      refine opApp okRows (.tmp 26) (.tmp 28) rfl w.heap.size (.slice Ak ks.length ck) ks.length _ #[.slice A1 W cc1] W5.heap.size rfl HA6.out.k2 rfl HCS.out rfl (by simp [Value.oneCell']) (by omega) (by omega) (by omega) ?_
      intro v' w1 hown1 hg1
      obtain ⟨g1, cap1, rfl⟩ := ownsRow_succ hown1
      obtain ⟨hA7, hK7, hk7, ho7⟩ := HA6.out.appKnown (y := ⟨y, hy⟩) (by omega) (by omega) (by omega) (by rw [HRV.out]; exact hown1) hg1
      refine ⟨fun _ => hk7, ?_⟩
      refine anyT_one (i := 6) (by kernel_rfl) rfl rfl ?_
      go_simp
      refine anyT_one (i := 7) (by kernel_rfl) rfl rfl ?_
      have ck7 := hk7.cell; have fk7 := hk7.frozen
      have HA7 := Lib.hid hA7; have HK7 := Lib.hid (HKO6.out.trans hK7)
      clear hA7 hK7 hk7 ho7 hown1 hg1
      go_simp
      refine anyT_done (by kernel_rfl) ?_
      have co7 := HA7.out.o1.cell
      have hs7 := HA7.out.bel.size
      have hik : ix = ks.length := by omega
      generalize w1.setCell ⟨ob+1, 0, none⟩ (.slice (some ⟨g1, 0, none⟩) (ks.length + 1) cap1) = W7 at *
      gi_wp2_with (gi_at_builtin; refine wpAppIn okInts' rfl (.tmp 30) (.tmp 32) rfl w.heap.size _ _ _ #[.int .i64 (ks.length : Nat)] rfl HA7.out.o2 rfl rfl ?_ (by omega) (by omega) (by omega) ?_)
      · simp [Value.oneCell']
      intro v' w2 hown2 hg2
      obtain ⟨g2, cap2, rfl⟩ := ownsRow_succ hown2
      obtain ⟨hAN, hKN, hbo⟩ := HA7.out.appOut (by omega) (by omega) (by omega) hown2 hg2
      have cbo := hbo.cell; have fbo := hbo.frozen
      have HAN := Lib.hid hAN; have HKN := Lib.hid (HK7.out.trans hKN)
      clear hAN hKN hbo hown2 hg2 co7
      gi_wp2
      exact ⟨HKN.out.from _, fun _ => TB.of_row HAN.out.rt (HT.out.below HAN.out.bel).bits, by
        have e := HFS.out
        rw [HST.out, if_neg hix] at e
        show AI _ _ _ _ _ _ _ _ _ (aFold H W bs (pre ++ [⟨y, hy⟩])) _
        rw [e, hik]; exact ⟨_, _, HAN.out⟩⟩
  case done =>
    rintro D ys W4 hD rfl ⟨vk, vo, hA⟩ hK
    have hlen : (aFold H W bs (List.finRange H)).2 = alikeL W H bs := rfl
    rw [hlen] at hA
    have hll := alikeL_len W H bs
    generalize alikeL W H bs = L at *
    have co := hA.o1.cell
    have HA := Lib.hid hA
    have HKD := Lib.hid hK
    have HLL := Lib.hid hll
    clear hA hK hlen hll
    go_wp2
    refine ⟨by simp, .inl ⟨_, _, rfl, run_takeDeferred HKD.out, ?_⟩⟩
    obtain ⟨A0, c0, e, hI, hIb⟩ := IsInts.of_natsB (ownsRow_putObj HA.out.o2 (.deferred none) HKD.out rfl)
    subst e
    refine ⟨.tuple #[.slice A0 L.length c0, .int .i64 (0)], by simp [results, Try.f51, go_sem], ?_⟩
    exact ⟨A0, c0, rfl, hI, HA.out.bel.trans (belowK_b (w := w) (Nat.le_refl _) W4 D _ _ (by omega) HKD.out rfl rfl), hIb⟩
  case stop =>
    rintro D c pre W' _ _ h _
    exact h.elim
theorem Alike_ok (W H : Nat) (a : Option Addr) (c : Nat) (bs : List Bool) (w : World) (hT : OkT w a (W * H) c bs) (hW : W ≤ 64) (hH : H ≤ 64) :
    Calls Try.prog 51 #[.agg #[.int .i64 (W), .int .i64 (H), .slice a (W*H) c]] w (IntsPost (alikeL W H bs) w) :=
  (Alike_okG W H a c bs w hT hW hH).mono fun r w' ⟨A, c, h1, h2, h3, _⟩ => ⟨A, c, h1, h2, h3⟩
end Go.Proofs.Ytkffljkgblcgdaa
