/- Lemmas on which the law of this seat rests; each states its own conditions. -/
import Derived.Test.YtajdoobkfbdgoaaDoorB04
set_option linter.unusedVariables false
set_option linter.unusedSimpArgs false
namespace Go.Proofs.YtajdoobkfbdgoaaDoor
section
open Go.RowKit
open Go.Shelf
attribute [local go_sem] Oper.semAt_some
def pC (H M W : Nat) (aa bb : List Bool) (pre : List (Fin H)) (y : Nat) (pre2 : List (Fin M)) (k x : Nat) (p : Nat) : Bool :=
 (decide (p / W ∈ pre.map Fin.val) && mulB M W aa bb (p / W) (p % W)) ||
 (decide (p / W = y) && ((pre2.any fun k' => aa.getD (p / W * M + k'.val) false && bb.getD (k'.val * W + p % W) false) || (decide (p % W < x) && (aa.getD (p / W * M + k) false && bb.getD (k * W + p % W) false))))
section
variable {H M W : Nat} {aa bb : List Bool} {pre : List (Fin H)} {y : Nat} {pre2 : List (Fin M)} {k x p : Nat}
theorem pC_zero : pC H M W aa bb pre y [] 0 0 p = pC H M W aa bb pre 0 [] 0 0 p := by unfold pC; simp
theorem pC_x0 : pC H M W aa bb pre y pre2 k 0 p = pC H M W aa bb pre y pre2 0 0 p := by unfold pC; simp
theorem pC_row (k : Fin M) (hW : 0 < W) : pC H M W aa bb pre y pre2 k W p = pC H M W aa bb pre y (pre2 ++ [k]) 0 0 p := by
 unfold pC
 have : p % W < W := Nat.mod_lt _ hW
 simp [this, List.any_append]
theorem any_fin (f : Nat → Bool) : ((List.finRange M).any fun k => f k.val) = (List.range M).any f := by
 rw [Bool.eq_iff_iff]
 simp only [List.any_eq_true, List.mem_finRange, true_and, List.mem_range]
 exact ⟨fun ⟨k, h⟩ => ⟨k.val, k.isLt, h⟩, fun ⟨k, hk, h⟩ => ⟨⟨k, hk⟩, h⟩⟩
theorem pC_outer (y : Fin H) : pC H M W aa bb pre y (List.finRange M) 0 0 p = pC H M W aa bb (pre ++ [y]) 0 [] 0 0 p := by
 unfold pC
 rw [any_fin (M := M) (fun k' => aa.getD (p / W * M + k') false && bb.getD (k' * W + p % W) false)]
 simp only [List.map_append, List.mem_append, List.map_cons, List.map_nil, List.mem_singleton]
 unfold mulB
 by_cases h1 : p / W ∈ pre.map Fin.val <;> by_cases h2 : p / W = y.val <;> simp [h1, h2]
 all_goals (intros; simp_all)
theorem pC_step (hW : 0 < W) (hx : x < W) (hp : p ≠ y * W + x ∨ (aa.getD (y * M + k) false && bb.getD (k * W + x) false) = false) : pC H M W aa bb pre y pre2 k (x+1) p = pC H M W aa bb pre y pre2 k x p := by
 unfold pC
 by_cases e : p / W = y
 ·by_cases ex : p % W = x
  ·have hpe : p = y * W + x := by
    have := Nat.div_add_mod p W
    rw [e, ex, Nat.mul_comm] at this; omega
   rcases hp with hp | hp
   ·exact absurd hpe hp
   ·rw [e, ex, hp]; simp
  ·have : (p % W < x + 1) ↔ (p % W < x) := by omega
   simp [this]
 ·simp [e]
theorem pC_new (hW : 0 < W) (hx : x < W) (h : (aa.getD (y * M + k) false && bb.getD (k * W + x) false) = true) : pC H M W aa bb pre y pre2 k (x+1) (y * W + x) = true := by
 unfold pC
 have h1 : (y * W + x) / W = y := by rw [Nat.mul_comm, Nat.mul_add_div hW, Nat.div_eq_of_lt hx]; omega
 have h2 : (y * W + x) % W = x := by rw [Nat.mul_comm, Nat.mul_add_mod, Nat.mod_eq_of_lt hx]
 rw [h1, h2, h]; simp
theorem pC_all (hp : p < W * H) : pC H M W aa bb (List.finRange H) 0 [] 0 0 p = (prodL H M W aa bb).getD p false := by
  have hW : 0 < W := by rcases Nat.eq_zero_or_pos W with h | h; · subst h; simp at hp
                        · exact h
  have hd : p / W < H := Nat.div_lt_of_lt_mul hp
  have h1 : p / W ∈ (List.finRange H).map Fin.val := by
    rw [List.mem_map]; exact ⟨⟨p / W, hd⟩, List.mem_finRange _, rfl⟩
  have e : (prodL H M W aa bb).getD p false = mulB M W aa bb (p / W) (p % W) := by
    unfold prodL
    rw [List.getD_eq_getElem?_getD, List.getElem?_map, List.getElem?_range hp]; rfl
  rw [e]
  unfold pC
  rw [decide_eq_true h1]; simp
end
theorem grownBy_setCellAt (W : World) (b i : Nat) (v : Value) : W.grownBy (W.setCell ⟨b, i, none⟩ v) (some b) :=
 ⟨rfl, rfl, rfl, (KeepsWalks.setCell W _ v).size, fun k _ hk => Below.heap_setCell _ _ _ k (fun e => hk (by rw [e]))⟩
structure PI (w : World) (qb ob g ta rb M H W n1 n2 n : Nat) (a1 : Option Addr) (c1 : Nat) (a2 : Option Addr) (c2 : Nat) (f : Nat → Bool) (W' : World) : Prop where
 rq : W'.rowIs qb 33 3 (tF W M (.slice a2 n2 c2))
 rt : W'.rowIs ta 33 3 (tF M H (.slice a1 n1 c1))
 ro : W'.rowIs ob 33 3 (tF W H (.slice (some ⟨g, 0, none⟩) n n))
 rr : W'.rowIs rb 33 3 (tF 0 0 (.slice none 0 0))
 rg : W'.rowIs g 4 n (fun p => .bool (f p))
 bel : Below w.heap.size w W'
section
variable {w : World} {qb ob g ta rb M H W n1 n2 n : Nat} {a1 : Option Addr} {c1 : Nat} {a2 : Option Addr} {c2 : Nat} {f f' : Nat → Bool} {A B : World}
theorem PI.kept {row : Option Nat} (h : PI w qb ob g ta rb M H W n1 n2 n a1 c1 a2 c2 f A) (hg : A.grownBy B row) (hr : ∀ r, row = some r → w.heap.size ≤ r ∧ ∃ o : Obj, A.heap[r]? = some o ∧ o.isCells = false) : PI w qb ob g ta rb M H W n1 n2 n a1 c1 a2 c2 f B :=
 have hr' : ∀ r, row = some r → ∃ o : Obj, A.heap[r]? = some o ∧ o.isCells = false := fun r e => (hr r e).2
 ⟨rowIs_kept h.rq hg hr', rowIs_kept h.rt hg hr', rowIs_kept h.ro hg hr', rowIs_kept h.rr hg hr', rowIs_kept h.rg hg hr', h.bel.grown hg h.bel.size (fun k e => (hr k e).1)⟩
theorem PI.alloc (h : PI w qb ob g ta rb M H W n1 n2 n a1 c1 a2 c2 f A) (o : Obj) : PI w qb ob g ta rb M H W n1 n2 n a1 c1 a2 c2 f (A.alloc o) :=
 h.kept (World.grownBy_alloc A o none) (fun r e => by cases e)
theorem PI.congr (h : PI w qb ob g ta rb M H W n1 n2 n a1 c1 a2 c2 f A) (hf : ∀ p, p < n → f p = f' p) : PI w qb ob g ta rb M H W n1 n2 n a1 c1 a2 c2 f' A :=
 ⟨h.rq, h.rt, h.ro, h.rr, h.rg.congr fun p hp => by rw [hf p hp], h.bel⟩
theorem PI.set (h : PI w qb ob g ta rb M H W n1 n2 n a1 c1 a2 c2 f A) (i : Nat) (v : Bool) (hq : qb ≠ g) (ho : ob ≠ g) (ht : ta ≠ g) (hr : rb ≠ g) (hg : w.heap.size ≤ g) (hf : ∀ p, p < n → f' p = if p = i then v else f p) : PI w qb ob g ta rb M H W n1 n2 n a1 c1 a2 c2 f' (A.setCell ⟨g, i, none⟩ (.bool v)) :=
 ⟨h.rq.setOther hq _, h.rt.setOther ht _, h.ro.setOther ho _, h.rr.setOther hr _, (h.rg.set i (.bool v)).congr fun p hp => by rw [hf p hp]; by_cases e : p = i <;> simp [e], h.bel.setCell (p := ⟨g, i, none⟩) hg _⟩
end
def ProductPost (H M W : Nat) (aa bb : List Bool) (w : World) (r : Ending) (w' : World) : Prop :=
 ∃ g, r = .returned (.tuple #[.agg #[.int .i64 (W), .int .i64 (H), .slice (some ⟨g, 0, none⟩) (W*H) (W*H)], .int .i64 (0)]) ∧ OkT w' (some ⟨g, 0, none⟩) (W*H) (W*H) (prodL H M W aa bb) ∧ Below w.heap.size w w'
set_option maxRecDepth 100000 in
set_option maxHeartbeats 8000000 in
theorem Product_ok (H M W : Nat) (a1 : Option Addr) (c1 : Nat) (aa : List Bool) (a2 : Option Addr) (c2 : Nat) (bb : List Bool) (w : World) (hA : OkT w a1 (M * H) c1 aa) (hB : OkT w a2 (W * M) c2 bb) (hM : M ≤ 64) (hH : H ≤ 64) (hW : W ≤ 64) :
    Calls Tryd.prog 12 #[.agg #[.int .i64 (M), .int .i64 (H), .slice a1 (M*H) c1], .agg #[.int .i64 (W), .int .i64 (M), .slice a2 (W*M) c2]] w (ProductPost H M W aa bb w) := by
  have HTA := Lib.hid hA
  have HTB := Lib.hid hB
  have h1 : M * H ≤ 4096 := Nat.le_trans (Nat.mul_le_mul hM hH) (by omega)
  have h2 : W * M ≤ 4096 := Nat.le_trans (Nat.mul_le_mul hW hM) (by omega)
  have h3 : W * H ≤ 4096 := Nat.le_trans (Nat.mul_le_mul hW hH) (by omega)
  have HWA := Lib.hid (fun w => tWrong_any M H a1 (M * H) c1 w (by omega) (by omega) (by omega))
  have HWB := Lib.hid (fun w => tWrong_any W M a2 (W * M) c2 w (by omega) (by omega) (by omega))
  have HZA := Lib.hid (wrT_ok hM hH)
  have HZB := Lib.hid (wrT_ok hW hM)
  have HBk := Lib.hid (fun w => blank_ok W H w hW hH)
  have hca := hA.cap; have hla := hA.lim
  have hcb := hB.cap; have hlb := hB.lim
  have hmm : ((M : Int) != (M : Int)) = false := by simp
  clear hA hB
  refine (callsIn_wide (n := 12)).1 ?_
  refine callsIn_of_wp_marks Tryd.func12 rfl trivial ?_ rfl
  simp only [Tryd.ntmps12, List.size_toArray, List.length_cons, List.length_nil, Nat.reduceAdd, Nat.reduceSub, Array.replicate_succ, Array.replicate_zero, List.push_toArray, List.append_toArray, List.nil_append, List.cons_append]
  refine wpIn_wide.2 ?_
  generalize hn1 : M * H = n1 at *
  generalize hn2 : W * M = n2 at *
  generalize hn : W * H = n at *
  have HN1 := Lib.hid hn1; have HN2 := Lib.hid hn2; have HN := Lib.hid hn
  clear hn1 hn2 hn
  go_wp2_with fail
  go_loopw [19] (fun i wr => ∃ (k : Nat) (E : Array Obj) (d : Nat), i = .int .i64 k ∧ k ≤ 2 ∧ wr = extW (prW w M H a1 n1 c1 W M a2 n2 c2) E d) (fun i _ => 2 - (intOf i).toNat)
  case atStart => exact ⟨0, #[], _, rfl, by omega, extW_zero _⟩
  case round =>
    obtain ⟨k, E, d, rfl, hk, rfl⟩ := hrel
    have hk3 : k = 0 ∨ k = 1 ∨ k = 2 := by omega
    clear hk
    rcases hk3 with rfl | rfl | rfl
    · unfold prW
      (go_wp2_with fail; refine (HWA.out _).mono ?_; rintro r w1 ⟨rfl, hb⟩; obtain ⟨E, d, rfl⟩ := bExt hb; clear hb)
      rw [HZA.out]
      go_wp2
      go_roundw
      case rel => exact ⟨1, _, _, by go_num, by omega, by simp only [alloc_extW, extW_extW]; rfl⟩
      case measure => simp [intOf]
    · unfold prW
      (go_wp2_with fail; refine (HWB.out _).mono ?_; rintro r w1 ⟨rfl, hb⟩; obtain ⟨E, d, rfl⟩ := bExt hb; clear hb)
      rw [HZB.out]
      go_wp2
      go_roundw
      case rel => exact ⟨2, _, _, by go_num, by omega, by simp only [alloc_extW, extW_extW]; rfl⟩
      case measure => simp [intOf]
    · have hra := tF_alloc w M H (.slice a1 n1 c1) rfl
      have hrb := tF_alloc (w.alloc (.cells #[.int .i64 (M), .int .i64 (H), .slice a1 n1 c1] 33)) W M (.slice a2 n2 c2) rfl
      have hrr := tF_alloc ((w.alloc (.cells #[.int .i64 (M), .int .i64 (H), .slice a1 n1 c1] 33)).alloc (.cells #[.int .i64 (W), .int .i64 (M), .slice a2 n2 c2] 33)) 0 0 (.slice none 0 0) rfl
      simp only [World.size_alloc] at hrb hrr
      have hbX : Below (prW w M H a1 n1 c1 W M a2 n2 c2).heap.size (prW w M H a1 n1 c1 W M a2 n2 c2) (extW (prW w M H a1 n1 c1 W M a2 n2 c2) E d) := bExtW (Below.refl _ _) (Nat.le_refl _)
      have hsX : (prW w M H a1 n1 c1 W M a2 n2 c2).heap.size = w.heap.size + 4 := by simp [prW]
      have hra' := rowBelow (((hra.alloc (.cells #[.int .i64 (W), .int .i64 (M), .slice a2 n2 c2] 33)).alloc (.cells #[.int .i64 (0), .int .i64 (0), .slice none 0 0] 33)).alloc (.cells #[.int .i64 (M), .int .i64 (H), .slice a1 n1 c1, .int .i64 (W), .int .i64 (M), .slice a2 n2 c2] 33)) hbX (by omega)
      have hrb' := rowBelow ((hrb.alloc (.cells #[.int .i64 (0), .int .i64 (0), .slice none 0 0] 33)).alloc (.cells #[.int .i64 (M), .int .i64 (H), .slice a1 n1 c1, .int .i64 (W), .int .i64 (M), .slice a2 n2 c2] 33)) hbX (by omega)
      have hrr' := rowBelow (hrr.alloc (.cells #[.int .i64 (M), .int .i64 (H), .slice a1 n1 c1, .int .i64 (W), .int .i64 (M), .slice a2 n2 c2] 33)) hbX (by omega)
      have hB0 : Below w.heap.size w (extW (prW w M H a1 n1 c1 W M a2 n2 c2) E d) := by unfold prW; exact blw
      have hsz : w.heap.size + 4 ≤ (extW (prW w M H a1 n1 c1 W M a2 n2 c2) E d).heap.size := by rw [size_extW, hsX]; omega
      clear hra hrb hrr hbX hsX
      generalize extW (prW w M H a1 n1 c1 W M a2 n2 c2) E d = W0 at *
      obtain ⟨q, hq⟩ : ∃ q, w.heap.size = q := ⟨_, rfl⟩
      rw [hq] at hra' hrb' hrr' hsz ⊢
      have HQ := Lib.hid hq
      have a0 : W0.cell? ⟨q, 0, none⟩ = some (.int .i64 (M)) := hra'.cell (i := 0) (by omega)
      have e1 : W0.cell? ⟨q, 1, none⟩ = some (.int .i64 (H)) := hra'.cell (i := 1) (by omega)
      have b0 : W0.cell? ⟨q+1, 0, none⟩ = some (.int .i64 (W)) := hrb'.cell (i := 0) (by omega)
      have b1 : W0.cell? ⟨q+1, 1, none⟩ = some (.int .i64 (M)) := hrb'.cell (i := 1) (by omega)
      have HRA := Lib.hid hra'
      have HRB := Lib.hid hrb'
      have HRR := Lib.hid hrr'
      have HB0 := Lib.hid hB0
      clear hq hra' hrb' hrr' hB0
      go_wp2_with fail
      refine (HBk.out _).mono ?_
      rintro r w2 ⟨rfl, hrow, hb2⟩
      have hsz2 : W0.heap.size + 2 ≤ w2.heap.size := by have := hrow.lt; omega
      have HRA := Lib.hid (rowBelow HRA.out hb2 (by omega))
      have HRB := Lib.hid (rowBelow HRB.out hb2 (by omega))
      have HRR := Lib.hid (rowBelow HRR.out hb2 (by omega))
      have HB2 := Lib.hid (HB0.out.trans (hb2.mono HB0.out.size))
      have HRG := Lib.hid hrow
      have d0 : w2.cell? ⟨q, 0, none⟩ = some (.int .i64 (M)) := HRA.out.cell (i := 0) (by omega)
      have d1 : w2.cell? ⟨q, 1, none⟩ = some (.int .i64 (H)) := HRA.out.cell (i := 1) (by omega)
      have d2 : w2.cell? ⟨q, 2, none⟩ = some (.slice a1 n1 c1) := HRA.out.cell (i := 2) (by omega)
      have lq : LtW q w2 := by unfold LtW; omega
      clear hb2 hrow a0 e1 b0 b1
      go_wp2_with fail
      refine (callsIn_wide.1 (rows_in M H a1 n1 c1 12 _)).mono ?_
      rintro r w3 ⟨rfl, rfl⟩
      go_wp2_with fail
      have hW3a := HRB.out.alloc (.cells #[.int .i64 (W), .int .i64 (H), .slice (some ⟨W0.heap.size+1, 0, none⟩) n n] 33) |>.alloc (.cells #[.int .i64 (M), .int .i64 (H), .slice a1 n1 c1] 33)
      have hW3r := HRR.out.alloc (.cells #[.int .i64 (W), .int .i64 (H), .slice (some ⟨W0.heap.size+1, 0, none⟩) n n] 33) |>.alloc (.cells #[.int .i64 (M), .int .i64 (H), .slice a1 n1 c1] 33)
      have hW3g := HRG.out.alloc (.cells #[.int .i64 (W), .int .i64 (H), .slice (some ⟨W0.heap.size+1, 0, none⟩) n n] 33) |>.alloc (.cells #[.int .i64 (M), .int .i64 (H), .slice a1 n1 c1] 33)
      have hW3o := (tF_alloc w2 W H (.slice (some ⟨W0.heap.size+1, 0, none⟩) n n) rfl).alloc (.cells #[.int .i64 (M), .int .i64 (H), .slice a1 n1 c1] 33)
      have hW3t := tF_alloc (w2.alloc (.cells #[.int .i64 (W), .int .i64 (H), .slice (some ⟨W0.heap.size+1, 0, none⟩) n n] 33)) M H (.slice a1 n1 c1) rfl
      rw [World.size_alloc] at hW3t
      have hW3b : Below w.heap.size w ((w2.alloc (.cells #[.int .i64 (W), .int .i64 (H), .slice (some ⟨W0.heap.size+1, 0, none⟩) n n] 33)).alloc (.cells #[.int .i64 (M), .int .i64 (H), .slice a1 n1 c1] 33)) := (HB2.out.alloc HB2.out.size _).alloc (by simp; have := HB2.out.size; omega) _
      have hsz3 : ((w2.alloc (.cells #[.int .i64 (W), .int .i64 (H), .slice (some ⟨W0.heap.size+1, 0, none⟩) n n] 33)).alloc (.cells #[.int .i64 (M), .int .i64 (H), .slice a1 n1 c1] 33)).heap.size = w2.heap.size + 2 := by simp
      generalize (w2.alloc (.cells #[.int .i64 (W), .int .i64 (H), .slice (some ⟨W0.heap.size+1, 0, none⟩) n n] 33)).alloc (.cells #[.int .i64 (M), .int .i64 (H), .slice a1 n1 c1] 33) = W3 at *
      obtain ⟨g, hg⟩ : ∃ g, W0.heap.size + 1 = g := ⟨_, rfl⟩
      obtain ⟨ob, ho⟩ : ∃ ob, w2.heap.size = ob := ⟨_, rfl⟩
      rw [hg] at hW3g hW3o ⊢
      rw [ho] at hW3o hW3t ⊢
      have hord : q + 3 < g ∧ g < ob := by omega
      have hwq : w.heap.size ≤ q := by rw [HQ.out]; exact Nat.le_refl _
      have hPI : PI w (q+1) ob g (ob+1) (q+1+1) M H W n1 n2 n a1 c1 a2 c2 (pC H M W aa bb [] 0 [] 0 0) W3 := ⟨hW3a, hW3t, hW3o, hW3r, hW3g.congr fun p hp => by simp [pC], hW3b⟩
      have hTBa : TB (ob+1) M H a1 n1 c1 aa W3 := TB.of_row hW3t (HTA.out.bits.below hW3b)
      have hs3 : ob + 2 = W3.heap.size := by omega
      clear hW3a hW3r hW3g hW3o hW3t hW3b HRA HRB HRR HRG lq d0 d1 d2 hg ho
      refine (wpIn_wide (n := 12)).1 ?_
      refine wpIn_rangeFunc_ownH rfl (by omega) (gf := 57) (lb := #[.pointer (some ⟨ob+1, 0, none⟩)]) rfl trivial (enters_of Tryd.func57 (by kernel_rfl) rfl)
        (rows_stops 11 (by omega) (ob+1) M H a1 n1 c1 aa hM hH HN1.out.symm hca hla W3 hTBa) (fun h k x => k (h x))
        (fun A l o o' _ ho hc _ x => x.kept (grownBy_putObj' A l o') (fun r e => by cases e; exact ⟨o, ho, hc⟩)) (Below.refl _ _) (fun _ => rfl)
        (fun pre W' => PI w (q+1) ob g (ob+1) (q+1+1) M H W n1 n2 n a1 c1 a2 c2 (pC H M W aa bb pre 0 [] 0 0) W') (fun _ _ _ => False)
        (fun s A B row hs hg hr => hs.kept hg (fun r e => ⟨by have := (hr r e).1; omega, (hr r e).2⟩)) (fun _ _ _ _ _ hs _ _ => hs) hPI
        (fun x a' W' => ∃ B, ob + 1 < B ∧ Boxed W' B 3 (.int .i64 ((x.val : Nat))) ∧ Boxed W' (B+1) 31 (rowV a1 c1 M x.val) ∧ a' = { tmps := #[.agg #[.int .i64 (M), .int .i64 (H), .slice a1 n1 c1], .agg #[.int .i64 (W), .int .i64 (M), .slice a2 n2 c2], .pointer (some ⟨q, 0, none⟩), .pointer (some ⟨q + 1, 0, none⟩), .pointer (some ⟨q + 1 + 1, 0, none⟩), u5, undef, u7, u8, .pointer (some ⟨ob, 0, none⟩), .pointer (some ⟨B, 0, none⟩), .pointer (some ⟨B + 1, 0, none⟩), undef, undef, undef, .agg #[.int .i64 (M), .int .i64 (H), .slice a1 n1 c1], .agg #[.int .i64 (W), .int .i64 (M), .slice a2 n2 c2], .slice (some ⟨q + 1 + 1 + 1, 0, none⟩) 2 2, .int .i64 2, .int .i64 2, .bool false, u21, u22, u23, u24, u25, u26, u27, u28, u29, .pointer (some ⟨q, 0, none⟩), .int .i64 (M), .pointer (some ⟨q + 1, 1, none⟩), .int .i64 (M), .bool false, undef, .pointer (some ⟨q + 1, 0, none⟩), .int .i64 (W), .pointer (some ⟨q, 1, none⟩), .int .i64 (H), .agg #[.int .i64 (W), .int .i64 (H), .slice (some ⟨g, 0, none⟩) n n], .agg #[.int .i64 (M), .int .i64 (H), .slice a1 n1 c1], .func (.func 57) #[] #[.pointer (some ⟨ob + 1, 0, none⟩)], .int .i64 ((x.val : Nat)), rowV a1 c1 M x.val, undef, undef, undef, undef, undef, undef, undef, undef, undef, undef, undef, undef, undef, undef, undef, undef, undef, undef, undef, undef, undef, undef, undef, undef, undef, undef, undef, undef, undef, undef], defers := [] })
        (fun x a' _ X Y row hs hg hr => by
          obtain ⟨B, h1, h2, h3, h4⟩ := hs
          exact ⟨B, h1, boxed_own B 3 (fun (_ : Unit) => _) () X Y row h2 hg (fun r e => (hr r e).2), boxed_own (B+1) 31 (fun (_ : Unit) => _) () X Y row h3 hg (fun r e => (hr r e).2), h4⟩)
        ?assign ?body ?done ?stop
      case assign =>
        rintro l pre x W4 K hi hK
        have hs4 := hi.bel.size
        have hrt := hi.rt.lt
        have HI4 := Lib.hid hi
        obtain ⟨A1, cc1, hrv, _⟩ := rowV_bools (a := a1) (bs := aa) hca HN1.out.symm x.isLt
        simp only [hrv] at hK ⊢
        clear hi hrv
        gi_wp2
        refine hK _ _ (((KeepsOthers.alloc _ _).trans (KeepsOthers.alloc _ _)).from _) (fun h => h.below ?_) ((HI4.out.alloc _).alloc _) ⟨W4.heap.size, hrt, (Boxed.new W4 3 _).alloc _, by have := Boxed.new (W4.alloc (.cells #[.int .i64 ((x.val : Nat))] 3)) 31 (.slice A1 M cc1); rw [World.size_alloc] at this; exact this, rfl⟩
        exact ((Below.refl _ _).alloc (Nat.le_refl _) _).alloc (by simp) _
      case body =>
        rintro l pre x a' W4 hl ⟨r, hr⟩ hP4 ⟨B, hB, bY, bR, rfl⟩ hlt
        obtain ⟨y, hy⟩ := x
        simp only at bY bR ⊢
        have d0 : W4.cell? ⟨q+1, 0, none⟩ = some (.int .i64 (W)) := hP4.rq.cell (i := 0) (by omega)
        have d1 : W4.cell? ⟨q+1, 1, none⟩ = some (.int .i64 (M)) := hP4.rq.cell (i := 1) (by omega)
        have d2 : W4.cell? ⟨q+1, 2, none⟩ = some (.slice a2 n2 c2) := hP4.rq.cell (i := 2) (by omega)
        have hs4 := hP4.bel.size
        have hlr := (Array.getElem?_eq_some_iff.1 hr).1
        have HP4 := Lib.hid hP4; have HBY := Lib.hid bY; have HBR := Lib.hid bR; have HLR := Lib.hid hr
        have hBl := bR.lt
        clear hP4 bY bR hr hlt
        gi_wp2_with (refine ⟨trivial, ?_⟩; gi_at_call 33; refine (CallsIn.inRound l (rows_in W M a2 n2 c2 (12 - 1 - 1 - 1) _)).mono ?_; rintro e w' ⟨rfl, rfl⟩)
        have hrt2 := tF_alloc W4 W M (.slice a2 n2 c2) rfl
        have hP5 := HP4.out.alloc (.cells #[.int .i64 (W), .int .i64 (M), .slice a2 n2 c2] 33)
        have bY5 := HBY.out.alloc (.cells #[.int .i64 (W), .int .i64 (M), .slice a2 n2 c2] 33)
        have bR5 := HBR.out.alloc (.cells #[.int .i64 (W), .int .i64 (M), .slice a2 n2 c2] 33)
        have hr5 : (W4.alloc (.cells #[.int .i64 (W), .int .i64 (M), .slice a2 n2 c2] 33)).heap[l]? = some (.loop r) := (Below.heap_alloc W4 _ l hlr).trans HLR.out
        have hkf : KeepsFrom W3.heap.size W4 (W4.alloc (.cells #[.int .i64 (W), .int .i64 (M), .slice a2 n2 c2] 33)) := (KeepsOthers.alloc _ _).from _
        have hbl : Below w.heap.size W4 (W4.alloc (.cells #[.int .i64 (W), .int .i64 (M), .slice a2 n2 c2] 33)) := (Below.refl _ W4).alloc hs4 _
        have hs5 : (W4.alloc (.cells #[.int .i64 (W), .int .i64 (M), .slice a2 n2 c2] 33)).heap.size = W4.heap.size + 1 := by simp
        generalize W4.alloc (.cells #[.int .i64 (W), .int .i64 (M), .slice a2 n2 c2] 33) = W5 at *
        obtain ⟨tb2, htb⟩ : ∃ tb2, W4.heap.size = tb2 := ⟨_, rfl⟩
        rw [htb] at hrt2 ⊢
        have hTB2 : TB tb2 W M a2 n2 c2 bb W5 := TB.of_row hrt2 (HTB.out.below hP5.bel).bits
        clear d0 d1 d2
        refine wpIn_rangeFunc_ownN (l₀ := l) (r₀ := r) rfl hr5 (by omega) (gf := 57) (lb := #[.pointer (some ⟨tb2, 0, none⟩)]) rfl trivial (enters_of Tryd.func57 (by kernel_rfl) rfl)
          ((rows_stops (12 - 1 - 1 - 1) (by omega) tb2 W M a2 n2 c2 bb hW hM HN2.out.symm hcb hlb W5 hTB2).inRound l) (fun h k x => k (h x))
          (fun A l o o' _ ho hc _ x => x.kept (grownBy_putObj' A l o') (fun r e => by cases e; exact ⟨o, ho, hc⟩)) (Below.refl _ _) (fun _ => rfl)
          (fun pre2 W' => (PI w (q+1) ob g (ob+1) (q+1+1) M H W n1 n2 n a1 c1 a2 c2 (pC H M W aa bb pre y pre2 0 0) W' ∧ Boxed W' B 3 (.int .i64 (y)) ∧ Boxed W' (B+1) 31 (rowV a1 c1 M y) ∧ W'.rowIs tb2 33 3 (tF W M (.slice a2 n2 c2))) ∧ (Below w.heap.size W4 W' ∧ KeepsFrom W3.heap.size W4 W')) (fun _ _ _ => False)
          (OwnFrom.and (fun s X Y row hs hg hr => ⟨hs.1.kept hg (fun r e => ⟨by have := (hr r e).1; omega, (hr r e).2⟩), boxed_own B 3 (fun (_ : Unit) => _) () X Y row hs.2.1 hg (fun r e => (hr r e).2), boxed_own (B+1) 31 (fun (_ : Unit) => _) () X Y row hs.2.2.1 hg (fun r e => (hr r e).2), rowIs_kept hs.2.2.2 hg (fun r e => (hr r e).2)⟩)
            (OwnFrom.and (ownFrom_below hs4 (by omega)) (ownFrom_keepsFrom (by omega))))
          (fun _ _ _ _ _ hs _ _ => hs)
          ⟨⟨hP5.congr fun p hp => pC_zero.symm, bY5, bR5, hrt2⟩, hbl, hkf⟩
          (fun k a'' _ => a'' = { tmps := #[.agg #[.int .i64 (M), .int .i64 (H), .slice a1 n1 c1], .agg #[.int .i64 (W), .int .i64 (M), .slice a2 n2 c2], .pointer (some ⟨q, 0, none⟩), .pointer (some ⟨q + 1, 0, none⟩), .pointer (some ⟨q + 1 + 1, 0, none⟩), u5, undef, u7, u8, .pointer (some ⟨ob, 0, none⟩), .pointer (some ⟨B, 0, none⟩), .pointer (some ⟨B + 1, 0, none⟩), .int .i64 ((k.val : Nat)), rowV a2 c2 W k.val, undef, .agg #[.int .i64 (M), .int .i64 (H), .slice a1 n1 c1], .agg #[.int .i64 (W), .int .i64 (M), .slice a2 n2 c2], .slice (some ⟨q + 1 + 1 + 1, 0, none⟩) 2 2, .int .i64 2, .int .i64 2, .bool false, u21, u22, u23, u24, u25, u26, u27, u28, u29, .pointer (some ⟨q, 0, none⟩), .int .i64 (M), .pointer (some ⟨q + 1, 1, none⟩), .int .i64 (M), .bool false, undef, .pointer (some ⟨q + 1, 0, none⟩), .int .i64 (W), .pointer (some ⟨q, 1, none⟩), .int .i64 (H), .agg #[.int .i64 (W), .int .i64 (H), .slice (some ⟨g, 0, none⟩) n n], .agg #[.int .i64 (M), .int .i64 (H), .slice a1 n1 c1], .func (.func 57) #[] #[.pointer (some ⟨ob + 1, 0, none⟩)], .int .i64 (y), rowV a1 c1 M y, .agg #[.int .i64 (W), .int .i64 (M), .slice a2 n2 c2], .func (.func 57) #[] #[.pointer (some ⟨tb2, 0, none⟩)], .int .i64 ((k.val : Nat)), rowV a2 c2 W k.val, undef, undef, undef, undef, undef, undef, undef, undef, undef, undef, undef, undef, undef, undef, undef, undef, undef, undef, undef, undef, undef, undef, undef, undef, undef, undef], defers := [] })
          (fun _ _ _ _ _ _ hs _ _ => hs)
          ?assign2 ?body2 ?done2 ?stop2
        case assign2 =>
          rintro l2 pre2 k W6 K hi hK
          gi_wp2
          exact hK _ _ (KeepsFrom.refl _ _) (fun h => h) hi rfl
        case body2 =>
          rintro l2 pre2 k a'' W6 _ _ ⟨⟨hP6, bY6, bR6, hT6⟩, hBW, hKF⟩ rfl _
          obtain ⟨k, hk⟩ := k
          simp only
          obtain ⟨A2, cc2, hrv2, hrow2⟩ := rowV_bools (a := a2) (bs := bb) hcb HN2.out.symm hk
          obtain ⟨A1, cc1, hrv1, hrow1⟩ := rowV_bools (a := a1) (bs := aa) hca HN1.out.symm hy
          simp only [hrv2, hrv1] at bR6 ⊢
          have HP6 := Lib.hid hP6; have HBY6 := Lib.hid bY6; have HBR6 := Lib.hid bR6; have HT6 := Lib.hid hT6
          have HR2 := Lib.hid hrow2; have HR1 := Lib.hid hrow1
          have HRV1 := Lib.hid hrv1
          clear hP6 bY6 bR6 hT6 hrv1 hrv2 hrow1 hrow2
          gi_wp2
          gi_loopw [51] (fun i wr => ∃ x : Nat, x ≤ W ∧ i = .int .i64 x ∧ Hid (PI w (q+1) ob g (ob+1) (q+1+1) M H W n1 n2 n a1 c1 a2 c2 (pC H M W aa bb pre y pre2 k x) wr) ∧ Boxed wr B 3 (.int .i64 (y)) ∧ Boxed wr (B+1) 31 (.slice A1 M cc1) ∧ Hid (wr.rowIs tb2 33 3 (tF W M (.slice a2 n2 c2))) ∧ Hid (Below w.heap.size W6 wr) ∧ Hid (KeepsOthers W6 wr)) (fun i _ => W - (intOf i).toNat)
          case atStart => exact ⟨0, Nat.zero_le _, rfl, Lib.hid (HP6.out.congr fun p hp => pC_x0.symm), HBY6.out, HBR6.out, HT6, Lib.hid (Below.refl _ _), Lib.hid (KeepsOthers.refl _)⟩
          case round =>
            clear HP6 HBY6 HBR6 HT6
            obtain ⟨x, hx, rfl, HP, bY, bR, HT, HBl, HKO⟩ := hrel
            by_cases hxW : x < W
            · obtain ⟨b1, o1, rfl, hb1, hc1⟩ := (HR1.out _ (HTA.out.below HP.out.bel)).bits.2 (by omega)
              obtain ⟨b2, o2, rfl, hb2, hc2⟩ := (HR2.out _ (HTB.out.below HP.out.bel)).bits.2 (by omega)
              have k1 := hc1 k hk
              have k2 := hc2 x hxW
              rw [rowL_get aa hk] at k1
              rw [rowL_get bb hxW] at k2
              have cY := bY.cell; have cR := bR.cell
              have HBY := Lib.hid bY; have HBR := Lib.hid bR
              clear hc1 hc2 hb1 hb2 bY bR
              cases hb1 : aa.getD (y * M + k) false with
              | false =>
                rw [hb1] at k1
                have HPN : Hid (PI w (q+1) ob g (ob+1) (q+1+1) M H W n1 n2 n a1 c1 a2 c2 (pC H M W aa bb pre y pre2 k (x+1)) wr) := Lib.hid (HP.out.congr fun p hp => by rw [pC_step (by omega) hxW (.inr (by rw [hb1]; rfl))])
                clear hb1
                generalize bb.getD (k * W + x) false = v2 at *
                gi_wp2
                go_roundw
                case rel => exact ⟨x + 1, by omega, by go_num, HPN, HBY.out, HBR.out, HT, HBl, HKO⟩
                case measure => simp [intOf]; omega
              | true =>
                rw [hb1] at k1
                cases hb2 : bb.getD (k * W + x) false with
                | false =>
                  rw [hb2] at k2
                  have HPN : Hid (PI w (q+1) ob g (ob+1) (q+1+1) M H W n1 n2 n a1 c1 a2 c2 (pC H M W aa bb pre y pre2 k (x+1)) wr) := Lib.hid (HP.out.congr fun p hp => by rw [pC_step (by omega) hxW (.inr (by rw [hb1, hb2]; rfl))])
                  clear hb1 hb2
                  gi_wp2
                  go_roundw
                  case rel => exact ⟨x + 1, by omega, by go_num, HPN, HBY.out, HBR.out, HT, HBl, HKO⟩
                  case measure => simp [intOf]; omega
                | true =>
                  rw [hb2] at k2
                  obtain ⟨m, hm⟩ : ∃ m, y * W = m := ⟨_, rfl⟩
                  have hmul : (y : Int) * (W : Int) = (m : Int) := by rw [← Int.natCast_mul, hm]
                  have hlt : m + x < n := by
                    rw [← HN.out, ← hm]
                    have : (y + 1) * W ≤ H * W := Nat.mul_le_mul_right W hy
                    rw [Nat.add_mul, Nat.one_mul, Nat.mul_comm H W] at this; omega
                  have HPN : Hid (PI w (q+1) ob g (ob+1) (q+1+1) M H W n1 n2 n a1 c1 a2 c2 (pC H M W aa bb pre y pre2 k (x+1)) (wr.setCell ⟨g, m + x, none⟩ (.bool true))) := Lib.hid (HP.out.set (m + x) true (by omega) (by omega) (by omega) (by omega) (by omega) fun p hp => by
                    by_cases e : p = m + x
                    · subst e; rw [if_pos rfl, ← hm, pC_new (by omega) hxW (by rw [hb1, hb2]; rfl)]
                    · rw [if_neg e, pC_step (by omega) hxW (.inl (by rw [hm]; exact e))])
                  have co : wr.cell? ⟨ob, 2, none⟩ = some (.slice (some ⟨g, 0, none⟩) n n) := HP.out.ro.cell (i := 2) (by omega)
                  have cq : wr.cell? ⟨q+1, 0, none⟩ = some (.int .i64 (W)) := HP.out.rq.cell (i := 0) (by omega)
                  have cg := HP.out.rg.cell (i := m + x) hlt
                  have fg := HP.out.rg.frozen (m + x)
                  have hgB : B ≠ g ∧ B + 1 ≠ g := by omega
                  have ht2g : tb2 ≠ g := by
                    have := hrt2.lt; have := hP5.rg.lt; omega
                  have HBY2 := Lib.hid (HBY.out.kept (grownBy_setCellAt wr g (m+x) (.bool true)) (by simp; omega))
                  have HBR2 := Lib.hid (HBR.out.kept (grownBy_setCellAt wr g (m+x) (.bool true)) (by simp; omega))
                  have HT2 := Lib.hid (HT.out.setOther (a := ⟨g, m + x, none⟩) ht2g (.bool true))
                  have HBl2 := Lib.hid (HBl.out.setCell (p := ⟨g, m + x, none⟩) (by simp; omega) (.bool true))
                  have HKO2 := Lib.hid (HKO.out.trans (KeepsOthers.setCell _ ⟨g, m + x, none⟩ (.bool true)))
                  generalize pC H M W aa bb pre y pre2 k x (m + x) = old at *
                  clear hb1 hb2 hm ht2g hgB
                  gi_wp2
                  go_roundw
                  case rel => exact ⟨x + 1, by omega, by go_num, HPN, HBY2.out, HBR2.out, HT2, HBl2, HKO2⟩
                  case measure => simp [intOf]; omega
            · obtain rfl : x = W := by omega
              gi_wp2
              refine ⟨HKO.out.from _, fun h => ?_, ⟨⟨HP.out.congr fun p hp => ?_, bY, by first | exact bR | (rw [HRV1.out]; exact bR), HT.out⟩, hBW.trans HBl.out, hKF.trans (HKO.out.from _)⟩⟩
              · exact TB.of_row HT.out (HTB.out.below HP.out.bel).bits
              · rw [pC_row ⟨k, hk⟩ (by have := HN.out; rcases Nat.eq_zero_or_pos x with h | h
                                       · subst h; simp at this; omega
                                       · exact h)]
        case done2 =>
          rintro ys2 W6 rfl ⟨⟨hP6, bY6, bR6, hT6⟩, hBW, hKF⟩
          gi_wp2
          exact ⟨hKF, fun _ => TB.of_row hP6.rt (HTA.out.below hP6.bel).bits, hP6.congr fun p hp => by rw [pC_outer ⟨y, hy⟩]⟩
        case stop2 =>
          rintro c pre2 W6 _ h
          exact h.elim
      case done =>
        rintro D ys W4 hD rfl hTI' hK
        have q0 : W4.cell? ⟨ob, 0, none⟩ = some (.int .i64 (W)) := hTI'.ro.cell (i := 0) (by omega)
        have q1 : W4.cell? ⟨ob, 1, none⟩ = some (.int .i64 (H)) := hTI'.ro.cell (i := 1) (by omega)
        have q2 : W4.cell? ⟨ob, 2, none⟩ = some (.slice (some ⟨g, 0, none⟩) n n) := hTI'.ro.cell (i := 2) (by omega)
        have f0 := hTI'.rr.frozen 0; have f1 := hTI'.rr.frozen 1; have f2 := hTI'.rr.frozen 2
        have r0 : W4.cell? ⟨q+1+1, 0, none⟩ = some (.int .i64 0) := hTI'.rr.cell (i := 0) (by omega)
        have r1 : W4.cell? ⟨q+1+1, 1, none⟩ = some (.int .i64 0) := hTI'.rr.cell (i := 1) (by omega)
        have r2 : W4.cell? ⟨q+1+1, 2, none⟩ = some (.slice none 0 0) := hTI'.rr.cell (i := 2) (by omega)
        have HTI := Lib.hid hTI'
        have HKD := Lib.hid hK
        clear hTI' hK
        go_wp2
        have hK1 := (((KeepsOthers.setCell W4 ⟨q+1+1, 0, none⟩ (.int .i64 (W))).trans (KeepsOthers.setCell _ ⟨q+1+1, 1, none⟩ (.int .i64 (H)))).trans (KeepsOthers.setCell _ ⟨q+1+1, 2, none⟩ (.slice (some ⟨g, 0, none⟩) n n))).same D _ HKD.out rfl
        have hr4 : (((W4.setCell ⟨q+1+1, 0, none⟩ (.int .i64 (W))).setCell ⟨q+1+1, 1, none⟩ (.int .i64 (H))).setCell ⟨q+1+1, 2, none⟩ (.slice (some ⟨g, 0, none⟩) n n)).rowIs (q+1+1) 33 3 (tF W H (.slice (some ⟨g, 0, none⟩) n n)) := (((HTI.out.rr.set 0 _).set 1 _).set 2 _).congr fun i hi => by
          have hi3 : i = 0 ∨ i = 1 ∨ i = 2 := by omega
          rcases hi3 with rfl | rfl | rfl <;> rfl
        have hg4 := ((HTI.out.rg.setOther (a := ⟨q+1+1, 0, none⟩) (by simp; omega) (.int .i64 (W))).setOther (a := ⟨q+1+1, 1, none⟩) (by simp; omega) (.int .i64 (H))).setOther (a := ⟨q+1+1, 2, none⟩) (by simp; omega) (.slice (some ⟨g, 0, none⟩) n n)
        have hb4 := ((HTI.out.bel.setCell (p := ⟨q+1+1, 0, none⟩) (by simp; omega) (.int .i64 (W))).setCell (p := ⟨q+1+1, 1, none⟩) (by simp; omega) (.int .i64 (H))).setCell (p := ⟨q+1+1, 2, none⟩) (by simp; omega) (.slice (some ⟨g, 0, none⟩) n n)
        generalize ((W4.setCell ⟨q+1+1, 0, none⟩ (.int .i64 (W))).setCell ⟨q+1+1, 1, none⟩ (.int .i64 (H))).setCell ⟨q+1+1, 2, none⟩ (.slice (some ⟨g, 0, none⟩) n n) = W5 at *
        have hkk : ∀ r, some D = some r → ∃ o : Obj, W5.heap[r]? = some o ∧ o.isCells = false := fun r e => by cases e; exact ⟨_, hK1, rfl⟩
        refine ⟨by simp, .inl ⟨_, _, rfl, run_takeDeferred hK1, ?_⟩⟩
        have hr5 := rowIs_kept hr4 (grownBy_putObj' _ D (.deferred none)) hkk
        have hg5 := rowIs_kept hg4 (grownBy_putObj' _ D (.deferred none)) hkk
        have k0 : (W5.putObj D (.deferred none)).cell? ⟨q+1+1, 0, none⟩ = some (.int .i64 (W)) := hr5.cell (i := 0) (by omega)
        have k1 : (W5.putObj D (.deferred none)).cell? ⟨q+1+1, 1, none⟩ = some (.int .i64 (H)) := hr5.cell (i := 1) (by omega)
        have k2 : (W5.putObj D (.deferred none)).cell? ⟨q+1+1, 2, none⟩ = some (.slice (some ⟨g, 0, none⟩) n n) := hr5.cell (i := 2) (by omega)
        refine ⟨.tuple #[.agg #[.int .i64 (W), .int .i64 (H), .slice (some ⟨g, 0, none⟩) n n], .int .i64 (0)], by simp [results, Tryd.f12, go_sem, k0, k1, k2], ?_⟩
        refine ⟨g, by rw [HN.out], ⟨⟨by rw [prodL_len], fun hn => ⟨g, 0, rfl, hg5.lt, fun p hp => ?_⟩⟩, Nat.le_refl _, by rw [HN.out]; omega⟩, ?_⟩
        · rw [Nat.zero_add, hg5.cell (by rw [← HN.out]; exact hp), pC_all hp]
        · exact hb4.trans (belowK_b (w := w) (Nat.le_refl _) W5 D _ _ (by omega) hK1 rfl rfl)
      case stop =>
        rintro D c pre W' _ _ h _
        exact h.elim
end
section
open Go.RowKit
theorem getD_map_range {n p : Nat} (f : Nat → Bool) (hp : p < n) : ((List.range n).map f).getD p false = f p := by
 rw [List.getD_eq_getElem?_getD, List.getElem?_map, List.getElem?_range hp]; rfl
theorem turnL_get {W H x y : Nat} {bs : List Bool} (hx : x < W) (hy : y < H) : (turnL W H bs).getD (x * H + y) false = bs.getD (y * W + x) false := by
 unfold turnL
 have hlt : x * H + y < W * H := by
  have : (x + 1) * H ≤ W * H := Nat.mul_le_mul_right H hx
  rw [Nat.add_mul, Nat.one_mul] at this; omega
 rw [getD_map_range _ hlt]
 have h1 : (x * H + y) % H = y := by rw [Nat.mul_comm, Nat.mul_add_mod, Nat.mod_eq_of_lt hy]
 have h2 : (x * H + y) / H = x := by rw [Nat.mul_comm, Nat.mul_add_div (by omega), Nat.div_eq_of_lt hy]; omega
 rw [h1, h2]
theorem prodL_get {H M W X Y : Nat} {aa bb : List Bool} (hx : X < W) (hy : Y < H) : (prodL H M W aa bb).getD (Y * W + X) false = mulB M W aa bb Y X := by
 unfold prodL
 have hlt : Y * W + X < W * H := by
  have : (Y + 1) * W ≤ H * W := Nat.mul_le_mul_right W hy
  rw [Nat.add_mul, Nat.one_mul, Nat.mul_comm H W] at this; omega
 rw [getD_map_range _ hlt]
 have h1 : (Y * W + X) % W = X := by rw [Nat.mul_comm, Nat.mul_add_mod, Nat.mod_eq_of_lt hx]
 have h2 : (Y * W + X) / W = Y := by rw [Nat.mul_comm, Nat.mul_add_div (by omega), Nat.div_eq_of_lt hx]; omega
 rw [h1, h2]
theorem grid_ext {W H : Nat} {l m : List Bool} (h1 : l.length = W * H) (h2 : m.length = W * H) (h : ∀ y x, y < H → x < W → l.getD (y * W + x) false = m.getD (y * W + x) false) : l = m := by
  apply List.ext_getElem (by omega)
  intro p hp hp2
  have hW : 0 < W := by rcases Nat.eq_zero_or_pos W with e | e
                        · subst e; simp at h1; omega
                        · exact e
  have := h (p / W) (p % W) (Nat.div_lt_of_lt_mul (by omega)) (Nat.mod_lt _ hW)
  have e : p / W * W + p % W = p := by rw [Nat.mul_comm]; exact Nat.div_add_mod p W
  rw [e, List.getD_eq_getElem?_getD, List.getD_eq_getElem?_getD, List.getElem?_eq_getElem hp, List.getElem?_eq_getElem hp2] at this
  simpa using this
def TPost (W H n : Nat) (bs : List Bool) (w : World) (r : Ending) (w' : World) : Prop :=
 ∃ g, r = .returned (.tuple #[.agg #[.int .i64 (W), .int .i64 (H), .slice (some ⟨g, 0, none⟩) n n], .int .i64 (0)]) ∧ OkT w' (some ⟨g, 0, none⟩) n n bs ∧ Below w.heap.size w w'
theorem Turned_any (W H n : Nat) (hn : n = W * H) (a : Option Addr) (c : Nat) (bs : List Bool) (w : World) (hT : OkT w a n c bs) (hW : W ≤ 64) (hH : H ≤ 64) :
  Calls Tryd.prog 30 #[.agg #[.int .i64 (W), .int .i64 (H), .slice a n c]] w (TPost H W n (turnL W H bs) w) := by
 subst hn; exact Turned_ok W H a c bs w hT hW hH
theorem Product_any (H M W n1 n2 n : Nat) (h1 : n1 = M * H) (h2 : n2 = W * M) (h3 : n = W * H) (a1 : Option Addr) (c1 : Nat) (aa : List Bool) (a2 : Option Addr) (c2 : Nat) (bb : List Bool) (w : World) (hA : OkT w a1 n1 c1 aa) (hB : OkT w a2 n2 c2 bb) (hM : M ≤ 64) (hH : H ≤ 64) (hW : W ≤ 64) :
  Calls Tryd.prog 12 #[.agg #[.int .i64 (M), .int .i64 (H), .slice a1 n1 c1], .agg #[.int .i64 (W), .int .i64 (M), .slice a2 n2 c2]] w (TPost W H n (prodL H M W aa bb) w) := by
 subst h1 h2 h3; exact Product_ok H M W a1 c1 aa a2 c2 bb w hA hB hM hH hW
end
end Go.Proofs.YtajdoobkfbdgoaaDoor
