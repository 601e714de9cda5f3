/- Lemmas on which the law of this seat rests; each states its own conditions. -/
import Derived.Test.YtajdoobkfbdgoaaDoorB08
import Derived.Test.YtajdoobkfbdgoaaDoorB20
import Derived.Test.YtajdoobkfbdgoaaDoorB22
import Derived.Test.YtajdoobkfbdgoaaDoorB21
set_option linter.unusedVariables false
set_option linter.unusedSimpArgs false
namespace Go.Proofs.YtajdoobkfbdgoaaDoor
section
open Go.RowKit
open Lo
end
section
open Go.RowKit
open Lo
end
section
open Go.RowKit
open Lo
def markF (W : Nat) (L : List Nat) (p : Nat) : Bool := decide (p % W = L.getD (p / W) 0)
def markL (W : Nat) (L : List Nat) : List Bool := bT (markF W L) (L.length * W)
theorem markF_at {W x y : Nat} {L : List Nat} (hx : x < W) : markF W L (y * W + x) = decide (x = L.getD y 0) := by unfold markF; rw [dm1 hx, dm2 hx]
theorem markL_len (W : Nat) (L : List Nat) : (markL W L).length = L.length * W := by unfold markL; rw [bT_len]
theorem markL_get {W x y : Nat} {L : List Nat} (hx : x < W) (hy : y < L.length) : (markL W L).getD (y * W + x) false = decide (x = L.getD y 0) := by
 unfold markL
 have := place_lt' hx hy
 rw [bT_get _ (by rw [Nat.mul_comm L.length]; exact this), markF_at hx]
theorem dd_prod {W H : Nat} {tie : List Bool} {th tr : List Nat} (k5 : ∀ x ∈ th, x < W) (k6 : ∀ x ∈ tr, x < H) :
  prodL tr.length W th.length (prodL tr.length H W (markL H tr) tie) (turnL W th.length (markL W th)) = ddL W tie th tr := by
 refine grid_ext (W := th.length) (H := tr.length) (by rw [prodL_len]) (by unfold ddL; rw [grid_len]) fun y x hy hx => ?_
 rw [prodL_get hx hy]
 unfold ddL
 rw [grid_get hy hx]
 have hs : th.getD x 0 < W := k5 _ (getD_memN hx)
 have ht : tr.getD y 0 < H := k6 _ (getD_memN hy)
 unfold mulB
 rw [Bool.eq_iff_iff]
 simp only [List.any_eq_true, List.mem_range, Bool.and_eq_true]
 constructor
 ·rintro ⟨s, h1, h2, h3⟩
  rw [prodL_get h1 hy] at h2
  unfold mulB at h2
  simp only [List.any_eq_true, List.mem_range, Bool.and_eq_true] at h2
  obtain ⟨t, g1, g2, g3⟩ := h2
  rw [markL_get g1 hy, decide_eq_true_eq] at g2
  rw [turnL_get h1 hx, markL_get h1 hx, decide_eq_true_eq] at h3
  rw [← g2, ← h3]; exact g3
 ·intro h
  refine ⟨_, hs, ?_, ?_⟩
  ·rw [prodL_get hs hy]
   unfold mulB
   simp only [List.any_eq_true, List.mem_range, Bool.and_eq_true]
   exact ⟨_, ht, by rw [markL_get ht hy]; simp, h⟩
  ·rw [turnL_get hs hx, markL_get hs hx]; simp
def MkPost (W H n : Nat) (L : List Bool) (w : World) (r : Ending) (w' : World) : Prop := ∃ A C, r = .returned (.agg #[.int .i64 (W), .int .i64 (H), .slice A n C]) ∧ OkT w' A n C L ∧ Below w.heap.size w w' ∧ ∀ b o, A = some ⟨b, o, none⟩ → w.heap.size ≤ b
set_option maxRecDepth 100000 in
set_option maxHeartbeats 8000000 in
theorem marked_ok (a : Option Addr) (n c : Nat) (L : List Nat) (W : Nat) (w : World) (hi : IsInts w a n (natI L)) (hl : L.length = n) (hn : n ≤ 64) (hW : W ≤ 64) (k5 : ∀ x ∈ L, x < W) :
  Calls Tryd.prog 29 #[.slice a n c, .int .i64 (W)] w (MkPost W n (W * n) (markL W L) w) := by
 have h4 : W * n ≤ 4096 := mul64n hW hn
 have hmul : (W : Int) * (n : Int) = ((W * n : Nat) : Int) := by rw [Int.natCast_mul]
 have hmk := makeRow okBools rfl (W * n) (by omega) (by omega)
 have HI := Lib.hid hi
 have HL := Lib.hid hl
 have HK := Lib.hid k5
 clear hi hl k5
 obtain ⟨N, hN⟩ : ∃ N, W * n = N := ⟨_, rfl⟩
 rw [hN] at h4 hmul hmk ⊢
 have HN := Lib.hid hN
 clear hN
 go_enter Tryd.func29, Tryd.ntmps29
 go_wp2_with fail
 obtain ⟨rb, hrb⟩ : ∃ rb, w.heap.size = rb := ⟨_, rfl⟩
 have hr1 := ((tF_alloc w 0 0 (.slice none 0 0) rfl).alloc (.cells (madeCells #[.bool false] N) 4)).alloc (.cells #[.int .i64 (W), .int .i64 (n), .slice (some ⟨w.heap.size + 1, 0, none⟩) N N] 33)
 have hg1 := (World.rowIs_made (w.alloc (.cells #[.int .i64 (0), .int .i64 (0), .slice none 0 0] 33)) (.bool false) N 4).alloc (.cells #[.int .i64 (W), .int .i64 (n), .slice (some ⟨w.heap.size + 1, 0, none⟩) N N] 33)
 have ho1 := tF_alloc ((w.alloc (.cells #[.int .i64 (0), .int .i64 (0), .slice none 0 0] 33)).alloc (.cells (madeCells #[.bool false] N) 4)) W n (.slice (some ⟨w.heap.size + 1, 0, none⟩) N N) rfl
 have hb1 : Below w.heap.size w (((w.alloc (.cells #[.int .i64 (0), .int .i64 (0), .slice none 0 0] 33)).alloc (.cells (madeCells #[.bool false] N) 4)).alloc (.cells #[.int .i64 (W), .int .i64 (n), .slice (some ⟨w.heap.size + 1, 0, none⟩) N N] 33)) := blw
 have hs1 : (((w.alloc (.cells #[.int .i64 (0), .int .i64 (0), .slice none 0 0] 33)).alloc (.cells (madeCells #[.bool false] N) 4)).alloc (.cells #[.int .i64 (W), .int .i64 (n), .slice (some ⟨w.heap.size + 1, 0, none⟩) N N] 33)).heap.size = w.heap.size + 1 + 1 + 1 := by simp
 rw [World.size_alloc] at hg1
 rw [World.size_alloc, World.size_alloc] at ho1
 generalize ((w.alloc (.cells #[.int .i64 (0), .int .i64 (0), .slice none 0 0] 33)).alloc (.cells (madeCells #[.bool false] N) 4)).alloc (.cells #[.int .i64 (W), .int .i64 (n), .slice (some ⟨w.heap.size + 1, 0, none⟩) N N] 33) = W3 at *
 rw [hrb] at hr1 hg1 ho1 hb1 hs1 ⊢
 obtain ⟨gb, hgb⟩ : ∃ gb, rb + 1 = gb := ⟨_, rfl⟩
 rw [hgb] at hg1 ho1 hs1 ⊢
 obtain ⟨ob, hob⟩ : ∃ ob, gb + 1 = ob := ⟨_, rfl⟩
 rw [hob] at ho1 hs1 ⊢
 obtain ⟨base, hbase⟩ : ∃ b, b = W3.heap.size := ⟨_, rfl⟩
 have hord : rb < gb ∧ gb < ob ∧ ob < base := by omega
 have HRB := Lib.hid hr1; have HO3 := Lib.hid ho1; have HG3 := Lib.hid hg1; have HBS := Lib.hid hbase; have HQE := Lib.hid hrb
 have hB0 : Hid (∀ w', BelowX base gb W3 w' → Below w.heap.size w w') := Lib.hid fun w' h => by
  rw [hrb]
  exact hb1.trans ((h.below hbase.symm (Nat.le_refl _) (by omega)).mono (by omega))
 clear hr1 ho1 hg1 hb1 hs1 hob hgb hrb hbase
 obtain ⟨F, hF⟩ : ∃ F, markF W L = F := ⟨_, rfl⟩
 have HF := Lib.hid hF
 clear hF
 go_loopw [19] (fun i wr => ∃ y : Nat, y ≤ n ∧ i = .int .i64 y ∧ wr.rowIs gb 4 N (fun p => .bool (decide (p / W < y) && F p)) ∧ BelowX base gb W3 wr) (fun i _ => n - (intOf i).toNat)
 case atStart => exact ⟨0, Nat.zero_le _, rfl, HG3.out.congr fun p hp => by simp, BelowX.refl (by have := HBS.out; omega)⟩
 case round =>
  obtain ⟨y, hy, rfl, hrow, hbx⟩ := hrel
  have hbw := hB0.out _ hbx
  have hor := hbx.rowIs HO3.out (by omega) (by omega)
  by_cases hyn : y < n
  ·obtain ⟨b, o, rfl, hbl, hc⟩ := (HI.out.below hbw).2 (by omega)
   have c0 := hc y hyn
   rw [natI_getN] at c0
   have lb : LtW b wr := hbl
   have htW := HK.out _ (getD_memN (L := L) (j := y) (by rw [HL.out]; exact hyn))
   have hFt : ∀ p, p / W = y → F p = decide (p % W = L.getD y 0) := fun p e => by rw [← HF.out]; unfold markF; rw [e]
   obtain ⟨t, ht⟩ : ∃ t, L.getD y 0 = t := ⟨_, rfl⟩
   rw [ht] at c0 htW hFt
   have HFT := Lib.hid hFt
   obtain ⟨M, hM⟩ : ∃ M, y * W = M := ⟨_, rfl⟩
   have hp2 : M + t < N := by rw [← HN.out, ← hM]; exact place_lt' htW hyn
   have hmul2 : (y : Int) * (W : Int) = (M : Int) := by rw [← Int.natCast_mul, hM]
   have HM := Lib.hid hM
   have o0 : wr.cell? ⟨ob, 0, none⟩ = some (.int .i64 (W)) := hor.cell (i := 0) (by omega)
   have o2 : wr.cell? ⟨ob, 2, none⟩ = some (.slice (some ⟨gb, 0, none⟩) N N) := hor.cell (i := 2) (by omega)
   have lo : LtW ob wr := hor.lt
   have cg := hrow.cell hp2
   have fg := hrow.frozen (M + t)
   have lg : LtW gb wr := hrow.lt
   have v1 : IntKind.i64.wrap (M : Int) = (M : Int) := IntWalk.i64_in _ (by omega)
   have v2 : IntKind.i64.wrap ((M : Int) + (t : Int)) = (M : Int) + (t : Int) := IntWalk.i64_in _ (by omega)
   have v3 : ((M : Int) + (t : Int)).toNat = M + t := by omega
   have i0 : (0 : Int) ≤ (M : Int) + (t : Int) := by omega
   have i1 : (M : Int) + (t : Int) < (N : Int) := by omega
   have HROW := Lib.hid hrow
   have HBX := Lib.hid hbx
   clear hc hbl ht hFt hM hor hrow hbx hbw
   go_wp2
   go_roundw
   case rel =>
    refine ⟨y + 1, by omega, by go_num, (HROW.out.set (M + t) (.bool true)).congr fun p hp => ?_, HBX.out.set _ _⟩
    have hW0 : 0 < W := by omega
    have hpm : p / W * W + p % W = p := by rw [Nat.mul_comm]; exact Nat.div_add_mod p W
    by_cases e : p = M + t
    ·have e1 : p / W = y := by rw [e, ← HM.out, dm2 htW]
     have e2 : p % W = t := by rw [e, ← HM.out, dm1 htW]
     rw [if_pos e, HFT.out p e1]
     simp [e1, e2]
    ·rw [if_neg e]
     by_cases e1 : p / W = y
     ·have e2 : p % W ≠ t := fun e2 => e (by rw [← hpm, e1, e2, HM.out])
      rw [HFT.out p e1]
      simp [e1, e2]
     ·have e3 : decide (p / W < y) = decide (p / W < y + 1) := by
       by_cases e4 : p / W < y
       ·rw [decide_eq_true e4, decide_eq_true (by omega)]
       ·rw [decide_eq_false e4, decide_eq_false (by omega)]
      rw [e3]
   case measure => simp [intOf]; omega
  ·obtain rfl : n = y := by omega
   have HROW : Hid (OkT wr (some ⟨gb, 0, none⟩) N N (markL W L)) := Lib.hid ⟨⟨by rw [markL_len, HL.out, Nat.mul_comm, HN.out], fun _ => ⟨gb, 0, rfl, hrow.lt, fun j hj => by
    rw [Nat.zero_add, hrow.cell hj]
    have hjn : j / W < n := by
     have : j < W * n := by rw [HN.out]; exact hj
     exact Nat.div_lt_of_lt_mul this
    unfold markL
    rw [bT_get _ (by rw [HL.out, Nat.mul_comm, HN.out]; exact hj), HF.out, decide_eq_true hjn, Bool.true_and]⟩⟩, Nat.le_refl _, by omega⟩
   have o0 : wr.cell? ⟨ob, 0, none⟩ = some (.int .i64 (W)) := hor.cell (i := 0) (by omega)
   have o1 : wr.cell? ⟨ob, 1, none⟩ = some (.int .i64 (n)) := hor.cell (i := 1) (by omega)
   have o2 : wr.cell? ⟨ob, 2, none⟩ = some (.slice (some ⟨gb, 0, none⟩) N N) := hor.cell (i := 2) (by omega)
   have rr := hbx.rowIs HRB.out (by omega) (by omega)
   have r0 : wr.cell? ⟨rb, 0, none⟩ = some (.int .i64 (0)) := rr.cell (i := 0) (by omega)
   have r1 : wr.cell? ⟨rb, 1, none⟩ = some (.int .i64 (0)) := rr.cell (i := 1) (by omega)
   have r2 : wr.cell? ⟨rb, 2, none⟩ = some (.slice none 0 0) := rr.cell (i := 2) (by omega)
   have f0 := rr.frozen 0; have f1 := rr.frozen 1; have f2 := rr.frozen 2
   have HBW := Lib.hid hbw
   have hxs := hbx.size
   clear rr hor hrow hbx hbw HO3 HG3 HRB
   generalize markL W L = DL at *
   go_wp2
   have hq := HQE.out
   refine bodyPost_ret (v := .agg #[.int .i64 (W), .int .i64 (n), .slice (some ⟨gb, 0, none⟩) N N]) (by simp [results, Tryd.results29, go_sem, r0, r1, r2]) rfl ⟨_, N, rfl, ?_, ?_, fun b o e => by cases e; omega⟩
   ·exact (((((BelowX.refl (base := wr.heap.size) (mb := rb) (Nat.le_refl _)).set 0 _).set 1 _).set 2 _).okT HROW.out rfl fun b o e => by cases e; omega)
   ·exact ((HBW.out.setCell (by simp; omega) _).setCell (by simp; omega) _).setCell (by simp; omega) _
end
end Go.Proofs.YtajdoobkfbdgoaaDoor
