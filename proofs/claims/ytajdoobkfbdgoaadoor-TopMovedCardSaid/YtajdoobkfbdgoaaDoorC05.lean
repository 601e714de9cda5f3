/- Lemmas on which the law of this seat rests; each states its own conditions. -/
import Derived.Test.YtajdoobkfbdgoaaDoorC04
import Derived.IntWalk
import Derived.CallsIn
import Derived.OrdersIn
import Derived.TacticsIn
import Derived.OrdersHeld
set_option linter.unusedVariables false
set_option linter.unusedSimpArgs false
namespace Go.Proofs.YtajdoobkfbdgoaaDoor
section
open Go.RowKit
open Go.Shelf
attribute [local go_sem] Oper.semAt_some
def tC (W H : Nat) (bs : List Bool) (pre : List (Fin H)) (y x : Nat) (p : Nat) : Bool :=
 (decide (p % H ∈ pre.map Fin.val) || (decide (p % H = y) && decide (p / H < x))) && bs.getD ((p % H) * W + p / H) false
theorem tC_step {W H : Nat} {bs : List Bool} {pre : List (Fin H)} {y x p : Nat} (hy : y < H) (hp : p ≠ x * H + y) : tC W H bs pre y (x+1) p = tC W H bs pre y x p := by
 unfold tC
 by_cases e : p % H = y
 ·have hx : p / H ≠ x := by
   intro hx
   apply hp
   have := Nat.div_add_mod p H
   rw [e, hx, Nat.mul_comm] at this
   omega
  have : (p / H < x + 1) ↔ (p / H < x) := by omega
  simp [this]
 ·simp [e]
theorem tC_new {W H : Nat} {bs : List Bool} {pre : List (Fin H)} {y x : Nat} (hy : y < H) : tC W H bs pre y (x+1) (x * H + y) = bs.getD (y * W + x) false := by
 unfold tC
 have h1 : (x * H + y) % H = y := by rw [Nat.mul_comm, Nat.mul_add_mod, Nat.mod_eq_of_lt hy]
 have h2 : (x * H + y) / H = x := by rw [Nat.mul_comm, Nat.mul_add_div (by omega), Nat.div_eq_of_lt hy]; omega
 rw [h1, h2]; simp
theorem tC_row {W H : Nat} {bs : List Bool} {pre : List (Fin H)} {y : Fin H} {p : Nat} (hp : p < W * H) : tC W H bs pre y W p = tC W H bs (pre ++ [y]) 0 0 p := by
 unfold tC
 have h : p / H < W := Nat.div_lt_of_lt_mul (by rw [Nat.mul_comm]; exact hp)
 simp [h, List.mem_append]
theorem tC_zero {W H : Nat} {bs : List Bool} {pre : List (Fin H)} {y p : Nat} : tC W H bs pre y 0 p = tC W H bs pre 0 0 p := by
 unfold tC; simp
theorem tC_all {W H : Nat} {bs : List Bool} {p : Nat} (hp : p < W * H) : tC W H bs (List.finRange H) 0 0 p = (turnL W H bs).getD p false := by
  have hH : 0 < H := by rcases Nat.eq_zero_or_pos H with h | h; · subst h; simp at hp
                        · exact h
  unfold tC turnL
  have h1 : p % H ∈ (List.finRange H).map Fin.val := by
    rw [List.mem_map]; exact ⟨⟨p % H, Nat.mod_lt _ hH⟩, List.mem_finRange _, rfl⟩
  have e : ((List.range (W * H)).map fun p => bs.getD ((p % H) * W + p / H) false).getD p false = bs.getD ((p % H) * W + p / H) false := by
    rw [List.getD_eq_getElem?_getD, List.getElem?_map, List.getElem?_range hp]; rfl
  rw [e, decide_eq_true h1]; simp
structure TI (w : World) (q ob g tb rb W H n : Nat) (a : Option Addr) (c : Nat) (f : Nat → Bool) (W' : World) : Prop where
 rq : W'.rowIs q 33 3 (tF W H (.slice a n c))
 rt : W'.rowIs tb 33 3 (tF W H (.slice a n c))
 ro : W'.rowIs ob 33 3 (tF H W (.slice (some ⟨g, 0, none⟩) n n))
 rr : W'.rowIs rb 33 3 (tF 0 0 (.slice none 0 0))
 rg : W'.rowIs g 4 n (fun p => .bool (f p))
 bel : Below w.heap.size w W'
theorem TI.kept {w : World} {q ob g tb rb W H n : Nat} {a : Option Addr} {c : Nat} {f : Nat → Bool} {A B : World} {row : Option Nat} (h : TI w q ob g tb rb W H n a c f A) (hg : A.grownBy B row) (hr : ∀ r, row = some r → w.heap.size ≤ r ∧ ∃ o : Obj, A.heap[r]? = some o ∧ o.isCells = false) : TI w q ob g tb rb W H n a c f B :=
 have hr' : ∀ r, row = some r → ∃ o : Obj, A.heap[r]? = some o ∧ o.isCells = false := fun r e => (hr r e).2
 ⟨rowIs_kept h.rq hg hr', rowIs_kept h.rt hg hr', rowIs_kept h.ro hg hr', rowIs_kept h.rr hg hr', rowIs_kept h.rg hg hr', h.bel.grown hg h.bel.size (fun k e => (hr k e).1)⟩
theorem TI.set {w : World} {q ob g tb rb W H n : Nat} {a : Option Addr} {c : Nat} {f f' : Nat → Bool} {A : World} (h : TI w q ob g tb rb W H n a c f A) (i : Nat) (v : Bool) (hq : q ≠ g) (ho : ob ≠ g) (ht : tb ≠ g) (hr : rb ≠ g) (hg : w.heap.size ≤ g) (hf : ∀ p, p < n → f' p = if p = i then v else f p) : TI w q ob g tb rb W H n a c f' (A.setCell ⟨g, i, none⟩ (.bool v)) :=
 ⟨h.rq.setOther hq _, h.rt.setOther ht _, h.ro.setOther ho _, h.rr.setOther hr _, (h.rg.set i (.bool v)).congr fun p hp => by rw [hf p hp]; by_cases e : p = i <;> simp [e], h.bel.setCell (p := ⟨g, i, none⟩) hg _⟩
def TurnedPost (W H : Nat) (bs : List Bool) (w : World) (r : Ending) (w' : World) : Prop :=
 ∃ g, r = .returned (.tuple #[.agg #[.int .i64 (H), .int .i64 (W), .slice (some ⟨g, 0, none⟩) (W*H) (W*H)], .int .i64 (0)]) ∧ OkT w' (some ⟨g, 0, none⟩) (W*H) (W*H) (turnL W H bs) ∧ Below w.heap.size w w'
set_option maxRecDepth 100000 in
set_option maxHeartbeats 4000000 in
theorem Turned_ok (W H : Nat) (a : Option Addr) (c : Nat) (bs : List Bool) (w : World) (hT : OkT w a (W * H) c bs) (hW : W ≤ 64) (hH : H ≤ 64) :
  Calls Tryd.prog 30 #[.agg #[.int .i64 (W), .int .i64 (H), .slice a (W*H) c]] w (TurnedPost W H bs w) := by
 have HT := Lib.hid hT
 have h4 : W * H ≤ 4096 := Nat.le_trans (Nat.mul_le_mul hW hH) (by omega)
 have HWr := Lib.hid (fun w => tWrong_any W H a (W * H) c w (by omega) (by omega) (by omega))
 have HW0 := Lib.hid (wrT_ok hW hH)
 have HBk : Hid (∀ w, Calls Tryd.prog 32 #[.int .i64 (H), .int .i64 (W)] w fun e w' => e = .returned (.agg #[.int .i64 (H), .int .i64 (W), .slice (some ⟨w.heap.size+1, 0, none⟩) (W*H) (W*H)]) ∧ w'.rowIs (w.heap.size+1) 4 (W*H) (fun _ => .bool false) ∧ Below w.heap.size w w') := Lib.hid (fun w => by rw [Nat.mul_comm W H]; exact blank_ok H W w hH hW)
 have hcap := hT.cap
 have hlim := hT.lim
 clear hT
 refine (callsIn_wide (n := 9)).1 ?_
 refine callsIn_of_wp_marks Tryd.func30 rfl trivial ?_ rfl
 simp only [Tryd.ntmps30, List.size_toArray, List.length_cons, List.length_nil, Nat.reduceAdd, Nat.reduceSub, Array.replicate_succ, Array.replicate_zero, List.push_toArray, List.append_toArray, List.nil_append, List.cons_append]
 refine wpIn_wide.2 ?_
 generalize hn : W * H = n at *
 have HN := Lib.hid hn
 clear hn
 go_wp2_with fail
 have hrq := tF_alloc w W H (.slice a n c) rfl
 have hrr := tF_alloc (w.alloc (.cells #[.int .i64 (W), .int .i64 (H), .slice a n c] 33)) 0 0 (.slice none 0 0) rfl
 rw [World.size_alloc] at hrr
 replace hrq := hrq.alloc (.cells #[.int .i64 0, .int .i64 0, .slice none 0 0] 33)
 have hB0 : Below w.heap.size w ((w.alloc (.cells #[.int .i64 (W), .int .i64 (H), .slice a n c] 33)).alloc (.cells #[.int .i64 0, .int .i64 0, .slice none 0 0] 33)) := blw
 have hsz : ((w.alloc (.cells #[.int .i64 (W), .int .i64 (H), .slice a n c] 33)).alloc (.cells #[.int .i64 0, .int .i64 0, .slice none 0 0] 33)).heap.size = w.heap.size + 2 := by simp
 generalize (w.alloc (.cells #[.int .i64 (W), .int .i64 (H), .slice a n c] 33)).alloc (.cells #[.int .i64 0, .int .i64 0, .slice none 0 0] 33) = W0 at *
 refine (HWr.out _).mono ?_
 rintro r w1 ⟨rfl, hb⟩
 rw [HW0.out]
 replace hrq := rowBelow hrq hb (by omega)
 have d0 : w1.cell? ⟨w.heap.size, 0, none⟩ = some (.int .i64 (W)) := hrq.cell (i := 0) (by omega)
 have d1 : w1.cell? ⟨w.heap.size, 1, none⟩ = some (.int .i64 (H)) := hrq.cell (i := 1) (by omega)
 have HRQ := Lib.hid hrq
 have HRR := Lib.hid (rowBelow hrr hb (by omega))
 have HB1 := Lib.hid (hB0.trans (hb.mono hB0.size))
 have hsz1 : w.heap.size + 2 ≤ w1.heap.size := by have := hb.size; omega
 clear hrq hrr hB0 hb hsz
 go_wp2_with fail
 refine (HBk.out _).mono ?_
 rintro r w2 ⟨rfl, hrow, hb2⟩
 have hrq := rowBelow HRQ.out hb2 (by omega)
 have hsz2 : w1.heap.size + 2 ≤ w2.heap.size := by have := hrow.lt; omega
 have d0 : w2.cell? ⟨w.heap.size, 0, none⟩ = some (.int .i64 (W)) := hrq.cell (i := 0) (by omega)
 have d1 : w2.cell? ⟨w.heap.size, 1, none⟩ = some (.int .i64 (H)) := hrq.cell (i := 1) (by omega)
 have d2 : w2.cell? ⟨w.heap.size, 2, none⟩ = some (.slice a n c) := hrq.cell (i := 2) (by omega)
 have HRQ := Lib.hid hrq
 have HRR := Lib.hid (rowBelow HRR.out hb2 (by omega))
 have HB2 := Lib.hid (HB1.out.trans (hb2.mono HB1.out.size))
 have HRG := Lib.hid hrow
 have lq : LtW w.heap.size w2 := by unfold LtW; omega
 clear hrq hb2 hrow
 go_wp2_with fail
 refine (callsIn_wide.1 (rows_in W H a n c 9 _)).mono ?_
 rintro r w3 ⟨rfl, rfl⟩
 go_wp2_with fail
 have hW3q := HRQ.out.alloc (.cells #[.int .i64 (H), .int .i64 (W), .slice (some ⟨w1.heap.size+1, 0, none⟩) n n] 33) |>.alloc (.cells #[.int .i64 (W), .int .i64 (H), .slice a n c] 33)
 have hW3r := HRR.out.alloc (.cells #[.int .i64 (H), .int .i64 (W), .slice (some ⟨w1.heap.size+1, 0, none⟩) n n] 33) |>.alloc (.cells #[.int .i64 (W), .int .i64 (H), .slice a n c] 33)
 have hW3g := HRG.out.alloc (.cells #[.int .i64 (H), .int .i64 (W), .slice (some ⟨w1.heap.size+1, 0, none⟩) n n] 33) |>.alloc (.cells #[.int .i64 (W), .int .i64 (H), .slice a n c] 33)
 have hW3o := (tF_alloc w2 H W (.slice (some ⟨w1.heap.size+1, 0, none⟩) n n) rfl).alloc (.cells #[.int .i64 (W), .int .i64 (H), .slice a n c] 33)
 have hW3t := tF_alloc (w2.alloc (.cells #[.int .i64 (H), .int .i64 (W), .slice (some ⟨w1.heap.size+1, 0, none⟩) n n] 33)) W H (.slice a n c) rfl
 rw [World.size_alloc] at hW3t
 have hW3b : Below w.heap.size w ((w2.alloc (.cells #[.int .i64 (H), .int .i64 (W), .slice (some ⟨w1.heap.size+1, 0, none⟩) n n] 33)).alloc (.cells #[.int .i64 (W), .int .i64 (H), .slice a n c] 33)) := (HB2.out.alloc HB2.out.size _).alloc (by simp; have := HB2.out.size; omega) _
 have hsz3 : ((w2.alloc (.cells #[.int .i64 (H), .int .i64 (W), .slice (some ⟨w1.heap.size+1, 0, none⟩) n n] 33)).alloc (.cells #[.int .i64 (W), .int .i64 (H), .slice a n c] 33)).heap.size = w2.heap.size + 2 := by simp
 generalize (w2.alloc (.cells #[.int .i64 (H), .int .i64 (W), .slice (some ⟨w1.heap.size+1, 0, none⟩) n n] 33)).alloc (.cells #[.int .i64 (W), .int .i64 (H), .slice a n c] 33) = W3 at *
 obtain ⟨g, hg⟩ : ∃ g, w1.heap.size + 1 = g := ⟨_, rfl⟩
 obtain ⟨ob, ho⟩ : ∃ ob, w2.heap.size = ob := ⟨_, rfl⟩
 obtain ⟨q, hq⟩ : ∃ q, q = w.heap.size := ⟨_, rfl⟩
 rw [hg] at hW3g hW3o ⊢
 rw [ho] at hW3o hW3t ⊢
 have hord : q + 1 < g ∧ g < ob := by omega
 have hwq : w.heap.size ≤ q := by omega
 have HQ := Lib.hid hq
 have hTI : TI w q ob g (ob+1) (q+1) W H n a c (tC W H bs [] 0 0) W3 := ⟨by rw [hq]; exact hW3q, hW3t, hW3o, by rw [hq]; exact hW3r, hW3g.congr fun p hp => by simp [tC], hW3b⟩
 rw [← hq]
 have hTB : TB (ob+1) W H a n c bs W3 := TB.of_row hW3t (HT.out.bits.below hW3b)
 clear hW3q hW3r hW3g hW3o hW3t hW3b HRQ HRR HRG lq d0 d1 d2 hq hg ho
 refine (wpIn_wide (n := 9)).1 ?_
 refine wpIn_rangeFunc_ownG rfl (by omega) (gf := 57) (lb := #[.pointer (some ⟨ob+1, 0, none⟩)]) rfl trivial (enters_of Tryd.func57 (by kernel_rfl) rfl)
  (rows_stops 8 (by omega) (ob+1) W H a n c bs hW hH HN.out.symm hcap hlim W3 hTB) (fun h k x => k (h x))
  (fun A l o o' _ ho hc _ x => x.kept (grownBy_putObj' A l o') (fun r e => by cases e; exact ⟨o, ho, hc⟩)) (Below.refl _ _) (fun _ => rfl)
  (fun pre W' => TI w q ob g (ob+1) (q+1) W H n a c (tC W H bs pre 0 0) W') (fun _ _ _ => False)
  (fun s A B row hs hg hr => hs.kept hg (fun r e => ⟨by have := (hr r e).1; omega, (hr r e).2⟩)) (fun _ _ _ _ _ hs _ _ => hs) hTI
  (fun x => { tmps := #[.agg #[.int .i64 (W), .int .i64 (H), .slice a n c], .pointer (some ⟨q, 0, none⟩), .pointer (some ⟨q+1, 0, none⟩), .int .i64 (0), .int .i64 (0), .pointer (some ⟨ob, 0, none⟩), .int .i64 ((x.val : Nat)), rowV a c W x.val, undef, undef, .agg #[.int .i64 (W), .int .i64 (H), .slice a n c], .int .i64 (0), .int .i64 (0), .bool false, undef, undef, .pointer (some ⟨q, 1, none⟩), .int .i64 (H), .pointer (some ⟨q, 0, none⟩), .int .i64 (W), .agg #[.int .i64 (H), .int .i64 (W), .slice (some ⟨g, 0, none⟩) n n], .agg #[.int .i64 (W), .int .i64 (H), .slice a n c], .func (.func 57) #[] #[.pointer (some ⟨ob+1, 0, none⟩)], .int .i64 ((x.val : Nat)), rowV a c W x.val, undef, undef, undef, undef, undef, undef, undef, undef, undef, undef, undef, undef, undef, undef, undef, undef, undef, undef, undef], defers := [] }) ?assign ?body ?done ?stop
 case assign =>
  intro l x W' K hK
  gi_wp2
  exact hK
 case body =>
  rintro l pre x W' hTI' _
  obtain ⟨A, cc, hrv, hrow⟩ := rowV_bools (a := a) (bs := bs) hcap HN.out.symm x.isLt
  obtain ⟨y, hy⟩ := x
  have HR := Lib.hid hrow
  simp only at hrv
  simp only [hrv]
  have HTI := Lib.hid hTI'
  clear hTI' hrv hrow
  gi_wp2
  gi_loopw [27] (fun i wr => ∃ k : Nat, k ≤ W ∧ i = .int .i64 k ∧ TI w q ob g (ob+1) (q+1) W H n a c (tC W H bs pre y k) wr ∧ KeepsFrom W3.heap.size W' wr) (fun i _ => W - (intOf i).toNat)
  case atStart => exact ⟨0, Nat.zero_le _, rfl, by rw [show tC W H bs pre y 0 = tC W H bs pre 0 0 from funext fun p => tC_zero]; exact HTI.out, KeepsFrom.refl _ _⟩
  case round =>
   obtain ⟨k, hk, rfl, hT2, hKF⟩ := hrel
   have HT2 := Lib.hid hT2
   have HKF := Lib.hid hKF
   clear hT2 hKF
   by_cases hkW : k < W
   ·obtain ⟨b, o, rfl, hb, hc⟩ := (HR.out _ (HT.out.below HT2.out.bel)).bits.2 (by omega)
    have cb := hc k hkW
    rw [rowL_get bs hkW] at cb
    have co : wr.cell? ⟨ob, 2, none⟩ = some (.slice (some ⟨g, 0, none⟩) n n) := HT2.out.ro.cell (i := 2) (by omega)
    have cq : wr.cell? ⟨q, 1, none⟩ = some (.int .i64 (H)) := HT2.out.rq.cell (i := 1) (by omega)
    obtain ⟨M, hM⟩ : ∃ M, k * H = M := ⟨_, rfl⟩
    have hmul : (k : Int) * (H : Int) = (M : Int) := by rw [← Int.natCast_mul, hM]
    have hlt : M + y < n := by
     rw [← HN.out, ← hM]
     have : (k + 1) * H ≤ W * H := Nat.mul_le_mul_right H hkW
     rw [Nat.add_mul, Nat.one_mul] at this; omega
    have cg := HT2.out.rg.cell (i := M + y) hlt
    have fg := HT2.out.rg.frozen (M + y)
    have HTN : Hid (TI w q ob g (ob+1) (q+1) W H n a c (tC W H bs pre y (k+1)) (wr.setCell ⟨g, M + y, none⟩ (.bool (bs.getD (y * W + k) false)))) := Lib.hid (HT2.out.set (M + y) _ (by omega) (by omega) (by omega) (by omega) (by omega) (fun p hp => by
     by_cases e : p = M + y
     ·subst e; rw [if_pos rfl, ← hM, tC_new hy]
     ·rw [if_neg e, tC_step hy (by rw [hM]; exact e)]))
    have HKN : Hid (KeepsFrom W3.heap.size W' (wr.setCell ⟨g, M + y, none⟩ (.bool (bs.getD (y * W + k) false)))) := Lib.hid (HKF.out.trans ((KeepsOthers.setCell _ _ _).from _))
    generalize bs.getD (y * W + k) false = bit at *
    generalize tC W H bs pre y k (M + y) = old at *
    clear hc hb hM
    gi_wp2
    go_roundw
    case rel => exact ⟨k + 1, by omega, by go_num, HTN.out, HKN.out⟩
    case measure => simp [intOf]; omega
   ·obtain rfl : k = W := by omega
    gi_wp2
    refine ⟨HKF.out, fun _ => TB.of_row HT2.out.rt (HT.out.below HT2.out.bel).bits, ?_⟩
    have := HT2.out
    exact ⟨this.rq, this.rt, this.ro, this.rr, this.rg.congr fun p hp => by rw [tC_row (y := ⟨y, hy⟩) (by rw [HN.out]; exact hp)], this.bel⟩
 case done =>
  rintro D ys W' hD rfl hTI' hK
  have q0 : W'.cell? ⟨ob, 0, none⟩ = some (.int .i64 (H)) := hTI'.ro.cell (i := 0) (by omega)
  have q1 : W'.cell? ⟨ob, 1, none⟩ = some (.int .i64 (W)) := hTI'.ro.cell (i := 1) (by omega)
  have q2 : W'.cell? ⟨ob, 2, none⟩ = some (.slice (some ⟨g, 0, none⟩) n n) := hTI'.ro.cell (i := 2) (by omega)
  have f0 := hTI'.rr.frozen 0; have f1 := hTI'.rr.frozen 1; have f2 := hTI'.rr.frozen 2
  have r0 : W'.cell? ⟨q+1, 0, none⟩ = some (.int .i64 0) := hTI'.rr.cell (i := 0) (by omega)
  have r1 : W'.cell? ⟨q+1, 1, none⟩ = some (.int .i64 0) := hTI'.rr.cell (i := 1) (by omega)
  have r2 : W'.cell? ⟨q+1, 2, none⟩ = some (.slice none 0 0) := hTI'.rr.cell (i := 2) (by omega)
  have HTI := Lib.hid hTI'
  have HKD := Lib.hid hK
  clear hTI' hK
  go_wp2
  have hK1 := (((KeepsOthers.setCell W' ⟨q+1, 0, none⟩ (.int .i64 (H))).trans (KeepsOthers.setCell _ ⟨q+1, 1, none⟩ (.int .i64 (W)))).trans (KeepsOthers.setCell _ ⟨q+1, 2, none⟩ (.slice (some ⟨g, 0, none⟩) n n))).same D _ HKD.out rfl
  have hr4 : (((W'.setCell ⟨q+1, 0, none⟩ (.int .i64 (H))).setCell ⟨q+1, 1, none⟩ (.int .i64 (W))).setCell ⟨q+1, 2, none⟩ (.slice (some ⟨g, 0, none⟩) n n)).rowIs (q+1) 33 3 (tF H W (.slice (some ⟨g, 0, none⟩) n n)) := (((HTI.out.rr.set 0 _).set 1 _).set 2 _).congr fun i hi => by
   have hi3 : i = 0 ∨ i = 1 ∨ i = 2 := by omega
   rcases hi3 with rfl | rfl | rfl <;> rfl
  have hg4 := ((HTI.out.rg.setOther (a := ⟨q+1, 0, none⟩) (by simp; omega) (.int .i64 (H))).setOther (a := ⟨q+1, 1, none⟩) (by simp; omega) (.int .i64 (W))).setOther (a := ⟨q+1, 2, none⟩) (by simp; omega) (.slice (some ⟨g, 0, none⟩) n n)
  have hb4 := ((HTI.out.bel.setCell (p := ⟨q+1, 0, none⟩) (by simp; omega) (.int .i64 (H))).setCell (p := ⟨q+1, 1, none⟩) (by simp; omega) (.int .i64 (W))).setCell (p := ⟨q+1, 2, none⟩) (by simp; omega) (.slice (some ⟨g, 0, none⟩) n n)
  generalize ((W'.setCell ⟨q+1, 0, none⟩ (.int .i64 (H))).setCell ⟨q+1, 1, none⟩ (.int .i64 (W))).setCell ⟨q+1, 2, none⟩ (.slice (some ⟨g, 0, none⟩) n n) = W4 at *
  have hkk : ∀ r, some D = some r → ∃ o : Obj, W4.heap[r]? = some o ∧ o.isCells = false := fun r e => by cases e; exact ⟨_, hK1, rfl⟩
  refine ⟨by simp, .inl ⟨_, _, rfl, run_takeDeferred hK1, ?_⟩⟩
  have hr5 := rowIs_kept hr4 (grownBy_putObj' _ D (.deferred none)) hkk
  have hg5 := rowIs_kept hg4 (grownBy_putObj' _ D (.deferred none)) hkk
  have k0 : (W4.putObj D (.deferred none)).cell? ⟨q+1, 0, none⟩ = some (.int .i64 (H)) := hr5.cell (i := 0) (by omega)
  have k1 : (W4.putObj D (.deferred none)).cell? ⟨q+1, 1, none⟩ = some (.int .i64 (W)) := hr5.cell (i := 1) (by omega)
  have k2 : (W4.putObj D (.deferred none)).cell? ⟨q+1, 2, none⟩ = some (.slice (some ⟨g, 0, none⟩) n n) := hr5.cell (i := 2) (by omega)
  refine ⟨.tuple #[.agg #[.int .i64 (H), .int .i64 (W), .slice (some ⟨g, 0, none⟩) n n], .int .i64 (0)], by simp [results, Tryd.f30, go_sem, k0, k1, k2], ?_⟩
  refine ⟨g, by rw [HN.out], ⟨⟨by rw [turnL_len], fun hn => ⟨g, 0, rfl, hg5.lt, fun p hp => ?_⟩⟩, Nat.le_refl _, by rw [HN.out]; omega⟩, ?_⟩
  ·rw [Nat.zero_add, hg5.cell (by rw [← HN.out]; exact hp), tC_all hp]
  ·exact hb4.trans (belowK_b (w := w) (Nat.le_refl _) W4 D _ _ (by omega) hK1 rfl rfl)
 case stop =>
  rintro D c pre W' _ _ h _
  exact h.elim
end
section
open Go.RowKit
open Go.Shelf
attribute [local go_sem] Oper.semAt_some
end
section
open Go.RowKit
open Go.Shelf
attribute [local go_sem] Oper.semAt_some
section
variable {H M W : Nat} {aa bb : List Bool} {pre : List (Fin H)} {y : Nat} {pre2 : List (Fin M)} {k x p : Nat}
end
structure PI (w : World) (qb ob g ta rb M H W n1 n2 n : Nat) (a1 : Option Addr) (c1 : Nat) (a2 : Option Addr) (c2 : Nat) (f : Nat → Bool) (W' : World) : Prop where
 rq : W'.rowIs qb 33 3 (tF W M (.slice a2 n2 c2))
 rt : W'.rowIs ta 33 3 (tF M H (.slice a1 n1 c1))
 ro : W'.rowIs ob 33 3 (tF W H (.slice (some ⟨g, 0, none⟩) n n))
 rr : W'.rowIs rb 33 3 (tF 0 0 (.slice none 0 0))
 rg : W'.rowIs g 4 n (fun p => .bool (f p))
 bel : Below w.heap.size w W'
section
variable {w : World} {qb ob g ta rb M H W n1 n2 n : Nat} {a1 : Option Addr} {c1 : Nat} {a2 : Option Addr} {c2 : Nat} {f f' : Nat → Bool} {A B : World}
end
end
section
open Go.RowKit
theorem getD_map_range {n p : Nat} (f : Nat → Bool) (hp : p < n) : ((List.range n).map f).getD p false = f p := by
 rw [List.getD_eq_getElem?_getD, List.getElem?_map, List.getElem?_range hp]; rfl
theorem turnL_get {W H x y : Nat} {bs : List Bool} (hx : x < W) (hy : y < H) : (turnL W H bs).getD (x * H + y) false = bs.getD (y * W + x) false := by
 unfold turnL
 have hlt : x * H + y < W * H := by
  have : (x + 1) * H ≤ W * H := Nat.mul_le_mul_right H hx
  rw [Nat.add_mul, Nat.one_mul] at this; omega
 rw [getD_map_range _ hlt]
 have h1 : (x * H + y) % H = y := by rw [Nat.mul_comm, Nat.mul_add_mod, Nat.mod_eq_of_lt hy]
 have h2 : (x * H + y) / H = x := by rw [Nat.mul_comm, Nat.mul_add_div (by omega), Nat.div_eq_of_lt hy]; omega
 rw [h1, h2]
theorem grid_ext {W H : Nat} {l m : List Bool} (h1 : l.length = W * H) (h2 : m.length = W * H) (h : ∀ y x, y < H → x < W → l.getD (y * W + x) false = m.getD (y * W + x) false) : l = m := by
  apply List.ext_getElem (by omega)
  intro p hp hp2
  have hW : 0 < W := by rcases Nat.eq_zero_or_pos W with e | e
                        · subst e; simp at h1; omega
                        · exact e
  have := h (p / W) (p % W) (Nat.div_lt_of_lt_mul (by omega)) (Nat.mod_lt _ hW)
  have e : p / W * W + p % W = p := by rw [Nat.mul_comm]; exact Nat.div_add_mod p W
  rw [e, List.getD_eq_getElem?_getD, List.getD_eq_getElem?_getD, List.getElem?_eq_getElem hp, List.getElem?_eq_getElem hp2] at this
  simpa using this
def TPost (W H n : Nat) (bs : List Bool) (w : World) (r : Ending) (w' : World) : Prop :=
 ∃ g, r = .returned (.tuple #[.agg #[.int .i64 (W), .int .i64 (H), .slice (some ⟨g, 0, none⟩) n n], .int .i64 (0)]) ∧ OkT w' (some ⟨g, 0, none⟩) n n bs ∧ Below w.heap.size w w'
theorem Turned_any (W H n : Nat) (hn : n = W * H) (a : Option Addr) (c : Nat) (bs : List Bool) (w : World) (hT : OkT w a n c bs) (hW : W ≤ 64) (hH : H ≤ 64) :
  Calls Tryd.prog 30 #[.agg #[.int .i64 (W), .int .i64 (H), .slice a n c]] w (TPost H W n (turnL W H bs) w) := by
 subst hn; exact Turned_ok W H a c bs w hT hW hH
end
section
open Go.RowKit
theorem eq_of_getD {α : Type} {d : α} {l m : List α} {n : Nat} (h1 : l.length = n) (h2 : m.length = n) (h : ∀ j, j < n → l.getD j d = m.getD j d) : l = m := by
 apply List.ext_getElem (by omega)
 intro i hi hi2
 have := h i (by omega)
 rw [List.getD_eq_getElem?_getD, List.getD_eq_getElem?_getD, List.getElem?_eq_getElem hi, List.getElem?_eq_getElem hi2] at this
 simpa using this
set_option maxRecDepth 100000 in
set_option maxHeartbeats 8000000 in
theorem Equal_any (a1 : Option Addr) (n1 c1 : Nat) (b1 : List Bool) (a2 : Option Addr) (n2 c2 : Nat) (b2 : List Bool) (w : World) (hi : IsBools w a1 n1 b1) (hj : IsBools w a2 n2 b2) (m1 : n1 ≤ 9223372036854775807) (m2 : n2 ≤ 9223372036854775807) :
  Calls Tryd.prog 26 #[.slice a1 n1 c1, .slice a2 n2 c2] w fun e w' => e = .returned (.bool (decide (b1 = b2))) ∧ Below w.heap.size w w' := by
 by_cases hn : n1 = n2
 ·subst hn
  have L1 := Lib.hid hi.1; have L2 := Lib.hid hj.1
  have HI := Lib.hid hi; have HJ := Lib.hid hj
  have hb0 : ((n1 : Int) != (n1 : Int)) = false := by simp
  clear hi hj
  go_enter Tryd.func26, Tryd.ntmps26
  go_wp2_with fail
  clear hb0
  go_loopw [13] (fun i wr => ∃ k : Nat, k ≤ n1 ∧ i = .int .i64 k ∧ Hid (∀ j, j < k → b1.getD j false = b2.getD j false) ∧ ∃ E d, wr = extW w E d) (fun i _ => n1 - (intOf i).toNat)
  case atStart => exact ⟨0, Nat.zero_le _, rfl, Lib.hid (by omega), _, _, extW_zero _⟩
  case round =>
   obtain ⟨k, hk, rfl, HK, E, d, rfl⟩ := hrel
   by_cases hkn : k < n1
   ·obtain ⟨p1, o1, rfl, hp1, hc1⟩ := HI.out.2 (by omega)
    obtain ⟨p2, o2, rfl, hp2, hc2⟩ := HJ.out.2 (by omega)
    have k1 := hc1 k hkn
    have k2 := hc2 k hkn
    have l1 : LtW p1 w := hp1
    have l2 : LtW p2 w := hp2
    obtain ⟨x, hx⟩ : ∃ x, b1.getD k false = x := ⟨_, rfl⟩
    obtain ⟨y, hy⟩ : ∃ y, b2.getD k false = y := ⟨_, rfl⟩
    rw [hx] at k1
    rw [hy] at k2
    have HX := Lib.hid hx; have HY := Lib.hid hy
    clear hc1 hc2 hp1 hp2 hx hy
    have HK1 : Hid (x = y → ∀ j, j < k + 1 → b1.getD j false = b2.getD j false) := Lib.hid (by
     intro hxy j hj
     by_cases e : j = k
     ·subst e; rw [HX.out, HY.out, hxy]
     ·exact HK.out j (by omega))
    have HN : Hid (x ≠ y → b1 ≠ b2) := Lib.hid (by intro hxy e; subst e; exact hxy (HX.out.symm.trans HY.out))
    cases x <;> cases y
    all_goals
     go_wp2_with fail
     (refine wp_region_ext (by kernel_rfl) (by kernel_rfl) ?_; (repeat (first | ((with_reducible refine ext_step (fun K hK => ?_)); go_simp; first | (refine hK _ ?_; clear hK K) | (apply Exists.intro; refine ⟨fun _ _ => ?_, hK _ ?_⟩; fail; clear hK K)))); refine wpQuiet_nil ?_; intro E d)
     go_wp2
    ·go_roundw
     case rel => exact ⟨k + 1, by omega, by go_num, Lib.hid (HK1.out (by first | rfl | trivial)), _, _, extW_extW _ _ _ _ _⟩
     case measure => simp [intOf]; omega
    ·go_ret
     exact ⟨by rw [decide_eq_false (HN.out (by simp))]; rfl, blw⟩
    ·go_ret
     exact ⟨by rw [decide_eq_false (HN.out (by simp))]; rfl, blw⟩
    ·go_roundw
     case rel => exact ⟨k + 1, by omega, by go_num, Lib.hid (HK1.out (by first | rfl | trivial)), _, _, extW_extW _ _ _ _ _⟩
     case measure => simp [intOf]; omega
   ·have HE : Hid (b1 = b2) := Lib.hid (eq_of_getD L1.out L2.out (fun j hj => HK.out j (by omega)))
    go_wp2
    go_ret
    exact ⟨by rw [decide_eq_true HE.out]; rfl, blw⟩
 ·have hb : ((n1 : Int) != (n2 : Int)) = true := by simp; omega
  have HN : Hid (b1 ≠ b2) := Lib.hid (by intro e; subst e; exact hn (hi.1.symm.trans hj.1))
  clear hn hi hj
  go_enter Tryd.func26, Tryd.ntmps26
  go_wp2
  go_ret
  exact ⟨by rw [decide_eq_false HN.out]; rfl, blw⟩
end
section
open Go.RowKit
structure RowsAt (w : World) (a : Option Addr) (n W : Nat) (rs : List (List Bool)) : Prop where
 len : rs.length = n
 rows : 0 < n → ∃ b o, a = some ⟨b, o, none⟩ ∧ b < w.heap.size ∧ ∀ j, j < n → ∃ A c, w.cell? ⟨b, o + j, none⟩ = some (.slice A W c) ∧ IsBools w A W (rs.getD j [])
def fIdx (rs : List (List Bool)) (r : List Bool) : Nat := rs.findIdx fun l => decide (l = r)
theorem fIdx_at {rs : List (List Bool)} {r : List Bool} {k : Nat} (hk : k < rs.length) (h1 : ∀ j, j < k → rs.getD j [] ≠ r) (h2 : rs.getD k [] = r) : fIdx rs r = k := by
 unfold fIdx
 rw [List.findIdx_eq hk]
 refine ⟨?_, fun j hj => ?_⟩
 ·rw [List.getD_eq_getElem?_getD, List.getElem?_eq_getElem hk] at h2
  simpa using h2
 ·have := h1 j hj
  rw [List.getD_eq_getElem?_getD, List.getElem?_eq_getElem (by omega)] at this
  simpa using this
theorem fIdx_none {rs : List (List Bool)} {r : List Bool} (h1 : ∀ j, j < rs.length → rs.getD j [] ≠ r) : fIdx rs r = rs.length := by
 unfold fIdx
 rw [List.findIdx_eq_length]
 intro x hx
 obtain ⟨j, hj, rfl⟩ := List.getElem_of_mem hx
 have := h1 j hj
 rw [List.getD_eq_getElem?_getD, List.getElem?_eq_getElem hj] at this
 simpa using this
def idxV (n i : Nat) : Int := if i < n then i else -1
theorem fIdx_le (rs : List (List Bool)) (r : List Bool) : fIdx rs r ≤ rs.length := List.findIdx_le_length
set_option maxRecDepth 100000 in
set_option maxHeartbeats 8000000 in
theorem same1_any (A : Option Addr) (W c : Nat) (b1 : List Bool) (B : Nat) (A2 : Option Addr) (W2 c2 : Nat) (b2 : List Bool) (w : World) (hi : IsBools w A W b1) (hc : w.cell? ⟨B, 0, none⟩ = some (.slice A2 W2 c2)) (hj : IsBools w A2 W2 b2) (m1 : W ≤ 9223372036854775807) (m2 : W2 ≤ 9223372036854775807) :
  Calls Tryd.prog 93 #[.slice A W c, .pointer (some ⟨B, 0, none⟩)] w fun e w' => e = .returned (.bool (decide (b1 = b2))) ∧ Below w.heap.size w w' := by
 have HE := Lib.hid (Equal_any A W c b1 A2 W2 c2 b2 w hi hj m1 m2)
 clear hi hj
 go_enter Tryd.func93, Tryd.ntmps93
 (go_wp2_with fail; refine (HE.out).mono ?_; rintro r w1 ⟨rfl, hb⟩; obtain ⟨E, d, rfl⟩ := bExt hb; clear hb)
 go_wp2
 go_ret
 exact ⟨rfl, blw⟩
set_option maxRecDepth 100000 in
set_option maxHeartbeats 8000000 in
theorem index_any (a : Option Addr) (n c W : Nat) (rs : List (List Bool)) (B : Nat) (A2 : Option Addr) (c2 : Nat) (r : List Bool) (w : World) (hr : RowsAt w a n W rs) (hc : w.cell? ⟨B, 0, none⟩ = some (.slice A2 W c2)) (hj : IsBools w A2 W r) (m1 : W ≤ 9223372036854775807) (m2 : n ≤ 1000000) :
  Calls Tryd.prog 92 #[.slice a n c, .func (.func 93) #[] #[.pointer (some ⟨B, 0, none⟩)]] w fun e w' => e = .returned (.int .i64 (idxV n (fIdx rs r))) ∧ Below w.heap.size w w' := by
 have HR := Lib.hid hr
 have HC := Lib.hid hc
 have HJ := Lib.hid hj
 clear hr hc hj
 go_enter Tryd.func92, Tryd.ntmps92
 go_wp2_with fail
 go_loopw [8] (fun i wr => ∃ k : Nat, k ≤ n ∧ i = .int .i64 k ∧ Hid (∀ j, j < k → rs.getD j [] ≠ r) ∧ Below w.heap.size w wr) (fun i _ => n - (intOf i).toNat)
 case atStart => exact ⟨0, Nat.zero_le _, rfl, Lib.hid (by omega), Below.refl _ _⟩
 case round =>
  obtain ⟨k, hk, rfl, HK, hb⟩ := hrel
  by_cases hkn : k < n
  ·obtain ⟨b, o, rfl, hbl, hx⟩ := HR.out.rows (by omega)
   obtain ⟨A, cc, h4, h5⟩ := hx k hkn
   have k1 := bCs hb h4
   have HS := Lib.hid (same1_any A W cc _ B A2 W c2 r wr (h5.below hb) (bCs hb HC.out) (HJ.out.below hb) m1 m1)
   have HL := Lib.hid HR.out.len
   generalize hrow : rs.getD k [] = row at *
   have HROW := Lib.hid hrow
   have HB := Lib.hid hb
   clear hx h4 h5 hrow hbl hb
   by_cases he : row = r
   ·have HI : Hid (fIdx rs r = k) := Lib.hid (fIdx_at (by rw [HL.out]; exact hkn) HK.out (by rw [HROW.out]; exact he))
    have HD : Hid (decide (row = r) = true) := Lib.hid (decide_eq_true he)
    generalize decide (row = r) = D at *
    clear he
    go_wp2_with fail
    refine (HS.out).mono ?_
    rintro e w2 ⟨rfl, hb2⟩
    rw [HD.out]
    have HB2 := Lib.hid (HB.out.trans (hb2.mono HB.out.size))
    clear hb2
    go_wp2
    go_ret
    exact ⟨by rw [HI.out, show idxV n k = k from if_pos hkn]; rfl, HB2.out⟩
   ·have HK1 : Hid (∀ j, j < k + 1 → rs.getD j [] ≠ r) := Lib.hid (by
     intro j hj
     by_cases e : j = k
     ·subst e; rw [HROW.out]; exact he
     ·exact HK.out j (by omega))
    have HD : Hid (decide (row = r) = false) := Lib.hid (decide_eq_false he)
    generalize decide (row = r) = D at *
    clear he
    go_wp2_with fail
    refine (HS.out).mono ?_
    rintro e w2 ⟨rfl, hb2⟩
    rw [HD.out]
    have HB2 := Lib.hid (HB.out.trans (hb2.mono HB.out.size))
    clear hb2
    go_wp2
    go_roundw
    case rel => exact ⟨k + 1, by omega, by go_num, HK1, HB2.out⟩
    case measure => simp [intOf]; omega
  ·obtain rfl : k = n := by omega
   have HI : Hid (fIdx rs r = k) := Lib.hid (by rw [fIdx_none (by rw [HR.out.len]; exact HK.out), HR.out.len])
   go_wp2
   go_ret
   exact ⟨by rw [HI.out, show idxV k k = -1 from if_neg (by omega)]; rfl, hb⟩
end
section
open Go.RowKit
section
variable {P : Program} {n l : Nat}
theorem wpIn_of_wp {o : Oper} {a : Act} {w : World} {K : Act → World → Prop} {Q : Exit → Act → World → Prop} (hd : ∀ c, o.op ≠ .defer c) (h : o.wp P a w K Q) : o.wpIn (Fence.wide.inRound l) n P a w K Q := by
 refine ⟨fun _ _ => trivial, ?_⟩
 have e : (o.semAt (Fence.wide.inRound l).round a.eval) = execOp a.eval o := Oper.semAt_some l a.eval o hd
 rw [e]
 unfold Oper.wp at h
 generalize (execOp a.eval o).run P w = r at *
 cases r with
 | ok x w' =>
  cases x <;> simp only [Oper.upon, Oper.uponIn] at h ⊢
  all_goals first
   | exact h
   | exact h.elim
   | exact ⟨(fun hh => by cases hh), callsIn_wide.2 h⟩
   | (refine ⟨(fun hh => by cases hh), fun c cs _ => ?_⟩; obtain ⟨v, w'', hr, hs⟩ := h c cs; exact ⟨v, w'', hr, stepsIn_wide.2 hs⟩)
 | halt x w' => cases x <;> exact h
theorem wpAnyIn_of_wpAny {md : Region.Mode} {ops : Array Oper} {Q : Exit → Act → World → Prop} (hd : ∀ (i : Nat) (o : Oper), ops[i]? = some o → ∀ c, o.op ≠ .defer c) (hQ : ∀ a w, ¬ Q .outgrown a w) (f : Nat) :
  ∀ (listed : Array Bool) (a : Act) (w : World), wpAny P md ops Q f listed a w → wpAnyIn (Fence.wide.inRound l) n P md ops Q f listed a w := by
 induction f with
 | zero => intro listed a w h; exact h
 | succ f ih =>
  intro listed a w h
  refine ⟨h.1, fun i hi => ?_⟩
  have h2 := h.2 i hi
  unfold wpOp at h2
  unfold wpOpIn
  cases ho : ops[i]? with
  | none => rw [ho] at h2; exact ih _ _ _ h2
  | some o =>
   rw [ho] at h2
   simp only at h2 ⊢
   by_cases hw : Region.wanted o (yielded ops a.tmps) = true
   ·rw [if_pos hw] at h2 ⊢
    rcases h2 with h2 | ⟨_, a0, w0, hq⟩
    ·exact Oper.wpIn_mono (fun a' w' hk => ih _ _ _ hk) (wpIn_of_wp (hd i o ho) h2)
    ·exact absurd hq (hQ _ _)
   ·rw [if_neg hw] at h2 ⊢
    exact ⟨fun _ _ => trivial, ih _ _ _ h2⟩
theorem region_inRound {id : Nat} {ops : Array Oper} {Q : Exit → Act → World → Prop} {a : Act} {w : World} (hm : P.follows .mixedOrders = true) (hd : ops.all (fun o => match o.op with | .defer _ => false | _ => true) = true) (hQ : ∀ a w, ¬ Q .outgrown a w)
  (h : wpAny P .any ops Q ops.size (Array.replicate ops.size false) a { w with drawn := w.drawn + 1 }) : (Code.region id ops true).wpIn (Fence.wide.inRound l) n P Q a w := by
 refine wpIn_region_any hm (wpAnyIn_of_wpAny (fun i o ho c e => ?_) hQ _ _ _ _ h)
 rw [Array.all_eq_true'] at hd
 have := hd o (Array.mem_of_getElem? ho)
 rw [e] at this
 cases this
end
end
section
open Go.RowKit
open Go.Shelf
attribute [local go_sem] Oper.semAt_some
theorem okRows : ElemOk 186 31 1 24 (.slice none 0 0) := ⟨Tryd.underlying186, by kernel_rfl, rfl, by omega⟩
def aStep (H W : Nat) (bs : List Bool) (st : List (Fin H) × List Nat) (y : Fin H) : List (Fin H) × List Nat :=
 (if fIdx (st.1.map fun z => rowL bs W z.val) (rowL bs W y.val) < st.1.length then st.1 else st.1 ++ [y], st.2 ++ [fIdx (st.1.map fun z => rowL bs W z.val) (rowL bs W y.val)])
def aFold (H W : Nat) (bs : List Bool) (pre : List (Fin H)) : List (Fin H) × List Nat := pre.foldl (aStep H W bs) ([], [])
theorem aFold_snoc (H W : Nat) (bs : List Bool) (pre : List (Fin H)) (y : Fin H) : aFold H W bs (pre ++ [y]) = aStep H W bs (aFold H W bs pre) y := by simp [aFold]
theorem aFold_len' (H W : Nat) (bs : List Bool) (l : List (Fin H)) : ∀ st : List (Fin H) × List Nat, (l.foldl (aStep H W bs) st).2.length = st.2.length + l.length ∧ (l.foldl (aStep H W bs) st).1.length ≤ st.1.length + l.length := by
 induction l with
 | nil => intro st; simp
 | cons y l ih =>
  intro st
  have h := ih (aStep H W bs st y)
  have h1 : (aStep H W bs st y).2.length = st.2.length + 1 := by simp [aStep]
  have h2 : (aStep H W bs st y).1.length ≤ st.1.length + 1 := by unfold aStep; simp only; split <;> simp
  simp only [List.foldl_cons, List.length_cons]
  omega
theorem aFold_len (H W : Nat) (bs : List Bool) (pre : List (Fin H)) : (aFold H W bs pre).2.length = pre.length ∧ (aFold H W bs pre).1.length ≤ pre.length := by
 have := aFold_len' H W bs pre ([], [])
 simpa [aFold] using this
def alikeL (W H : Nat) (bs : List Bool) : List Nat := (aFold H W bs (List.finRange H)).2
theorem alikeL_len (W H : Nat) (bs : List Bool) : (alikeL W H bs).length = H := by unfold alikeL; rw [(aFold_len _ _ _ _).1]; simp
theorem wpAppIn {l N : Nat} {W : World} {ops : Array Oper} {rest : List Oper} {o : Oper} {a : Act} {Q : Exit → Act → World → Prop} {t e size bytes : Nat} {z : Value} (hE : ElemOk t e size bytes z)
  (hgd : o.guard = none) (s x : Operand) (ho : o.op = .call { callee := .builtin .append, args := #[s, x], argTypes := #[t, t] })
  (base : Nat) (v : Value) (n : Nat) (xs : List Value) (cs : Array Value) (hs : a.eval s = v) (hown : W.ownsRow base e size v n xs)
  (hx : a.eval x = .slice (some ⟨W.heap.size, 0, none⟩) 1 1) (hl : cs.size = size) (h1 : ∀ u ∈ cs.toList, u.oneCell' = true)
  (hb : bytes ≤ 4096) (hn : n ≤ 1000000000) (hbase : base ≤ W.heap.size)
  (h : ∀ v' w', w'.ownsRow base e size v' (n + 1) (xs ++ cs.toList) → (W.alloc (.cells cs e)).grownBy w' v.ownBlock → wpListIn (Fence.wide.inRound l) N Tryd.prog ops Q rest (a.put o.dst v') w') : wpListIn (Fence.wide.inRound l) N Tryd.prog ops Q (o :: rest) a (W.alloc (.cells cs e)) := by
 obtain ⟨h2, h3, h4, h5⟩ := hE
 obtain ⟨i0, hi, hz0, hz1, hz2⟩ := info_parts h3
 have hw : Region.wanted o (yielded ops a.tmps) = true := by simp [Region.wanted, hgd]
 simp only [wpListIn, hw, if_true]
 refine wpIn_of_wp (fun c e => by rw [ho] at e; cases e) ?_
 refine wp_append_own _ s x t ho base e i0 z size bytes h2 hi hz0 hz1 hz2 h4 h5 v n xs hs (hown.alloc _) ⟨W.heap.size, 0, none⟩ 1 1 cs.toList hx (by simpa using hl) ?_ h1 (by unfold maxLen; omega) ?_ (by simp; omega) ?_
 ·intro j u hj
  have : (⟨W.heap.size, 0, none⟩ : Addr).add j = ⟨W.heap.size, j, none⟩ := by rw [Addr.add_lit]; simp
  rw [this, World.cell?_alloc_new]
  simpa using hj
 ·calc (n + 1) * bytes ≤ 1000000001 * 4096 := Nat.mul_le_mul (by omega) hb
   _ ≤ 140737488355328 := by omega
 ·intro v' w' hown' hg _
  exact h v' w' hown' hg
theorem opApp {W : World} {o : Oper} {a : Act} {K : Act → World → Prop} {Q : Exit → Act → World → Prop} {t e size bytes : Nat} {z : Value} (hE : ElemOk t e size bytes z)
  (s x : Operand) (ho : o.op = .call { callee := .builtin .append, args := #[s, x], argTypes := #[t, t] })
  (base : Nat) (v : Value) (n : Nat) (xs : List Value) (cs : Array Value) (B : Nat) (hs : a.eval s = v) (hown : W.ownsRow base e size v n xs)
  (hx : a.eval x = .slice (some ⟨B, 0, none⟩) 1 1) (hcs : ∀ j u, cs[j]? = some u → W.cell? ⟨B, j, none⟩ = some u) (hl : cs.size = size) (h1 : ∀ u ∈ cs.toList, u.oneCell' = true)
  (hb : bytes ≤ 4096) (hn : n ≤ 1000000000) (hbase : base ≤ W.heap.size)
  (h : ∀ v' w', w'.ownsRow base e size v' (n + 1) (xs ++ cs.toList) → W.grownBy w' v.ownBlock → K (a.put o.dst v') w') : o.wp Tryd.prog a W K Q := by
 obtain ⟨h2, h3, h4, h5⟩ := hE
 obtain ⟨i0, hi, hz0, hz1, hz2⟩ := info_parts h3
 refine wp_append_own _ s x t ho base e i0 z size bytes h2 hi hz0 hz1 hz2 h4 h5 v n xs hs hown ⟨B, 0, none⟩ 1 1 cs.toList hx (by simpa using hl) ?_ h1 (by unfold maxLen; omega) ?_ hbase ?_
 ·intro j u hj
  have : (⟨B, 0, none⟩ : Addr).add j = ⟨B, j, none⟩ := by rw [Addr.add_lit]; simp
  rw [this]
  exact hcs j u (by simpa using hj)
 ·calc (n + 1) * bytes ≤ 1000000001 * 4096 := Nat.mul_le_mul (by omega) hb
   _ ≤ 140737488355328 := by omega
 ·intro v' w' hown' hg _
  exact h v' w' hown' hg
theorem own_ne {W : World} {b1 b2 e1 e2 s1 s2 n1 n2 : Nat} {v1 v2 : Value} {x1 x2 : List Value} (h1 : W.ownsRow b1 e1 s1 v1 n1 x1) (h2 : W.ownsRow b2 e2 s2 v2 n2 x2) (he : e1 ≠ e2) : v1 = .slice none 0 0 ∨ v1.ownBlock ≠ v2.ownBlock := by
 rcases h1.2 with ⟨rfl, _⟩ | ⟨g, cap, cur, rfl, _, hg, _⟩
 ·exact .inl rfl
 ·refine .inr fun e => ?_
  rcases h2.2 with ⟨rfl, _⟩ | ⟨g', cap', cur', rfl, _, hg', _⟩
  ·simp [Value.ownBlock] at e
  ·have e' : g = g' := by simpa [Value.ownBlock] using e
   subst e'
   rw [hg] at hg'
   injection hg' with hg'
   injection hg' with _ h5
   exact he h5
end
section
open Go.RowKit
section
variable {P : Program} {ops : Array Oper} {Q : Exit → Act → World → Prop} {md : Region.Mode} {S : World → Prop} {stop : Nat → Bool}
def anyT (P : Program) (md : Region.Mode) (ops : Array Oper) (Q : Exit → Act → World → Prop) (S : World → Prop) (stop : Nat → Bool) : Nat → Array Bool → Act → World → Prop
 | 0, listed, a, w => Region.ready md ops listed = [] ∧ Q .normal a w
 | f + 1, listed, a, w => (Region.ready md ops listed = [] → Q .normal a w) ∧
   ∀ i ∈ Region.ready md ops listed, wpOp P ops Q i (fun a' w' => (stop i = false → S w') ∧ anyT P md ops Q S stop f (listed.setIfInBounds i true) a' w') a w
theorem anyT_any (f : Nat) : ∀ (listed : Array Bool) (a : Act) (w : World), anyT P md ops Q S stop f listed a w → wpAny P md ops Q f listed a w := by
 induction f with
 | zero => intro listed a w h; exact h
 | succ f ih => intro listed a w h; exact ⟨h.1, fun i hi => wpOp_mono (fun a' w' h' => ih _ a' w' h'.2) (h.2 i hi)⟩
theorem anyT_first {i : Nat} {oi : Oper} {v : Value} (hi : ops[i]? = some oi) (hsel : ∀ (j : Nat) (o : Oper) cs b, ops[j]? = some o → o.op ≠ .select cs b)
  (hst : ∀ j oj, ops[j]? = some oj → stop j = true → ∃ e ∈ oj.after, Region.binds md e = true ∧ e.on = i) (hQ : ∀ c a w, ¬ Q (.panic c) a w) (f : Nat) :
  ∀ (listed : Array Bool) (a : Act) (w : World),
   (∀ j oj, ops[j]? = some oj → j ≠ i → listed.getD j true = false → (∀ e ∈ oj.after, Region.binds md e = true → e.on ≠ i) → oi.apart ops oj = true) →
   i ∈ Region.ready md ops listed → YieldsIf P ops S oi v a → S w → stop i = false →
   anyT P md ops Q S stop f (listed.setIfInBounds i true) (a.put oi.dst v) w → anyT P md ops Q S stop (f + 1) listed a w := by
 induction f with
 | zero =>
  intro listed a w _ hr hy hS hs H
  refine ⟨fun h => (by rw [h] at hr; cases hr), fun j hj => ?_⟩
  rcases Nat.decEq j i with hji | hji
  ·exact absurd (ready_mono hj hji) (by rw [H.1]; simp)
  ·subst hji; exact hy.wpOp hi hS ⟨fun _ => hS, H⟩
 | succ f ih =>
  intro listed a w hfree hr hy hS hs H
  refine ⟨fun h => (by rw [h] at hr; cases hr), fun j hj => ?_⟩
  rcases Nat.decEq j i with hji | hji
  ·obtain ⟨hjun, oj, hoj, hall⟩ := mem_ready.1 hj
   have hnot : ∀ e ∈ oj.after, Region.binds md e = true → e.on ≠ i := by
    intro e he hb heq
    have h1 := hall e he hb
    rw [heq, getD_both (mem_ready.1 hr).1] at h1
    cases h1
   have hsj : stop j = false := by
    cases h : stop j with
    | false => rfl
    | true =>
     obtain ⟨e, he, hb, heq⟩ := hst j oj hoj h
     exact absurd heq (hnot e he hb)
   have hap := hfree j oj hoj hji hjun hnot
   have h2 := wpOp_putIf (S := S) hoj hap (fun cs b => hsel i oi cs b hi) (fun cs b => hsel j oj cs b hoj) (fun c a w h => absurd h (hQ c _ _)) hy (H.2 j (ready_mono hj hji))
   refine wpOp_mono (fun a' w' h3 => ?_) h2
   have hSw := h3.2.1 hsj
   refine ⟨fun _ => hSw, ih _ a' w' (fun k ok hk hki hun hno => ?_) (ready_mono hr (Ne.symm hji)) h3.1 hSw hs ?_⟩
   ·refine hfree k ok hk hki ?_ hno
    by_cases hjk : j = k
    ·subst hjk; exact hjun
    ·rwa [getD_set_ne true hjk] at hun
   ·rw [Array.setIfInBounds_comm _ _ hji]; exact h3.2.2
  ·subst hji; exact hy.wpOp hi hS ⟨fun _ => hS, H⟩
def stopB (md : Region.Mode) (ops : Array Oper) (stop : Nat → Bool) (i : Nat) : Bool :=
 !stop i && (List.range ops.size).all fun j => !stop j || (match ops[j]? with | some o => o.after.any (fun e => Region.binds md e && e.on == i) | none => true)
theorem anyT_take {i : Nat} {oi : Oper} (v : Value) {f : Nat} {listed : Array Bool} {a : Act} {w : World} (hi : ops[i]? = some oi)
  (hb : (Region.noSelect ops && Region.free md ops listed i && (Region.ready md ops listed).contains i && stopB md ops stop i) = true)
  (hQ : ∀ c a w, ¬ Q (.panic c) a w) (hy : YieldsIf P ops S oi v a) (hS : S w)
  (h : anyT P md ops Q S stop f (listed.setIfInBounds i true) (a.put oi.dst v) w) : anyT P md ops Q S stop (f + 1) listed a w := by
 simp only [Bool.and_eq_true] at hb
 obtain ⟨⟨⟨h1, h2⟩, h3⟩, h4⟩ := hb
 unfold stopB at h4
 simp only [Bool.and_eq_true, Bool.not_eq_true'] at h4
 refine anyT_first hi (Region.noSelect_spec h1) (fun j oj hoj hs => ?_) hQ f listed a w (Region.free_spec hi h2) (by simpa using h3) hy hS h4.1 h
 have hlt : j < ops.size := (Array.getElem?_eq_some_iff.1 hoj).1
 have h5 := List.all_eq_true.1 h4.2 j (List.mem_range.2 hlt)
 rw [hoj, hs] at h5
 simp only [Bool.not_true, Bool.false_or] at h5
 rw [Array.any_eq_true'] at h5
 obtain ⟨e, he, h6⟩ := h5
 simp only [Bool.and_eq_true, beq_iff_eq] at h6
 exact ⟨e, he, h6.1, h6.2⟩
theorem anyT_one {i : Nat} {oi : Oper} {f : Nat} {listed : Array Bool} {a : Act} {w : World} (hr : Region.ready md ops listed = [i]) (hi : ops[i]? = some oi) (hg : oi.guard = none)
  (h : oi.wp P a w (fun a' w' => (stop i = false → S w') ∧ anyT P md ops Q S stop f (listed.setIfInBounds i true) a' w') Q) : anyT P md ops Q S stop (f + 1) listed a w := by
 refine ⟨fun h0 => absurd (hr.symm.trans h0) (by simp), fun j hj => ?_⟩
 rw [hr] at hj
 have : j = i := by simpa using hj
 subst this
 unfold wpOp
 simp only [hi, Region.wanted, hg, if_true]
 exact .inl h
theorem anyT_done {f : Nat} {listed : Array Bool} {a : Act} {w : World} (hr : Region.ready md ops listed = []) (h : Q .normal a w) : anyT P md ops Q S stop f listed a w := by
 cases f with
 | zero => exact ⟨hr, h⟩
 | succ f => exact ⟨fun _ => h, by rw [hr]; simp⟩
end
end
end Go.Proofs.YtajdoobkfbdgoaaDoor
