/- Lemmas and contracts of functions (what each call returns, and that it changes nothing that was there) that the proof of a law of this seat uses; each lemma states its own conditions. -/
import Derived.Test.YtkffljkgblcgdaaRf2
namespace Go.Proofs.Ytkffljkgblcgdaa
open Go.RowKit
set_option linter.unusedVariables false
set_option linter.unusedSimpArgs false
open Go.Shelf
attribute [local go_sem] Oper.semAt_some
/-- What has been turned when these rows, and of row y the first x, are done. -/
def tC (W H : Nat) (bs : List Bool) (pre : List (Fin H)) (y x : Nat) (p : Nat) : Bool :=
  (decide (p % H ∈ pre.map Fin.val) || (decide (p % H = y) && decide (p / H < x))) && bs.getD ((p % H) * W + p / H) false
theorem tC_step {W H : Nat} {bs : List Bool} {pre : List (Fin H)} {y x p : Nat} (hy : y < H) (hp : p ≠ x * H + y) : tC W H bs pre y (x+1) p = tC W H bs pre y x p := by
  unfold tC
  by_cases e : p % H = y
  · have hx : p / H ≠ x := by
      intro hx
      apply hp
      have := Nat.div_add_mod p H
      rw [e, hx, Nat.mul_comm] at this
      omega
    have : (p / H < x + 1) ↔ (p / H < x) := by omega
    simp [this]
  · simp [e]
theorem tC_new {W H : Nat} {bs : List Bool} {pre : List (Fin H)} {y x : Nat} (hy : y < H) : tC W H bs pre y (x+1) (x * H + y) = bs.getD (y * W + x) false := by
  unfold tC
  have h1 : (x * H + y) % H = y := by rw [Nat.mul_comm, Nat.mul_add_mod, Nat.mod_eq_of_lt hy]
  have h2 : (x * H + y) / H = x := by rw [Nat.mul_comm, Nat.mul_add_div (by omega), Nat.div_eq_of_lt hy]; omega
  rw [h1, h2]; simp
theorem tC_row {W H : Nat} {bs : List Bool} {pre : List (Fin H)} {y : Fin H} {p : Nat} (hp : p < W * H) : tC W H bs pre y W p = tC W H bs (pre ++ [y]) 0 0 p := by
  unfold tC
  have h : p / H < W := Nat.div_lt_of_lt_mul (by rw [Nat.mul_comm]; exact hp)
  simp [h, List.mem_append]
theorem tC_zero {W H : Nat} {bs : List Bool} {pre : List (Fin H)} {y p : Nat} : tC W H bs pre y 0 p = tC W H bs pre 0 0 p := by
  unfold tC; simp
theorem tC_all {W H : Nat} {bs : List Bool} {p : Nat} (hp : p < W * H) : tC W H bs (List.finRange H) 0 0 p = (turnL W H bs).getD p false := by
  have hH : 0 < H := by rcases Nat.eq_zero_or_pos H with h | h; · subst h; simp at hp
                        · exact h
  unfold tC turnL
  have h1 : p % H ∈ (List.finRange H).map Fin.val := by
    rw [List.mem_map]; exact ⟨⟨p % H, Nat.mod_lt _ hH⟩, List.mem_finRange _, rfl⟩
  have e : ((List.range (W * H)).map fun p => bs.getD ((p % H) * W + p / H) false).getD p false = bs.getD ((p % H) * W + p / H) false := by
    rw [List.getD_eq_getElem?_getD, List.getElem?_map, List.getElem?_range hp]; rfl
  rw [e, decide_eq_true h1]; simp
/-- What lies where while the rows are gone through. -/
structure TI (w : World) (q ob g tb rb W H n : Nat) (a : Option Addr) (c : Nat) (f : Nat → Bool) (W' : World) : Prop where
  rq : W'.rowIs q 25 3 (tF W H (.slice a n c))
  rt : W'.rowIs tb 25 3 (tF W H (.slice a n c))
  ro : W'.rowIs ob 25 3 (tF H W (.slice (some ⟨g, 0, none⟩) n n))
  rr : W'.rowIs rb 25 3 (tF 0 0 (.slice none 0 0))
  rg : W'.rowIs g 4 n (fun p => .bool (f p))
  bel : Below w.heap.size w W'
theorem TI.kept {w : World} {q ob g tb rb W H n : Nat} {a : Option Addr} {c : Nat} {f : Nat → Bool} {A B : World} {row : Option Nat} (h : TI w q ob g tb rb W H n a c f A) (hg : A.grownBy B row) (hr : ∀ r, row = some r → w.heap.size ≤ r ∧ ∃ o : Obj, A.heap[r]? = some o ∧ o.isCells = false) : TI w q ob g tb rb W H n a c f B :=
  have hr' : ∀ r, row = some r → ∃ o : Obj, A.heap[r]? = some o ∧ o.isCells = false := fun r e => (hr r e).2
  ⟨rowIs_kept h.rq hg hr', rowIs_kept h.rt hg hr', rowIs_kept h.ro hg hr', rowIs_kept h.rr hg hr', rowIs_kept h.rg hg hr', h.bel.grown hg h.bel.size (fun k e => (hr k e).1)⟩
theorem TI.set {w : World} {q ob g tb rb W H n : Nat} {a : Option Addr} {c : Nat} {f f' : Nat → Bool} {A : World} (h : TI w q ob g tb rb W H n a c f A) (i : Nat) (v : Bool) (hq : q ≠ g) (ho : ob ≠ g) (ht : tb ≠ g) (hr : rb ≠ g) (hg : w.heap.size ≤ g) (hf : ∀ p, p < n → f' p = if p = i then v else f p) : TI w q ob g tb rb W H n a c f' (A.setCell ⟨g, i, none⟩ (.bool v)) :=
  ⟨h.rq.setOther hq _, h.rt.setOther ht _, h.ro.setOther ho _, h.rr.setOther hr _, (h.rg.set i (.bool v)).congr fun p hp => by rw [hf p hp]; by_cases e : p = i <;> simp [e], h.bel.setCell (p := ⟨g, i, none⟩) hg _⟩
def TurnedPost (W H : Nat) (bs : List Bool) (w : World) (r : Ending) (w' : World) : Prop :=
  ∃ g, r = .returned (.tuple #[.agg #[.int .i64 (H), .int .i64 (W), .slice (some ⟨g, 0, none⟩) (W*H) (W*H)], .int .i64 (0)]) ∧ OkT w' (some ⟨g, 0, none⟩) (W*H) (W*H) (turnL W H bs) ∧ Below w.heap.size w w'
set_option maxRecDepth 100000 in
set_option maxHeartbeats 4000000 in
theorem Turned_ok (W H : Nat) (a : Option Addr) (c : Nat) (bs : List Bool) (w : World) (hT : OkT w a (W * H) c bs) (hW : W ≤ 64) (hH : H ≤ 64) :
    Calls Try.prog 50 #[.agg #[.int .i64 (W), .int .i64 (H), .slice a (W*H) c]] w (TurnedPost W H bs w) := by
  have HT := Lib.hid hT
  have h4 : W * H ≤ 4096 := Nat.le_trans (Nat.mul_le_mul hW hH) (by omega)
  have HWr := Lib.hid (fun w => tWrong_any W H a (W * H) c w (by omega) (by omega) (by omega))
  have HW0 := Lib.hid (wrT_ok hW hH)
  have HBk : Hid (∀ w, Calls Try.prog 62 #[.int .i64 (H), .int .i64 (W)] w fun e w' => e = .returned (.agg #[.int .i64 (H), .int .i64 (W), .slice (some ⟨w.heap.size+1, 0, none⟩) (W*H) (W*H)]) ∧ w'.rowIs (w.heap.size+1) 4 (W*H) (fun _ => .bool false) ∧ Below w.heap.size w w') := Lib.hid (fun w => by rw [Nat.mul_comm W H]; exact blank_ok H W w hH hW)
  have hcap := hT.cap
  have hlim := hT.lim
  clear hT
  refine (callsIn_wide (n := 9)).1 ?_
  refine callsIn_of_wp_marks Try.func50 rfl trivial ?_ rfl
  simp only [Try.ntmps50, List.size_toArray, List.length_cons, List.length_nil, Nat.reduceAdd, Nat.reduceSub, Array.replicate_succ, Array.replicate_zero, List.push_toArray, List.append_toArray, List.nil_append, List.cons_append]
  refine wpIn_wide.2 ?_
  generalize hn : W * H = n at *
  have HN := Lib.hid hn
  clear hn
  go_wp2_with fail
  have hrq := tF_alloc w W H (.slice a n c) rfl
  have hrr := tF_alloc (w.alloc (.cells #[.int .i64 (W), .int .i64 (H), .slice a n c] 25)) 0 0 (.slice none 0 0) rfl
  rw [World.size_alloc] at hrr
  replace hrq := hrq.alloc (.cells #[.int .i64 0, .int .i64 0, .slice none 0 0] 25)
  have hB0 : Below w.heap.size w ((w.alloc (.cells #[.int .i64 (W), .int .i64 (H), .slice a n c] 25)).alloc (.cells #[.int .i64 0, .int .i64 0, .slice none 0 0] 25)) := (by repeat (first | exact Below.refl _ _ | refine Below.drew ?_ | refine below_drewN ?_ _ | refine Below.alloc ?_ (by first | exact Nat.le_refl _ | (simp; done) | (simp; omega) | omega) _ | refine Below.setCell ?_ (by first | exact Nat.le_refl _ | (simp; done) | (simp; omega) | omega) _ | refine bExtW ?_ (by first | exact Nat.le_refl _ | (simp; done) | (simp; omega) | omega) | refine Below.trans ?_ (Below.mono (by assumption) (by first | exact Nat.le_refl _ | (simp; done) | (simp; omega) | omega))))
  have hsz : ((w.alloc (.cells #[.int .i64 (W), .int .i64 (H), .slice a n c] 25)).alloc (.cells #[.int .i64 0, .int .i64 0, .slice none 0 0] 25)).heap.size = w.heap.size + 2 := by simp
  generalize (w.alloc (.cells #[.int .i64 (W), .int .i64 (H), .slice a n c] 25)).alloc (.cells #[.int .i64 0, .int .i64 0, .slice none 0 0] 25) = W0 at *
  refine (HWr.out _).mono ?_
  rintro r w1 ⟨rfl, hb⟩
  rw [HW0.out]
  replace hrq := rowBelow hrq hb (by omega)
  have d0 : w1.cell? ⟨w.heap.size, 0, none⟩ = some (.int .i64 (W)) := hrq.cell (i := 0) (by omega)
  have d1 : w1.cell? ⟨w.heap.size, 1, none⟩ = some (.int .i64 (H)) := hrq.cell (i := 1) (by omega)
  have HRQ := Lib.hid hrq
  have HRR := Lib.hid (rowBelow hrr hb (by omega))
  have HB1 := Lib.hid (hB0.trans (hb.mono hB0.size))
  have hsz1 : w.heap.size + 2 ≤ w1.heap.size := by have := hb.size; omega
  clear hrq hrr hB0 hb hsz
  go_wp2_with fail
  refine (HBk.out _).mono ?_
  rintro r w2 ⟨rfl, hrow, hb2⟩
  have hrq := rowBelow HRQ.out hb2 (by omega)
  have hsz2 : w1.heap.size + 2 ≤ w2.heap.size := by have := hrow.lt; omega
  have d0 : w2.cell? ⟨w.heap.size, 0, none⟩ = some (.int .i64 (W)) := hrq.cell (i := 0) (by omega)
  have d1 : w2.cell? ⟨w.heap.size, 1, none⟩ = some (.int .i64 (H)) := hrq.cell (i := 1) (by omega)
  have d2 : w2.cell? ⟨w.heap.size, 2, none⟩ = some (.slice a n c) := hrq.cell (i := 2) (by omega)
  have HRQ := Lib.hid hrq
  have HRR := Lib.hid (rowBelow HRR.out hb2 (by omega))
  have HB2 := Lib.hid (HB1.out.trans (hb2.mono HB1.out.size))
  have HRG := Lib.hid hrow
  have lq : LtW w.heap.size w2 := by unfold LtW; omega
  clear hrq hb2 hrow
  go_wp2_with fail
  refine (callsIn_wide.1 (rows_in W H a n c 9 _)).mono ?_
  rintro r w3 ⟨rfl, rfl⟩
  go_wp2_with fail
  have hW3q := HRQ.out.alloc (.cells #[.int .i64 (H), .int .i64 (W), .slice (some ⟨w1.heap.size+1, 0, none⟩) n n] 25) |>.alloc (.cells #[.int .i64 (W), .int .i64 (H), .slice a n c] 25)
  have hW3r := HRR.out.alloc (.cells #[.int .i64 (H), .int .i64 (W), .slice (some ⟨w1.heap.size+1, 0, none⟩) n n] 25) |>.alloc (.cells #[.int .i64 (W), .int .i64 (H), .slice a n c] 25)
  have hW3g := HRG.out.alloc (.cells #[.int .i64 (H), .int .i64 (W), .slice (some ⟨w1.heap.size+1, 0, none⟩) n n] 25) |>.alloc (.cells #[.int .i64 (W), .int .i64 (H), .slice a n c] 25)
  have hW3o := (tF_alloc w2 H W (.slice (some ⟨w1.heap.size+1, 0, none⟩) n n) rfl).alloc (.cells #[.int .i64 (W), .int .i64 (H), .slice a n c] 25)
  have hW3t := tF_alloc (w2.alloc (.cells #[.int .i64 (H), .int .i64 (W), .slice (some ⟨w1.heap.size+1, 0, none⟩) n n] 25)) W H (.slice a n c) rfl
  rw [World.size_alloc] at hW3t
  have hW3b : Below w.heap.size w ((w2.alloc (.cells #[.int .i64 (H), .int .i64 (W), .slice (some ⟨w1.heap.size+1, 0, none⟩) n n] 25)).alloc (.cells #[.int .i64 (W), .int .i64 (H), .slice a n c] 25)) := (HB2.out.alloc HB2.out.size _).alloc (by simp; have := HB2.out.size; omega) _
  have hsz3 : ((w2.alloc (.cells #[.int .i64 (H), .int .i64 (W), .slice (some ⟨w1.heap.size+1, 0, none⟩) n n] 25)).alloc (.cells #[.int .i64 (W), .int .i64 (H), .slice a n c] 25)).heap.size = w2.heap.size + 2 := by simp
  generalize (w2.alloc (.cells #[.int .i64 (H), .int .i64 (W), .slice (some ⟨w1.heap.size+1, 0, none⟩) n n] 25)).alloc (.cells #[.int .i64 (W), .int .i64 (H), .slice a n c] 25) = W3 at *
  obtain ⟨g, hg⟩ : ∃ g, w1.heap.size + 1 = g := ⟨_, rfl⟩
  obtain ⟨ob, ho⟩ : ∃ ob, w2.heap.size = ob := ⟨_, rfl⟩
  obtain ⟨q, hq⟩ : ∃ q, q = w.heap.size := ⟨_, rfl⟩
  rw [hg] at hW3g hW3o ⊢
  rw [ho] at hW3o hW3t ⊢
  have hord : q + 1 < g ∧ g < ob := by omega
  have hwq : w.heap.size ≤ q := by omega
  have HQ := Lib.hid hq
  have hTI : TI w q ob g (ob+1) (q+1) W H n a c (tC W H bs [] 0 0) W3 := ⟨by rw [hq]; exact hW3q, hW3t, hW3o, by rw [hq]; exact hW3r, hW3g.congr fun p hp => by simp [tC], hW3b⟩
  rw [← hq]
  have hTB : TB (ob+1) W H a n c bs W3 := TB.of_row hW3t (HT.out.bits.below hW3b)
  clear hW3q hW3r hW3g hW3o hW3t hW3b HRQ HRR HRG lq d0 d1 d2 hq hg ho
  refine (wpIn_wide (n := 9)).1 ?_
  refine wpIn_rangeFunc_ownG rfl (by omega) (gf := 95) (lb := #[.pointer (some ⟨ob+1, 0, none⟩)]) rfl trivial (enters_of Try.func95 (by kernel_rfl) rfl)
    (rows_stops 8 (by omega) (ob+1) W H a n c bs hW hH HN.out.symm hcap hlim W3 hTB) (fun h k x => k (h x))
    (fun A l o o' _ ho hc _ x => x.kept (grownBy_putObj' A l o') (fun r e => by cases e; exact ⟨o, ho, hc⟩)) (Below.refl _ _) (fun _ => rfl)
    (fun pre W' => TI w q ob g (ob+1) (q+1) W H n a c (tC W H bs pre 0 0) W') (fun _ _ _ => False)
    (fun s A B row hs hg hr => hs.kept hg (fun r e => ⟨by have := (hr r e).1; omega, (hr r e).2⟩)) (fun _ _ _ _ _ hs _ _ => hs) hTI
    (fun x => { tmps := #[.agg #[.int .i64 (W), .int .i64 (H), .slice a n c], .pointer (some ⟨q, 0, none⟩), .pointer (some ⟨q+1, 0, none⟩), .int .i64 (0), .int .i64 (0), .pointer (some ⟨ob, 0, none⟩), .int .i64 ((x.val : Nat)), rowV a c W x.val, undef, undef, .agg #[.int .i64 (W), .int .i64 (H), .slice a n c], .int .i64 (0), .int .i64 (0), .bool false, undef, undef, .pointer (some ⟨q, 1, none⟩), .int .i64 (H), .pointer (some ⟨q, 0, none⟩), .int .i64 (W), .agg #[.int .i64 (H), .int .i64 (W), .slice (some ⟨g, 0, none⟩) n n], .agg #[.int .i64 (W), .int .i64 (H), .slice a n c], .func (.func 95) #[] #[.pointer (some ⟨ob+1, 0, none⟩)], .int .i64 ((x.val : Nat)), rowV a c W x.val, undef, undef, undef, undef, undef, undef, undef, undef, undef, undef, undef, undef, undef, undef, undef, undef, undef, undef, undef], defers := [] }) ?assign ?body ?done ?stop
  case assign =>
    intro l x W' K hK
    gi_wp2
    exact hK
  case body =>
    rintro l pre x W' hTI' _
    obtain ⟨A, cc, hrv, hrow⟩ := rowV_bools (a := a) (bs := bs) hcap HN.out.symm x.isLt
    obtain ⟨y, hy⟩ := x
    have HR := Lib.hid hrow
    simp only at hrv
    simp only [hrv]
    have HTI := Lib.hid hTI'
    clear hTI' hrv hrow
    gi_wp2
    gi_loopw [27] (fun i wr => ∃ k : Nat, k ≤ W ∧ i = .int .i64 k ∧ TI w q ob g (ob+1) (q+1) W H n a c (tC W H bs pre y k) wr ∧ KeepsFrom W3.heap.size W' wr) (fun i _ => W - (intOf i).toNat)
    case atStart => exact ⟨0, Nat.zero_le _, rfl, by rw [show tC W H bs pre y 0 = tC W H bs pre 0 0 from funext fun p => tC_zero]; exact HTI.out, KeepsFrom.refl _ _⟩
    case round =>
      obtain ⟨k, hk, rfl, hT2, hKF⟩ := hrel
      have HT2 := Lib.hid hT2
      have HKF := Lib.hid hKF
      clear hT2 hKF
      by_cases hkW : k < W
      · obtain ⟨b, o, rfl, hb, hc⟩ := (HR.out _ (HT.out.below HT2.out.bel)).bits.2 (by omega)
        have cb := hc k hkW
        rw [rowL_get bs hkW] at cb
        have co : wr.cell? ⟨ob, 2, none⟩ = some (.slice (some ⟨g, 0, none⟩) n n) := HT2.out.ro.cell (i := 2) (by omega)
        have cq : wr.cell? ⟨q, 1, none⟩ = some (.int .i64 (H)) := HT2.out.rq.cell (i := 1) (by omega)
        obtain ⟨M, hM⟩ : ∃ M, k * H = M := ⟨_, rfl⟩
        have hmul : (k : Int) * (H : Int) = (M : Int) := by rw [← Int.natCast_mul, hM]
        have hlt : M + y < n := by
          rw [← HN.out, ← hM]
          have : (k + 1) * H ≤ W * H := Nat.mul_le_mul_right H hkW
          rw [Nat.add_mul, Nat.one_mul] at this; omega
        have cg := HT2.out.rg.cell (i := M + y) hlt
        have fg := HT2.out.rg.frozen (M + y)
        have HTN : Hid (TI w q ob g (ob+1) (q+1) W H n a c (tC W H bs pre y (k+1)) (wr.setCell ⟨g, M + y, none⟩ (.bool (bs.getD (y * W + k) false)))) := Lib.hid (HT2.out.set (M + y) _ (by omega) (by omega) (by omega) (by omega) (by omega) (fun p hp => by
          by_cases e : p = M + y
          · subst e; rw [if_pos rfl, ← hM, tC_new hy]
          · rw [if_neg e, tC_step hy (by rw [hM]; exact e)]))
        have HKN : Hid (KeepsFrom W3.heap.size W' (wr.setCell ⟨g, M + y, none⟩ (.bool (bs.getD (y * W + k) false)))) := Lib.hid (HKF.out.trans ((KeepsOthers.setCell _ _ _).from _))
        generalize bs.getD (y * W + k) false = bit at *
        generalize tC W H bs pre y k (M + y) = old at *
        clear hc hb hM
        gi_wp2
        go_roundw
        case rel => exact ⟨k + 1, by omega, by go_num, HTN.out, HKN.out⟩
        case measure => simp [intOf]; omega
      · obtain rfl : k = W := by omega
        gi_wp2
        refine ⟨HKF.out, fun _ => TB.of_row HT2.out.rt (HT.out.below HT2.out.bel).bits, ?_⟩
        have := HT2.out
        exact ⟨this.rq, this.rt, this.ro, this.rr, this.rg.congr fun p hp => by rw [tC_row (y := ⟨y, hy⟩) (by rw [HN.out]; exact hp)], this.bel⟩
  case done =>
    rintro D ys W' hD rfl hTI' hK
    have q0 : W'.cell? ⟨ob, 0, none⟩ = some (.int .i64 (H)) := hTI'.ro.cell (i := 0) (by omega)
    have q1 : W'.cell? ⟨ob, 1, none⟩ = some (.int .i64 (W)) := hTI'.ro.cell (i := 1) (by omega)
    have q2 : W'.cell? ⟨ob, 2, none⟩ = some (.slice (some ⟨g, 0, none⟩) n n) := hTI'.ro.cell (i := 2) (by omega)
    have f0 := hTI'.rr.frozen 0; have f1 := hTI'.rr.frozen 1; have f2 := hTI'.rr.frozen 2
    have r0 : W'.cell? ⟨q+1, 0, none⟩ = some (.int .i64 0) := hTI'.rr.cell (i := 0) (by omega)
    have r1 : W'.cell? ⟨q+1, 1, none⟩ = some (.int .i64 0) := hTI'.rr.cell (i := 1) (by omega)
    have r2 : W'.cell? ⟨q+1, 2, none⟩ = some (.slice none 0 0) := hTI'.rr.cell (i := 2) (by omega)
    have HTI := Lib.hid hTI'
    have HKD := Lib.hid hK
    clear hTI' hK
    go_wp2
    have hK1 := (((KeepsOthers.setCell W' ⟨q+1, 0, none⟩ (.int .i64 (H))).trans (KeepsOthers.setCell _ ⟨q+1, 1, none⟩ (.int .i64 (W)))).trans (KeepsOthers.setCell _ ⟨q+1, 2, none⟩ (.slice (some ⟨g, 0, none⟩) n n))).same D _ HKD.out rfl
    have hr4 : (((W'.setCell ⟨q+1, 0, none⟩ (.int .i64 (H))).setCell ⟨q+1, 1, none⟩ (.int .i64 (W))).setCell ⟨q+1, 2, none⟩ (.slice (some ⟨g, 0, none⟩) n n)).rowIs (q+1) 25 3 (tF H W (.slice (some ⟨g, 0, none⟩) n n)) := (((HTI.out.rr.set 0 _).set 1 _).set 2 _).congr fun i hi => by
      have hi3 : i = 0 ∨ i = 1 ∨ i = 2 := by omega
      rcases hi3 with rfl | rfl | rfl <;> rfl
    have hg4 := ((HTI.out.rg.setOther (a := ⟨q+1, 0, none⟩) (by simp; omega) (.int .i64 (H))).setOther (a := ⟨q+1, 1, none⟩) (by simp; omega) (.int .i64 (W))).setOther (a := ⟨q+1, 2, none⟩) (by simp; omega) (.slice (some ⟨g, 0, none⟩) n n)
    have hb4 := ((HTI.out.bel.setCell (p := ⟨q+1, 0, none⟩) (by simp; omega) (.int .i64 (H))).setCell (p := ⟨q+1, 1, none⟩) (by simp; omega) (.int .i64 (W))).setCell (p := ⟨q+1, 2, none⟩) (by simp; omega) (.slice (some ⟨g, 0, none⟩) n n)
    generalize ((W'.setCell ⟨q+1, 0, none⟩ (.int .i64 (H))).setCell ⟨q+1, 1, none⟩ (.int .i64 (W))).setCell ⟨q+1, 2, none⟩ (.slice (some ⟨g, 0, none⟩) n n) = W4 at *
    have hkk : ∀ r, some D = some r → ∃ o : Obj, W4.heap[r]? = some o ∧ o.isCells = false := fun r e => by cases e; exact ⟨_, hK1, rfl⟩
    refine ⟨by simp, .inl ⟨_, _, rfl, run_takeDeferred hK1, ?_⟩⟩
    have hr5 := rowIs_kept hr4 (grownBy_putObj' _ D (.deferred none)) hkk
    have hg5 := rowIs_kept hg4 (grownBy_putObj' _ D (.deferred none)) hkk
    have k0 : (W4.putObj D (.deferred none)).cell? ⟨q+1, 0, none⟩ = some (.int .i64 (H)) := hr5.cell (i := 0) (by omega)
    have k1 : (W4.putObj D (.deferred none)).cell? ⟨q+1, 1, none⟩ = some (.int .i64 (W)) := hr5.cell (i := 1) (by omega)
    have k2 : (W4.putObj D (.deferred none)).cell? ⟨q+1, 2, none⟩ = some (.slice (some ⟨g, 0, none⟩) n n) := hr5.cell (i := 2) (by omega)
    refine ⟨.tuple #[.agg #[.int .i64 (H), .int .i64 (W), .slice (some ⟨g, 0, none⟩) n n], .int .i64 (0)], by simp [results, Try.f50, go_sem, k0, k1, k2], ?_⟩
    refine ⟨g, by rw [HN.out], ⟨⟨by rw [turnL_len], fun hn => ⟨g, 0, rfl, hg5.lt, fun p hp => ?_⟩⟩, Nat.le_refl _, by rw [HN.out]; omega⟩, ?_⟩
    · rw [Nat.zero_add, hg5.cell (by rw [← HN.out]; exact hp), tC_all hp]
    · exact hb4.trans (belowK_b (w := w) (Nat.le_refl _) W4 D _ _ (by omega) hK1 rfl rfl)
  case stop =>
    rintro D c pre W' _ _ h _
    exact h.elim
end Go.Proofs.Ytkffljkgblcgdaa
