/- Lemmas and contracts of functions (what each call returns, and that it changes nothing that was there) that the proof of a law of this seat uses; each lemma states its own conditions. -/
import Derived.Test.YtkffljkgblcgdaaTfM
import Derived.Test.YtkffljkgblcgdaaFB
import Derived.Test.YtkffljkgblcgdaaBit
import Derived.Test.YtkffljkgblcgdaaTr
import Derived.Test.YtkffljkgblcgdaaTpZ
namespace Go.Proofs.Ytkffljkgblcgdaa
open Go.RowKit
set_option linter.unusedVariables false
set_option linter.unusedSimpArgs false
open Lo
theorem BelowX.set {base mb : Nat} {W w : World} (h : BelowX base mb W w) (i : Nat) (v : Value) : BelowX base mb W (w.setCell ⟨mb, i, none⟩ v) :=
  ⟨h.os, h.tape, h.output, by rw [World.size_setCell]; exact h.size, fun k hk hm => by rw [Below.heap_setCell _ _ _ k (fun e => hm (by rw [e]))]; exact h.block k hk hm⟩
theorem BelowX.okT {base mb : Nat} {W w : World} {a : Option Addr} {n c : Nat} {bs : List Bool} (h : BelowX base mb W w) (hT : OkT W a n c bs) (hbs : base = W.heap.size) (hm : ∀ b o, a = some ⟨b, o, none⟩ → b ≠ mb) : OkT w a n c bs := by
  refine ⟨⟨hT.bits.1, fun hn => ?_⟩, hT.cap, hT.lim⟩
  obtain ⟨b, o, h1, h2, h3⟩ := hT.bits.2 hn
  exact ⟨b, o, h1, Nat.lt_of_lt_of_le h2 (hbs ▸ h.size), fun j hj => (World.cell?_of_block (h.block b (by omega) (hm b o h1))).trans (h3 j hj)⟩
theorem FB.start {base mb : Nat} {W H : Int} {w : World} (hr : w.rowIs mb 25 3 (tF W H (.slice none 0 0))) (hb : base = w.heap.size) : FB base mb W H [] w (.slice none 0 0) w :=
  ⟨hr, World.ownsRow_nil _ _ _ _, BelowX.refl (by omega)⟩
theorem wfN (W : Nat) (h : W ≤ 64) : (-9223372036854775808 ≤ (W : Int) ∧ (W : Int) ≤ 9223372036854775807) := by omega
def trF (W H : Nat) (bs : List Bool) (p : Nat) : Bool := bs.getD ((p % H) * W + p / H) false
theorem trF_at {W H x y : Nat} {bs : List Bool} (hy : y < H) : trF W H bs (x * H + y) = bs.getD (y * W + x) false := by unfold trF; rw [dm1 hy, dm2 hy]
set_option maxRecDepth 100000 in
set_option maxHeartbeats 8000000 in
theorem rTurned_bad (W H : Int) (a : Option Addr) (n c : Nat) (w : World) (h1 : (-9223372036854775808 ≤ W ∧ W ≤ 9223372036854775807)) (h2 : (-9223372036854775808 ≤ H ∧ H ≤ 9223372036854775807)) (h3 : n ≤ 9223372036854775807) (he : wrT W H n ≠ 0) :
    Calls Try.prog 56 #[.agg #[.int .i64 (W), .int .i64 (H), .slice a n c]] w fun e w' => e = .returned (.tuple #[.agg #[.int .i64 0, .int .i64 0, .slice none 0 0], .int .i64 (wrT W H n)]) ∧ Below w.heap.size w w' := by
  have hb : (wrT W H n != 0) = true := by simpa using he
  have HWR := Lib.hid (fun w => r5Wrong_any W H a n c w h1 h2 h3)
  clear he
  generalize wrT W H n = we at *
  go_enter Try.func56, Try.ntmps56
  (go_wp2_with fail; refine (HWR.out _).mono ?_; rintro r w1 ⟨rfl, hb⟩; obtain ⟨E, d, rfl⟩ := bExt hb; clear hb)
  go_wp2
  refine bodyPost_ret (v := .tuple #[.agg #[.int .i64 0, .int .i64 0, .slice none 0 0], .int .i64 (we)]) (by simp [results, Try.results56, go_sem]) rfl ⟨rfl, (by repeat (first | exact Below.refl _ _ | refine Below.drew ?_ | refine below_drewN ?_ _ | refine Below.alloc ?_ (by first | exact Nat.le_refl _ | (simp; done) | (simp; omega) | omega) _ | refine Below.setCell ?_ (by first | exact Nat.le_refl _ | (simp; done) | (simp; omega) | omega) _ | refine bExtW ?_ (by first | exact Nat.le_refl _ | (simp; done) | (simp; omega) | omega) | refine Below.trans ?_ (Below.mono (by assumption) (by first | exact Nat.le_refl _ | (simp; done) | (simp; omega) | omega))))⟩
set_option maxRecDepth 100000 in
set_option maxHeartbeats 8000000 in
theorem rTurned_ok (W H n : Nat) (hn : n = W * H) (a : Option Addr) (c : Nat) (bs : List Bool) (w : World) (hT : OkT w a n c bs) (hW : W ≤ 64) (hH : H ≤ 64) :
    Calls Try.prog 56 #[.agg #[.int .i64 (W), .int .i64 (H), .slice a n c]] w fun e w' => ∃ A C, e = .returned (.tuple #[.agg #[.int .i64 (H), .int .i64 (W), .slice A n C], .int .i64 (0)]) ∧ OkT w' A n C (turnL W H bs) ∧ Below w.heap.size w w' := by
  have hn4 : n ≤ 4096 := by rw [hn]; exact mul64n hW hH
  have hz : wrT W H n = 0 := by rw [hn]; exact wrT_ok hW hH
  have HWR := Lib.hid (fun w => r5Wrong_any W H a n c w (wfN W hW) (wfN H hH) (by omega))
  rw [hz] at HWR
  have HBIT := Lib.hid (fun w y x p h1 h2 h3 (h4 : x ≤ 64) (h5 : y ≤ 64) => rBit_ok W H n a c bs w h1 y x p h2 h3 hn4 (by omega) (by omega) (by omega))
  have HN := Lib.hid hn
  have HT := Lib.hid hT
  clear hT hn hz
  go_enter Try.func56, Try.ntmps56
  go_wp2_with fail
  refine (HWR.out _).mono ?_
  rintro r w1 ⟨rfl, hb⟩
  obtain ⟨E1, d1, rfl⟩ := bExt hb
  clear hb
  go_wp2_with fail
  have hA1 := (tF_alloc w W H (.slice a n c) rfl).alloc (.cells #[.int .i64 (0), .int .i64 (0), .slice none 0 0] 25)
  have hA2 := tF_alloc (w.alloc (.cells #[.int .i64 (W), .int .i64 (H), .slice a n c] 25)) 0 0 (.slice none 0 0) rfl
  rw [World.size_alloc] at hA2
  have hbC : Below (w.heap.size + 2) ((w.alloc (.cells #[.int .i64 (W), .int .i64 (H), .slice a n c] 25)).alloc (.cells #[.int .i64 (0), .int .i64 (0), .slice none 0 0] 25)) (extW ((w.alloc (.cells #[.int .i64 (W), .int .i64 (H), .slice a n c] 25)).alloc (.cells #[.int .i64 (0), .int .i64 (0), .slice none 0 0] 25)) E1 d1) := (by repeat (first | exact Below.refl _ _ | refine Below.drew ?_ | refine below_drewN ?_ _ | refine Below.alloc ?_ (by first | exact Nat.le_refl _ | (simp; done) | (simp; omega) | omega) _ | refine Below.setCell ?_ (by first | exact Nat.le_refl _ | (simp; done) | (simp; omega) | omega) _ | refine bExtW ?_ (by first | exact Nat.le_refl _ | (simp; done) | (simp; omega) | omega) | refine Below.trans ?_ (Below.mono (by assumption) (by first | exact Nat.le_refl _ | (simp; done) | (simp; omega) | omega))))
  have hbw0 : Below w.heap.size w (extW ((w.alloc (.cells #[.int .i64 (W), .int .i64 (H), .slice a n c] 25)).alloc (.cells #[.int .i64 (0), .int .i64 (0), .slice none 0 0] 25)) E1 d1) := (by repeat (first | exact Below.refl _ _ | refine Below.drew ?_ | refine below_drewN ?_ _ | refine Below.alloc ?_ (by first | exact Nat.le_refl _ | (simp; done) | (simp; omega) | omega) _ | refine Below.setCell ?_ (by first | exact Nat.le_refl _ | (simp; done) | (simp; omega) | omega) _ | refine bExtW ?_ (by first | exact Nat.le_refl _ | (simp; done) | (simp; omega) | omega) | refine Below.trans ?_ (Below.mono (by assumption) (by first | exact Nat.le_refl _ | (simp; done) | (simp; omega) | omega))))
  have hC1 := rowBelow hA1 hbC (by omega)
  have hC2 := rowBelow hA2 hbC (by omega)
  have hszE : (extW ((w.alloc (.cells #[.int .i64 (W), .int .i64 (H), .slice a n c] 25)).alloc (.cells #[.int .i64 (0), .int .i64 (0), .slice none 0 0] 25)) E1 d1).heap.size = w.heap.size + 1 + 1 + E1.size := by simp
  generalize extW ((w.alloc (.cells #[.int .i64 (W), .int .i64 (H), .slice a n c] 25)).alloc (.cells #[.int .i64 (0), .int .i64 (0), .slice none 0 0] 25)) E1 d1 = WC at *
  have hW3q := hC1.alloc (.cells #[.int .i64 (H), .int .i64 (W), .slice none 0 0] 25)
  have hW3r := hC2.alloc (.cells #[.int .i64 (H), .int .i64 (W), .slice none 0 0] 25)
  have hW3o := tF_alloc WC H W (.slice none 0 0) rfl
  have hW3b : Below w.heap.size w (WC.alloc (.cells #[.int .i64 (H), .int .i64 (W), .slice none 0 0] 25)) := hbw0.alloc hbw0.size _
  have hsz3 : (WC.alloc (.cells #[.int .i64 (H), .int .i64 (W), .slice none 0 0] 25)).heap.size = WC.heap.size + 1 := by simp
  generalize WC.alloc (.cells #[.int .i64 (H), .int .i64 (W), .slice none 0 0] 25) = W3 at *
  rw [hszE] at hW3o hsz3
  obtain ⟨ob, ho⟩ : ∃ ob, w.heap.size + 1 + 1 + E1.size = ob := ⟨_, rfl⟩
  obtain ⟨q, hq⟩ : ∃ q, q = w.heap.size := ⟨_, rfl⟩
  obtain ⟨rb, hrb⟩ : ∃ rb, q + 1 = rb := ⟨_, rfl⟩
  rw [ho] at hW3o hsz3 ⊢
  rw [← hq] at hW3q hW3b hW3r ⊢
  rw [hrb] at hW3r ⊢
  obtain ⟨base, hbase⟩ : ∃ b, b = W3.heap.size := ⟨_, rfl⟩
  have hmbb : ob < base := by omega
  have hqr : q < rb := by omega
  have hro : rb < ob := by omega
  have HQ := Lib.hid hW3q
  have HRR := Lib.hid hW3r
  have HO3 := Lib.hid hW3o
  have HBS := Lib.hid hbase
  have HQW := Lib.hid hq
  have hB0 : Hid (∀ {w' : World}, BelowX base ob W3 w' → Below w.heap.size w w') := Lib.hid fun h => by
    have h1 := hW3b
    rw [HQW.out] at h1
    exact h1.trans ((h.below HBS.out.symm (Nat.le_refl _) (by omega)).mono (by have := HQW.out; omega))
  clear hW3q hW3o hW3r hW3b hsz3 hbase hA1 hA2 hbC hbw0 hq ho hszE hrb hC1 hC2
  go_loopw [6] (fun i wr => ∃ (x : Nat) (v : Value), x ≤ W ∧ i = .int .i64 x ∧ FB base ob H W (bT (trF W H bs) (x * H)) W3 v wr) (fun i _ => W - (intOf i).toNat)
  case atStart => exact ⟨0, _, Nat.zero_le _, rfl, by rw [Nat.zero_mul]; exact FB.start HO3.out HBS.out⟩
  case round =>
    obtain ⟨x, v, hx, rfl, hfb⟩ := hrel
    have hbel := hfb.bel
    have rq := hbel.rowIs HQ.out (by omega) (by omega)
    have q0 : wr.cell? ⟨q, 0, none⟩ = some (.int .i64 (W)) := rq.cell (i := 0) (by omega)
    have HFB := Lib.hid hfb
    clear hfb hbel rq
    by_cases hxW : x < W
    · go_wp2_with fail
      clear q0
      go_loopw [7] (fun i wr => ∃ (y : Nat) (v : Value), y ≤ H ∧ i = .int .i64 y ∧ FB base ob H W (bT (trF W H bs) (x * H + y)) W3 v wr) (fun i _ => H - (intOf i).toNat)
      case atStart => exact ⟨0, v, Nat.zero_le _, rfl, HFB.out⟩
      case round =>
        clear HFB
        obtain ⟨y, v, hy, rfl, hfb⟩ := hrel
        have hbel := hfb.bel
        have rq := hbel.rowIs HQ.out (by omega) (by omega)
        have q0 : wr.cell? ⟨q, 0, none⟩ = some (.int .i64 (W)) := rq.cell (i := 0) (by omega)
        have q1 : wr.cell? ⟨q, 1, none⟩ = some (.int .i64 (H)) := rq.cell (i := 1) (by omega)
        have q2 : wr.cell? ⟨q, 2, none⟩ = some (.slice a n c) := rq.cell (i := 2) (by omega)
        have hfb2 := Lib.hid hfb
        clear hfb hbel rq
        by_cases hyH : y < H
        · have HI := Lib.hid (HT.out.bits.below (hB0.out hfb2.out.bel))
          obtain ⟨p, hp⟩ : ∃ p, y * W + x = p := ⟨_, rfl⟩
          have hlt : p < n := by rw [HN.out, ← hp]; exact place_lt' hxW hyH
          have HBC := Lib.hid (fun wq h => HBIT.out wq y x p h hp hlt (by omega) (by omega))
          obtain ⟨hr0, ho0, hx0⟩ := hfb2.out
          obtain ⟨P, hP⟩ : ∃ P, x * H + y = P := ⟨_, rfl⟩
          have hPn : P < n := by rw [← hP, HN.out, Nat.mul_comm W H]; exact place_lt' hyH hxW
          have HBT := Lib.hid (bT_succ (trF W H bs) P)
          rw [show trF W H bs P = bs.getD p false by rw [← hP, trF_at hyH, hp]] at HBT
          rw [bT_len, hP] at ho0
          have HP := Lib.hid hP
          have cM : wr.cell? ⟨ob, 2, none⟩ = some v := hr0.cell (i := 2) (by omega)
          have fM := hr0.frozen 2
          have lm : LtW ob wr := hr0.lt
          have lq : LtW q wr := by have := hr0.lt; unfold LtW; omega
          have HO := Lib.hid ho0
          have HX := Lib.hid hx0
          have HR := Lib.hid hr0
          have hxs := hx0.size
          clear hr0 ho0 hx0 hfb2 hP hp
          generalize bT (trF W H bs) P = L at *
          generalize bs.getD p false = bit at *
          go_wp2_with fail
          (refine wp_region_ext_build 6 _ mkOne (.cells #[.bool (bit)] 4) (by kernel_rfl) (by kernel_rfl) rfl rfl ?_; simp only [List.take_succ_cons, List.take_zero, List.drop_succ_cons, List.drop_zero]; (repeat (first | ((with_reducible refine wpV_step (fun K hK => ?_)); go_simp; first | (refine hK _ ?_; clear hK K) | (apply Exists.intro; refine ⟨fun _ _ => ?_, hK _ ?_⟩; (go_at_call 58; exact vOf (HBC.out _ (HI.out.below (by repeat (first | exact Below.refl _ _ | refine Below.drew ?_ | refine below_drewN ?_ _ | refine Below.alloc ?_ (by first | exact Nat.le_refl _ | (simp; done) | (simp; omega) | omega) _ | refine Below.setCell ?_ (by first | exact Nat.le_refl _ | (simp; done) | (simp; omega) | omega) _ | refine bExtW ?_ (by first | exact Nat.le_refl _ | (simp; done) | (simp; omega) | omega) | refine Below.trans ?_ (Below.mono (by assumption) (by first | exact Nat.le_refl _ | (simp; done) | (simp; omega) | omega))))))); clear hK K)))); refine wpV_nil ?_; refine ⟨fun W => by go_simp; rfl, fun E d E' d' => ?_⟩)
          have hbE := built_below wr E d (.cells #[.bool (bit)] 4) E' d'
          have HCS := Lib.hid (built_cell wr E d #[.bool (bit)] 4 E' d')
          have cME := bCs hbE cM
          have fME := (hbE.frozen (p := ⟨ob, 2, none⟩) (show ob < wr.heap.size from lm)).trans fM
          have HOE := Lib.hid (ownBelow HO.out hbE)
          have hgE := Nat.le_trans HX.out.size hbE.size
          have HBE := Lib.hid hbE
          clear hbE cM fM
          generalize extW ((extW wr E d).alloc (.cells #[.bool (bit)] 4)) E' d' = WE at *
          generalize (extW wr E d).heap.size = BB at *
          go_wp2_with (at_builtin; refine wpAppB okBools rfl (.tmp 32) (.tmp 37) rfl base _ _ _ #[.bool (bit)] BB rfl HOE.out rfl HCS.out rfl ?_ (by omega) (by omega) (by omega) ?_)
          · simp [Value.oneCell']
          intro v' w2 hown2 hb2
          obtain ⟨A', cp', rfl⟩ := own_form hown2
          have cM2 : w2.cell? ⟨ob, 2, none⟩ = some v := (hb2.cell (p := ⟨ob, 2, none⟩) (by simp; omega)).trans cME
          have fM2 : w2.frozen? ⟨ob, 2, none⟩ = false := (hb2.frozen (p := ⟨ob, 2, none⟩) (by simp; omega)).trans fME
          have HNW := Lib.hid (FB.app HR.out HX.out HBE.out (by omega) hown2 hb2)
          clear hown2 hb2 cME fME
          go_wp2
          go_roundw
          case rel => exact ⟨y + 1, _, by omega, by go_num, by rw [show x * H + (y + 1) = P + 1 by have := HP.out; omega, HBT.out]; exact HNW.out⟩
          case measure => simp [intOf]; omega
        · obtain rfl : H = y := by omega
          go_wp2
          go_roundw
          case rel => exact ⟨x + 1, v, by omega, by go_num, by rw [Nat.add_mul, Nat.one_mul]; exact hfb2.out⟩
          case measure => simp [intOf]; omega
    · obtain rfl : W = x := by omega
      obtain ⟨hr9, ho9, hx9⟩ := HFB.out
      rw [show bT (trF W H bs) (W * H) = turnL W H bs from rfl] at ho9
      have hlo : (turnL W H bs).length = n := by rw [turnL_len, HN.out]
      obtain ⟨a1, c1, rfl, hT1, hg1⟩ := OkT.of_owns ho9
      rw [hlo] at hr9 hT1
      have o0 : wr.cell? ⟨ob, 0, none⟩ = some (.int .i64 (H)) := hr9.cell (i := 0) (by omega)
      have o1 : wr.cell? ⟨ob, 1, none⟩ = some (.int .i64 (W)) := hr9.cell (i := 1) (by omega)
      have o2 : wr.cell? ⟨ob, 2, none⟩ = some (.slice a1 n c1) := hr9.cell (i := 2) (by omega)
      have rr := hx9.rowIs HRR.out (by omega) (by omega)
      have r0 : wr.cell? ⟨rb, 0, none⟩ = some (.int .i64 (0)) := rr.cell (i := 0) (by omega)
      have r1 : wr.cell? ⟨rb, 1, none⟩ = some (.int .i64 (0)) := rr.cell (i := 1) (by omega)
      have r2 : wr.cell? ⟨rb, 2, none⟩ = some (.slice none 0 0) := rr.cell (i := 2) (by omega)
      have f0 := rr.frozen 0; have f1 := rr.frozen 1; have f2 := rr.frozen 2
      have HT1 := Lib.hid hT1
      have HG1 := Lib.hid hg1
      have HX9 := Lib.hid hx9
      have hxs := hx9.size
      clear hr9 ho9 hx9 rr hlo hT1 hg1 HFB HO3 HRR
      go_wp2
      refine bodyPost_ret (v := .tuple #[.agg #[.int .i64 (H), .int .i64 (W), .slice a1 n c1], .int .i64 (0)]) (by simp [results, Try.results56, go_sem, r0, r1, r2]) rfl ⟨a1, c1, rfl, ?_, ?_⟩
      · exact ((((BelowX.refl (base := wr.heap.size) (mb := rb) (Nat.le_refl _)).set 0 _).set 1 _).set 2 _).okT HT1.out rfl fun b o e => by have := HG1.out b o e; omega
      · exact (((hB0.out HX9.out).setCell (by simp; have := HQW.out; omega) _).setCell (by simp; have := HQW.out; omega) _).setCell (by simp; have := HQW.out; omega) _
end Go.Proofs.Ytkffljkgblcgdaa
