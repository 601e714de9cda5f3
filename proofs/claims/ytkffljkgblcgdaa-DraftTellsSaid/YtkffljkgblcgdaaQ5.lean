/- Lemmas and contracts of functions (what each call returns, and that it changes nothing that was there) that the proof of a law of this seat uses; each lemma states its own conditions. -/
import Derived.Test.YtkffljkgblcgdaaQ4
namespace Go.Proofs.Ytkffljkgblcgdaa
open Go.RowKit
set_option linter.unusedVariables false
set_option linter.unusedSimpArgs false
open Lo
def mulT (M W : Nat) (aa bb : List Bool) (Y X k : Nat) : Bool := (List.range k).any fun j => aa.getD (Y * M + j) false && bb.getD (j * W + X) false
theorem mulT_succ {M W : Nat} {aa bb : List Bool} {Y X k : Nat} : mulT M W aa bb Y X (k+1) = (mulT M W aa bb Y X k || (aa.getD (Y * M + k) false && bb.getD (k * W + X) false)) := by
  unfold mulT; rw [List.range_succ, List.any_append]; simp
def prF (M W : Nat) (aa bb : List Bool) (p : Nat) : Bool := mulB M W aa bb (p / W) (p % W)
theorem prF_at {M W : Nat} {aa bb : List Bool} {y x : Nat} (hx : x < W) : prF M W aa bb (y * W + x) = mulT M W aa bb y x M := by unfold prF; rw [dm1 hx, dm2 hx]; rfl
theorem FB.below {base mb : Nat} {W H : Int} {L : List Bool} {W1 w w' : World} {v : Value} (h : FB base mb W H L W1 v w) (hb : Below w.heap.size w w') : FB base mb W H L W1 v w' :=
  ⟨rowBelow h.row hb h.row.lt, ownBelow h.own hb, ⟨hb.os.trans h.bel.os, hb.tape.trans h.bel.tape, hb.output.trans h.bel.output, Nat.le_trans h.bel.size hb.size, fun k hk hm => (hb.block k (Nat.lt_of_lt_of_le hk h.bel.size)).trans (h.bel.block k hk hm)⟩⟩
set_option maxRecDepth 100000 in
set_option maxHeartbeats 8000000 in
theorem rProduct_bad (W1 H1 : Int) (a1 : Option Addr) (n1 c1 : Nat) (W2 H2 : Int) (a2 : Option Addr) (n2 c2 : Nat) (w : World) (u1 : (-9223372036854775808 ≤ W1 ∧ W1 ≤ 9223372036854775807)) (u2 : (-9223372036854775808 ≤ H1 ∧ H1 ≤ 9223372036854775807)) (u3 : n1 ≤ 9223372036854775807) (v1 : (-9223372036854775808 ≤ W2 ∧ W2 ≤ 9223372036854775807)) (v2 : (-9223372036854775808 ≤ H2 ∧ H2 ≤ 9223372036854775807)) (v3 : n2 ≤ 9223372036854775807) (he : prE W1 H1 n1 W2 H2 n2 ≠ 0) :
    Calls Try.prog 55 #[.agg #[.int .i64 (W1), .int .i64 (H1), .slice a1 n1 c1], .agg #[.int .i64 (W2), .int .i64 (H2), .slice a2 n2 c2]] w fun e w' => e = .returned (.tuple #[.agg #[.int .i64 0, .int .i64 0, .slice none 0 0], .int .i64 (prE W1 H1 n1 W2 H2 n2)]) ∧ Below w.heap.size w w' := by
  have HA := Lib.hid (fun w => r5Wrong_any W1 H1 a1 n1 c1 w u1 u2 u3)
  have HB := Lib.hid (fun w => r5Wrong_any W2 H2 a2 n2 c2 w v1 v2 v3)
  by_cases h1 : wrT W1 H1 n1 = 0
  · rw [h1] at HA
    by_cases h2 : wrT W2 H2 n2 = 0
    · rw [h2] at HB
      have hWH : W1 ≠ H2 := by
        intro e
        exact he (by unfold prE; rw [if_neg (by simp [h1]), if_neg (by simp [h2]), if_neg (by simp [e])])
      have HT : Hid (prE W1 H1 n1 W2 H2 n2 = 8) := Lib.hid (by simp [prE, h1, h2, hWH])
      have hb : (W1 != H2) = true := by simpa using hWH
      clear h1 h2 hWH he
      go_enter Try.func55, Try.ntmps55
      (go_wp2_with fail; refine (HA.out _).mono ?_; rintro r w1 ⟨rfl, hb⟩; obtain ⟨E, d, rfl⟩ := bExt hb; clear hb)
      (go_wp2_with fail; refine (HB.out _).mono ?_; rintro r w1 ⟨rfl, hb⟩; obtain ⟨E, d, rfl⟩ := bExt hb; clear hb)
      go_wp2
      refine bodyPost_ret (v := .tuple #[.agg #[.int .i64 0, .int .i64 0, .slice none 0 0], .int .i64 (8)]) (by simp [results, Try.results55, go_sem]) rfl ⟨by rw [HT.out], (by repeat (first | exact Below.refl _ _ | refine Below.drew ?_ | refine below_drewN ?_ _ | refine Below.alloc ?_ (by first | exact Nat.le_refl _ | (simp; done) | (simp; omega) | omega) _ | refine Below.setCell ?_ (by first | exact Nat.le_refl _ | (simp; done) | (simp; omega) | omega) _ | refine bExtW ?_ (by first | exact Nat.le_refl _ | (simp; done) | (simp; omega) | omega) | refine Below.trans ?_ (Below.mono (by assumption) (by first | exact Nat.le_refl _ | (simp; done) | (simp; omega) | omega))))⟩
    · have HT : Hid (prE W1 H1 n1 W2 H2 n2 = wrT W2 H2 n2) := Lib.hid (by simp [prE, h1, h2])
      have hb : (wrT W2 H2 n2 != 0) = true := by simpa using h2
      clear h1 h2 he
      generalize wrT W2 H2 n2 = we at *
      go_enter Try.func55, Try.ntmps55
      (go_wp2_with fail; refine (HA.out _).mono ?_; rintro r w1 ⟨rfl, hb⟩; obtain ⟨E, d, rfl⟩ := bExt hb; clear hb)
      (go_wp2_with fail; refine (HB.out _).mono ?_; rintro r w1 ⟨rfl, hb⟩; obtain ⟨E, d, rfl⟩ := bExt hb; clear hb)
      go_wp2
      refine bodyPost_ret (v := .tuple #[.agg #[.int .i64 0, .int .i64 0, .slice none 0 0], .int .i64 (we)]) (by simp [results, Try.results55, go_sem]) rfl ⟨by rw [HT.out], (by repeat (first | exact Below.refl _ _ | refine Below.drew ?_ | refine below_drewN ?_ _ | refine Below.alloc ?_ (by first | exact Nat.le_refl _ | (simp; done) | (simp; omega) | omega) _ | refine Below.setCell ?_ (by first | exact Nat.le_refl _ | (simp; done) | (simp; omega) | omega) _ | refine bExtW ?_ (by first | exact Nat.le_refl _ | (simp; done) | (simp; omega) | omega) | refine Below.trans ?_ (Below.mono (by assumption) (by first | exact Nat.le_refl _ | (simp; done) | (simp; omega) | omega))))⟩
  · have HT : Hid (prE W1 H1 n1 W2 H2 n2 = wrT W1 H1 n1) := Lib.hid (by simp [prE, h1])
    have hb : (wrT W1 H1 n1 != 0) = true := by simpa using h1
    clear h1 he
    generalize wrT W1 H1 n1 = we at *
    go_enter Try.func55, Try.ntmps55
    (go_wp2_with fail; refine (HA.out _).mono ?_; rintro r w1 ⟨rfl, hb⟩; obtain ⟨E, d, rfl⟩ := bExt hb; clear hb)
    go_wp2
    refine bodyPost_ret (v := .tuple #[.agg #[.int .i64 0, .int .i64 0, .slice none 0 0], .int .i64 (we)]) (by simp [results, Try.results55, go_sem]) rfl ⟨by rw [HT.out], (by repeat (first | exact Below.refl _ _ | refine Below.drew ?_ | refine below_drewN ?_ _ | refine Below.alloc ?_ (by first | exact Nat.le_refl _ | (simp; done) | (simp; omega) | omega) _ | refine Below.setCell ?_ (by first | exact Nat.le_refl _ | (simp; done) | (simp; omega) | omega) _ | refine bExtW ?_ (by first | exact Nat.le_refl _ | (simp; done) | (simp; omega) | omega) | refine Below.trans ?_ (Below.mono (by assumption) (by first | exact Nat.le_refl _ | (simp; done) | (simp; omega) | omega))))⟩
set_option maxRecDepth 100000 in
set_option maxHeartbeats 8000000 in
theorem rProduct_ok (H M W n1 n2 n : Nat) (h1 : n1 = M * H) (h2 : n2 = W * M) (h3 : n = W * H) (a1 : Option Addr) (c1 : Nat) (aa : List Bool) (a2 : Option Addr) (c2 : Nat) (bb : List Bool) (w : World) (hA : OkT w a1 n1 c1 aa) (hB : OkT w a2 n2 c2 bb) (hM : M ≤ 64) (hH : H ≤ 64) (hW : W ≤ 64) :
    Calls Try.prog 55 #[.agg #[.int .i64 (M), .int .i64 (H), .slice a1 n1 c1], .agg #[.int .i64 (W), .int .i64 (M), .slice a2 n2 c2]] w fun e w' => ∃ A C, e = .returned (.tuple #[.agg #[.int .i64 (W), .int .i64 (H), .slice A n C], .int .i64 (0)]) ∧ OkT w' A n C (prodL H M W aa bb) ∧ Below w.heap.size w w' := by
  have hn1 : n1 ≤ 4096 := by rw [h1]; exact mul64n hM hH
  have hn2 : n2 ≤ 4096 := by rw [h2]; exact mul64n hW hM
  have hn4 : n ≤ 4096 := by rw [h3]; exact mul64n hW hH
  have hz1 : wrT M H n1 = 0 := by rw [h1]; exact wrT_ok hM hH
  have hz2 : wrT W M n2 = 0 := by rw [h2]; exact wrT_ok hW hM
  have HWA := Lib.hid (fun w => r5Wrong_any M H a1 n1 c1 w (wfN M hM) (wfN H hH) (by omega))
  rw [hz1] at HWA
  have HWB := Lib.hid (fun w => r5Wrong_any W M a2 n2 c2 w (wfN W hW) (wfN M hM) (by omega))
  rw [hz2] at HWB
  have HBA := Lib.hid (fun w y x p g1 g2 g3 (g4 : x ≤ 64) (g5 : y ≤ 64) => rBit_ok M H n1 a1 c1 aa w g1 y x p g2 g3 hn1 (by omega) (by omega) (by omega))
  have HBB := Lib.hid (fun w y x p g1 g2 g3 (g4 : x ≤ 64) (g5 : y ≤ 64) => rBit_ok W M n2 a2 c2 bb w g1 y x p g2 g3 hn2 (by omega) (by omega) (by omega))
  have HN1 := Lib.hid h1
  have HN2 := Lib.hid h2
  have HN := Lib.hid h3
  have HA := Lib.hid hA.bits
  have HB := Lib.hid hB.bits
  clear hA hB h1 h2 h3 hz1 hz2
  go_enter Try.func55, Try.ntmps55
  go_wp2_with fail
  refine (HWA.out _).mono ?_
  rintro r w1 ⟨rfl, hb⟩
  obtain ⟨E1, d1, rfl⟩ := bExt hb
  clear hb
  go_wp2_with fail
  refine (HWB.out _).mono ?_
  rintro r w1 ⟨rfl, hb⟩
  obtain ⟨E2, d2, rfl⟩ := bExt hb
  clear hb
  go_wp2_with fail
  have hA1 := ((tF_alloc w M H (.slice a1 n1 c1) rfl).alloc (.cells #[.int .i64 (W), .int .i64 (M), .slice a2 n2 c2] 25)).alloc (.cells #[.int .i64 (0), .int .i64 (0), .slice none 0 0] 25)
  have hA2 := (tF_alloc (w.alloc (.cells #[.int .i64 (M), .int .i64 (H), .slice a1 n1 c1] 25)) W M (.slice a2 n2 c2) rfl).alloc (.cells #[.int .i64 (0), .int .i64 (0), .slice none 0 0] 25)
  have hA3 := tF_alloc ((w.alloc (.cells #[.int .i64 (M), .int .i64 (H), .slice a1 n1 c1] 25)).alloc (.cells #[.int .i64 (W), .int .i64 (M), .slice a2 n2 c2] 25)) 0 0 (.slice none 0 0) rfl
  simp only [World.size_alloc] at hA2 hA3
  have hbC : Below (w.heap.size + 3) (((w.alloc (.cells #[.int .i64 (M), .int .i64 (H), .slice a1 n1 c1] 25)).alloc (.cells #[.int .i64 (W), .int .i64 (M), .slice a2 n2 c2] 25)).alloc (.cells #[.int .i64 (0), .int .i64 (0), .slice none 0 0] 25)) (extW (extW (((w.alloc (.cells #[.int .i64 (M), .int .i64 (H), .slice a1 n1 c1] 25)).alloc (.cells #[.int .i64 (W), .int .i64 (M), .slice a2 n2 c2] 25)).alloc (.cells #[.int .i64 (0), .int .i64 (0), .slice none 0 0] 25)) E1 d1) E2 d2) := (by repeat (first | exact Below.refl _ _ | refine Below.drew ?_ | refine below_drewN ?_ _ | refine Below.alloc ?_ (by first | exact Nat.le_refl _ | (simp; done) | (simp; omega) | omega) _ | refine Below.setCell ?_ (by first | exact Nat.le_refl _ | (simp; done) | (simp; omega) | omega) _ | refine bExtW ?_ (by first | exact Nat.le_refl _ | (simp; done) | (simp; omega) | omega) | refine Below.trans ?_ (Below.mono (by assumption) (by first | exact Nat.le_refl _ | (simp; done) | (simp; omega) | omega))))
  have hbw0 : Below w.heap.size w (extW (extW (((w.alloc (.cells #[.int .i64 (M), .int .i64 (H), .slice a1 n1 c1] 25)).alloc (.cells #[.int .i64 (W), .int .i64 (M), .slice a2 n2 c2] 25)).alloc (.cells #[.int .i64 (0), .int .i64 (0), .slice none 0 0] 25)) E1 d1) E2 d2) := (by repeat (first | exact Below.refl _ _ | refine Below.drew ?_ | refine below_drewN ?_ _ | refine Below.alloc ?_ (by first | exact Nat.le_refl _ | (simp; done) | (simp; omega) | omega) _ | refine Below.setCell ?_ (by first | exact Nat.le_refl _ | (simp; done) | (simp; omega) | omega) _ | refine bExtW ?_ (by first | exact Nat.le_refl _ | (simp; done) | (simp; omega) | omega) | refine Below.trans ?_ (Below.mono (by assumption) (by first | exact Nat.le_refl _ | (simp; done) | (simp; omega) | omega))))
  have hC1 := rowBelow hA1 hbC (by omega)
  have hC2 := rowBelow hA2 hbC (by omega)
  have hC3 := rowBelow hA3 hbC (by omega)
  have hszE : (extW (extW (((w.alloc (.cells #[.int .i64 (M), .int .i64 (H), .slice a1 n1 c1] 25)).alloc (.cells #[.int .i64 (W), .int .i64 (M), .slice a2 n2 c2] 25)).alloc (.cells #[.int .i64 (0), .int .i64 (0), .slice none 0 0] 25)) E1 d1) E2 d2).heap.size = w.heap.size + 1 + 1 + 1 + E1.size + E2.size := by simp
  generalize extW (extW (((w.alloc (.cells #[.int .i64 (M), .int .i64 (H), .slice a1 n1 c1] 25)).alloc (.cells #[.int .i64 (W), .int .i64 (M), .slice a2 n2 c2] 25)).alloc (.cells #[.int .i64 (0), .int .i64 (0), .slice none 0 0] 25)) E1 d1) E2 d2 = WC at *
  have hW3q := hC1.alloc (.cells #[.int .i64 (W), .int .i64 (H), .slice none 0 0] 25)
  have hW3p := hC2.alloc (.cells #[.int .i64 (W), .int .i64 (H), .slice none 0 0] 25)
  have hW3r := hC3.alloc (.cells #[.int .i64 (W), .int .i64 (H), .slice none 0 0] 25)
  have hW3o := tF_alloc WC W H (.slice none 0 0) rfl
  have hW3b : Below w.heap.size w (WC.alloc (.cells #[.int .i64 (W), .int .i64 (H), .slice none 0 0] 25)) := hbw0.alloc hbw0.size _
  have hsz3 : (WC.alloc (.cells #[.int .i64 (W), .int .i64 (H), .slice none 0 0] 25)).heap.size = WC.heap.size + 1 := by simp
  generalize WC.alloc (.cells #[.int .i64 (W), .int .i64 (H), .slice none 0 0] 25) = W3 at *
  rw [hszE] at hW3o hsz3
  obtain ⟨ob, ho⟩ : ∃ ob, w.heap.size + 1 + 1 + 1 + E1.size + E2.size = ob := ⟨_, rfl⟩
  obtain ⟨q, hq⟩ : ∃ q, q = w.heap.size := ⟨_, rfl⟩
  obtain ⟨q2, hq2⟩ : ∃ q2, q + 1 = q2 := ⟨_, rfl⟩
  obtain ⟨rb, hrb⟩ : ∃ rb, q2 + 1 = rb := ⟨_, rfl⟩
  rw [ho] at hW3o hsz3 ⊢
  rw [← hq] at hW3q hW3b hW3p hW3r ⊢
  rw [hq2] at hW3p hW3r ⊢
  rw [hrb] at hW3r ⊢
  obtain ⟨base, hbase⟩ : ∃ b, b = W3.heap.size := ⟨_, rfl⟩
  have hmbb : ob < base := by omega
  have hqq : q < q2 := by omega
  have hqr : q2 < rb := by omega
  have hro : rb < ob := by omega
  have HQ := Lib.hid hW3q
  have HQ2 := Lib.hid hW3p
  have HRR := Lib.hid hW3r
  have HO3 := Lib.hid hW3o
  have HBS := Lib.hid hbase
  have HQW := Lib.hid hq
  have hB0 : Hid (∀ {w' : World}, BelowX base ob W3 w' → Below w.heap.size w w') := Lib.hid fun h => by
    have h1 := hW3b
    rw [HQW.out] at h1
    exact h1.trans ((h.below HBS.out.symm (Nat.le_refl _) (by omega)).mono (by have := HQW.out; omega))
  clear hW3q hW3p hW3o hW3r hW3b hsz3 hbase hA1 hA2 hA3 hbC hbw0 hq hq2 ho hszE hrb hC1 hC2 hC3
  go_loopw [9] (fun i wr => ∃ (y : Nat) (v : Value), y ≤ H ∧ i = .int .i64 y ∧ FB base ob W H (bT (prF M W aa bb) (y * W)) W3 v wr) (fun i _ => H - (intOf i).toNat)
  case atStart => exact ⟨0, _, Nat.zero_le _, rfl, by rw [Nat.zero_mul]; exact FB.start HO3.out HBS.out⟩
  case round =>
    obtain ⟨y, v, hy, rfl, hfb⟩ := hrel
    have hbel := hfb.bel
    have rq := hbel.rowIs HQ.out (by omega) (by omega)
    have q1 : wr.cell? ⟨q, 1, none⟩ = some (.int .i64 (H)) := rq.cell (i := 1) (by omega)
    have HFB := Lib.hid hfb
    clear hfb hbel rq
    by_cases hyH : y < H
    · go_wp2_with fail
      clear q1
      go_loopw [10] (fun i wr => ∃ (x : Nat) (v : Value), x ≤ W ∧ i = .int .i64 x ∧ FB base ob W H (bT (prF M W aa bb) (y * W + x)) W3 v wr) (fun i _ => W - (intOf i).toNat)
      case atStart => exact ⟨0, v, Nat.zero_le _, rfl, HFB.out⟩
      case round =>
        clear HFB
        obtain ⟨x, v, hx, rfl, hfb⟩ := hrel
        have hbel := hfb.bel
        have rq := hbel.rowIs HQ.out (by omega) (by omega)
        have rp := hbel.rowIs HQ2.out (by omega) (by omega)
        have q00 : wr.cell? ⟨q, 0, none⟩ = some (.int .i64 (M)) := rq.cell (i := 0) (by omega)
        have q01 : wr.cell? ⟨q, 1, none⟩ = some (.int .i64 (H)) := rq.cell (i := 1) (by omega)
        have q02 : wr.cell? ⟨q, 2, none⟩ = some (.slice a1 n1 c1) := rq.cell (i := 2) (by omega)
        have q10 : wr.cell? ⟨q2, 0, none⟩ = some (.int .i64 (W)) := rp.cell (i := 0) (by omega)
        have q11 : wr.cell? ⟨q2, 1, none⟩ = some (.int .i64 (M)) := rp.cell (i := 1) (by omega)
        have q12 : wr.cell? ⟨q2, 2, none⟩ = some (.slice a2 n2 c2) := rp.cell (i := 2) (by omega)
        have lq : LtW q wr := rq.lt
        have lp : LtW q2 wr := rp.lt
        have hfb2 := Lib.hid hfb
        clear hfb hbel rq rp
        by_cases hxW : x < W
        · have HIA := Lib.hid (HA.out.below (hB0.out hfb2.out.bel))
          have HIB := Lib.hid (HB.out.below (hB0.out hfb2.out.bel))
          go_wp2_with fail
          go_loopw [11, 12] (fun s i wr' => ∃ (k : Nat) (E : Array Obj) (d : Nat), k ≤ M ∧ s = .bool (mulT M W aa bb y x k) ∧ i = .int .i64 k ∧ wr' = extW wr E d) (fun _ i _ => M - (intOf i).toNat)
          case atStart => exact ⟨0, #[], wr.drawn, Nat.zero_le _, rfl, rfl, extW_zero _⟩
          case round =>
            obtain ⟨k, E, d, hk, rfl, rfl, rfl⟩ := hrel
            by_cases hkM : k < M
            · have HMS := Lib.hid (mulT_succ (M := M) (W := W) (aa := aa) (bb := bb) (Y := y) (X := x) (k := k))
              obtain ⟨p1, hp1⟩ : ∃ p, y * M + k = p := ⟨_, rfl⟩
              have hlt1 : p1 < n1 := by rw [HN1.out, ← hp1]; exact place_lt' hkM hyH
              obtain ⟨p2, hp2⟩ : ∃ p, k * W + x = p := ⟨_, rfl⟩
              have hlt2 : p2 < n2 := by rw [HN2.out, ← hp2]; exact place_lt' hxW hkM
              have HC1 := Lib.hid (fun wq h => HBA.out wq y k p1 h hp1 hlt1 (by omega) (by omega))
              have HC2 := Lib.hid (fun wq h => HBB.out wq k x p2 h hp2 hlt2 (by omega) (by omega))
              rw [hp1, hp2] at HMS
              clear hp1 hp2 hlt1 hlt2
              generalize aa.getD p1 false = b1 at *
              generalize bb.getD p2 false = b2 at *
              generalize mulT M W aa bb y x k = s at *
              cases s with
              | true =>
                go_wp2
                go_roundw
                case rel => exact ⟨k + 1, _, _, by omega, by rw [HMS.out]; rfl, by go_num, rfl⟩
                case measure => simp [intOf]; omega
              | false =>
                cases b1 with
                | false =>
                  (go_wp2_with fail; refine (HC1.out _ (HIA.out.below (by repeat (first | exact Below.refl _ _ | refine Below.drew ?_ | refine below_drewN ?_ _ | refine Below.alloc ?_ (by first | exact Nat.le_refl _ | (simp; done) | (simp; omega) | omega) _ | refine Below.setCell ?_ (by first | exact Nat.le_refl _ | (simp; done) | (simp; omega) | omega) _ | refine bExtW ?_ (by first | exact Nat.le_refl _ | (simp; done) | (simp; omega) | omega) | refine Below.trans ?_ (Below.mono (by assumption) (by first | exact Nat.le_refl _ | (simp; done) | (simp; omega) | omega)))))).mono ?_; rintro r w1 ⟨rfl, hb⟩; obtain ⟨E, d, rfl⟩ := bExt hb; clear hb)
                  go_wp2
                  go_roundw
                  case rel => exact ⟨k + 1, _, _, by omega, by rw [HMS.out]; rfl, by go_num, by simp only [extW_extW]; rfl⟩
                  case measure => simp [intOf]; omega
                | true =>
                  (go_wp2_with fail; refine (HC1.out _ (HIA.out.below (by repeat (first | exact Below.refl _ _ | refine Below.drew ?_ | refine below_drewN ?_ _ | refine Below.alloc ?_ (by first | exact Nat.le_refl _ | (simp; done) | (simp; omega) | omega) _ | refine Below.setCell ?_ (by first | exact Nat.le_refl _ | (simp; done) | (simp; omega) | omega) _ | refine bExtW ?_ (by first | exact Nat.le_refl _ | (simp; done) | (simp; omega) | omega) | refine Below.trans ?_ (Below.mono (by assumption) (by first | exact Nat.le_refl _ | (simp; done) | (simp; omega) | omega)))))).mono ?_; rintro r w1 ⟨rfl, hb⟩; obtain ⟨E, d, rfl⟩ := bExt hb; clear hb)
                  (go_wp2_with fail; refine (HC2.out _ (HIB.out.below (by repeat (first | exact Below.refl _ _ | refine Below.drew ?_ | refine below_drewN ?_ _ | refine Below.alloc ?_ (by first | exact Nat.le_refl _ | (simp; done) | (simp; omega) | omega) _ | refine Below.setCell ?_ (by first | exact Nat.le_refl _ | (simp; done) | (simp; omega) | omega) _ | refine bExtW ?_ (by first | exact Nat.le_refl _ | (simp; done) | (simp; omega) | omega) | refine Below.trans ?_ (Below.mono (by assumption) (by first | exact Nat.le_refl _ | (simp; done) | (simp; omega) | omega)))))).mono ?_; rintro r w1 ⟨rfl, hb⟩; obtain ⟨E, d, rfl⟩ := bExt hb; clear hb)
                  go_wp2
                  go_roundw
                  case rel => exact ⟨k + 1, _, _, by omega, by rw [HMS.out]; rfl, by go_num, by simp only [extW_extW]; rfl⟩
                  case measure => simp [intOf]; omega
            · obtain rfl : M = k := by omega
              obtain ⟨hr0, ho0, hx0⟩ := hfb2.out.below (show Below wr.heap.size wr (extW wr E d) from (by repeat (first | exact Below.refl _ _ | refine Below.drew ?_ | refine below_drewN ?_ _ | refine Below.alloc ?_ (by first | exact Nat.le_refl _ | (simp; done) | (simp; omega) | omega) _ | refine Below.setCell ?_ (by first | exact Nat.le_refl _ | (simp; done) | (simp; omega) | omega) _ | refine bExtW ?_ (by first | exact Nat.le_refl _ | (simp; done) | (simp; omega) | omega) | refine Below.trans ?_ (Below.mono (by assumption) (by first | exact Nat.le_refl _ | (simp; done) | (simp; omega) | omega)))))
              obtain ⟨P, hP⟩ : ∃ P, y * W + x = P := ⟨_, rfl⟩
              have hPn : P < n := by rw [← hP, HN.out]; exact place_lt' hxW hyH
              have HBT := Lib.hid (bT_succ (prF M W aa bb) P)
              rw [show prF M W aa bb P = mulT M W aa bb y x M by rw [← hP, prF_at hxW]] at HBT
              rw [bT_len, hP] at ho0
              have HP := Lib.hid hP
              generalize mulT M W aa bb y x M = bit at *
              have n0 : (extW wr E d).cell? ⟨q, 0, none⟩ = some (.int .i64 (M)) := bCs (show Below wr.heap.size wr (extW wr E d) from (by repeat (first | exact Below.refl _ _ | refine Below.drew ?_ | refine below_drewN ?_ _ | refine Below.alloc ?_ (by first | exact Nat.le_refl _ | (simp; done) | (simp; omega) | omega) _ | refine Below.setCell ?_ (by first | exact Nat.le_refl _ | (simp; done) | (simp; omega) | omega) _ | refine bExtW ?_ (by first | exact Nat.le_refl _ | (simp; done) | (simp; omega) | omega) | refine Below.trans ?_ (Below.mono (by assumption) (by first | exact Nat.le_refl _ | (simp; done) | (simp; omega) | omega))))) q00
              clear q00 q01 q02 q10 q11 q12 lq lp HIA HIB hfb2
              generalize extW wr E d = wn at *
              have cM : wn.cell? ⟨ob, 2, none⟩ = some v := hr0.cell (i := 2) (by omega)
              have fM := hr0.frozen 2
              have HOX := Lib.hid ho0
              have HX := Lib.hid hx0
              have HR := Lib.hid hr0
              have hxs : base ≤ wn.heap.size := hx0.size
              clear hr0 ho0 hx0 hP
              generalize bT (prF M W aa bb) P = L at *
              go_wp2_with (at_builtin; refine wpApp okBools rfl (.tmp 68) (.tmp 70) rfl base _ _ _ #[.bool bit] rfl HOX.out rfl rfl ?_ (by omega) (by omega) hxs ?_)
              · simp [Value.oneCell']
              intro v' w2 hown2 hb2
              obtain ⟨A', cp', rfl⟩ := own_form hown2
              have cM2 : w2.cell? ⟨ob, 2, none⟩ = some v := (hb2.cell (p := ⟨ob, 2, none⟩) (by simp; omega)).trans cM
              have fM2 : w2.frozen? ⟨ob, 2, none⟩ = false := (hb2.frozen (p := ⟨ob, 2, none⟩) (by simp; omega)).trans fM
              have HNW := Lib.hid (FB.app HR.out HX.out (Below.refl _ _) (by omega) hown2 hb2)
              clear hown2 hb2 cM fM
              go_wp2
              go_roundw
              case rel => exact ⟨x + 1, _, by omega, by go_num, by rw [show y * W + (x + 1) = P + 1 by have := HP.out; omega, HBT.out]; exact HNW.out⟩
              case measure => simp [intOf]; omega
        · obtain rfl : W = x := by omega
          go_wp2
          go_roundw
          case rel => exact ⟨y + 1, v, by omega, by go_num, by rw [Nat.add_mul, Nat.one_mul]; exact hfb2.out⟩
          case measure => simp [intOf]; omega
    · obtain rfl : H = y := by omega
      obtain ⟨hr9, ho9, hx9⟩ := HFB.out
      rw [show bT (prF M W aa bb) (H * W) = prodL H M W aa bb by rw [Nat.mul_comm]; rfl] at ho9
      have hlo : (prodL H M W aa bb).length = n := by rw [prodL_len, HN.out]
      obtain ⟨a3, c3, rfl, hT1, hg1⟩ := OkT.of_owns ho9
      rw [hlo] at hr9 hT1
      have o0 : wr.cell? ⟨ob, 0, none⟩ = some (.int .i64 (W)) := hr9.cell (i := 0) (by omega)
      have o1 : wr.cell? ⟨ob, 1, none⟩ = some (.int .i64 (H)) := hr9.cell (i := 1) (by omega)
      have o2 : wr.cell? ⟨ob, 2, none⟩ = some (.slice a3 n c3) := hr9.cell (i := 2) (by omega)
      have rr := hx9.rowIs HRR.out (by omega) (by omega)
      have r0 : wr.cell? ⟨rb, 0, none⟩ = some (.int .i64 (0)) := rr.cell (i := 0) (by omega)
      have r1 : wr.cell? ⟨rb, 1, none⟩ = some (.int .i64 (0)) := rr.cell (i := 1) (by omega)
      have r2 : wr.cell? ⟨rb, 2, none⟩ = some (.slice none 0 0) := rr.cell (i := 2) (by omega)
      have f0 := rr.frozen 0; have f1 := rr.frozen 1; have f2 := rr.frozen 2
      have HT1 := Lib.hid hT1
      have HG1 := Lib.hid hg1
      have HX9 := Lib.hid hx9
      have hxs := hx9.size
      clear hr9 ho9 hx9 rr hlo hT1 hg1 HFB HO3 HRR
      go_wp2
      refine bodyPost_ret (v := .tuple #[.agg #[.int .i64 (W), .int .i64 (H), .slice a3 n c3], .int .i64 (0)]) (by simp [results, Try.results55, go_sem, r0, r1, r2]) rfl ⟨a3, c3, rfl, ?_, ?_⟩
      · exact ((((BelowX.refl (base := wr.heap.size) (mb := rb) (Nat.le_refl _)).set 0 _).set 1 _).set 2 _).okT HT1.out rfl fun b o e => by have := HG1.out b o e; omega
      · exact (((hB0.out HX9.out).setCell (by simp; have := HQW.out; omega) _).setCell (by simp; have := HQW.out; omega) _).setCell (by simp; have := HQW.out; omega) _
end Go.Proofs.Ytkffljkgblcgdaa
