/- Lemmas and contracts of functions (what each call returns, and that it changes nothing that was there) that the proof of a law of this seat uses; each lemma states its own conditions. -/
import Derived.Test.YtikddfjickkhhaaMl1
namespace Go.Proofs.Ytikddfjickkhhaa
open Go.RowKit
set_option linter.unusedVariables false
set_option linter.unusedSimpArgs false
open Lo Tw
def satF (n k p : Nat) : Bool := decide (p % n = p / n * k % n)
theorem satF_at {n k x y : Nat} (hx : x < n) : satF n k (y * n + x) = decide (x = y * k % n) := by unfold satF; rw [dm1 hx, dm2 hx]
set_option maxRecDepth 100000 in
set_option maxHeartbeats 8000000 in
theorem rSatin_bad (n move : Int) (w : World) (h0 : (-9223372036854775808 ≤ n ∧ n ≤ 9223372036854775807)) (h : n < 1 ∨ 64 < n) :
    Calls Try.prog 36 #[.int .i64 (n), .int .i64 (move)] w fun e w' => e = .returned (.tuple #[.agg #[.int .i64 0, .int .i64 0, .slice none 0 0], .int .i64 (3)]) ∧ Below w.heap.size w w' := by
  rcases h with h | h
  · go_enter Try.func36, Try.ntmps36
    go_wp2
    refine bodyPost_ret (v := .tuple #[.agg #[.int .i64 0, .int .i64 0, .slice none 0 0], .int .i64 (3)]) (by simp [results, Try.results36, go_sem]) rfl ⟨rfl, (by repeat (first | exact Below.refl _ _ | refine Below.drew ?_ | refine below_drewN ?_ _ | refine Below.alloc ?_ (by first | exact Nat.le_refl _ | (simp; done) | (simp; omega) | omega) _ | refine Below.setCell ?_ (by first | exact Nat.le_refl _ | (simp; done) | (simp; omega) | omega) _ | refine bExtW ?_ (by first | exact Nat.le_refl _ | (simp; done) | (simp; omega) | omega) | refine Below.trans ?_ (Below.mono (by assumption) (by first | exact Nat.le_refl _ | (simp; done) | (simp; omega) | omega))))⟩
  · have h' : ¬ n < 1 := by omega
    go_enter Try.func36, Try.ntmps36
    go_wp2
    refine bodyPost_ret (v := .tuple #[.agg #[.int .i64 0, .int .i64 0, .slice none 0 0], .int .i64 (3)]) (by simp [results, Try.results36, go_sem]) rfl ⟨rfl, (by repeat (first | exact Below.refl _ _ | refine Below.drew ?_ | refine below_drewN ?_ _ | refine Below.alloc ?_ (by first | exact Nat.le_refl _ | (simp; done) | (simp; omega) | omega) _ | refine Below.setCell ?_ (by first | exact Nat.le_refl _ | (simp; done) | (simp; omega) | omega) _ | refine bExtW ?_ (by first | exact Nat.le_refl _ | (simp; done) | (simp; omega) | omega) | refine Below.trans ?_ (Below.mono (by assumption) (by first | exact Nat.le_refl _ | (simp; done) | (simp; omega) | omega))))⟩
set_option maxRecDepth 100000 in
set_option maxHeartbeats 8000000 in
theorem rSatin_ok (n k : Nat) (w : World) (h1 : 1 ≤ n) (h2 : n ≤ 64) (hk : mvOk n k) :
    Calls Try.prog 36 #[.int .i64 (n), .int .i64 (k)] w fun r w' => ∃ A c, r = .returned (.tuple #[.agg #[.int .i64 (n), .int .i64 (n), .slice A (n * n) c], .int .i64 (0)]) ∧ IsBools w' A (n * n) (satL n k) ∧ Below w.heap.size w w' := by
  obtain ⟨hk2, hkn, hg⟩ := hk
  have HAL := Lib.hid (fun w => Alone_ok k n w (by omega) (by omega) (by omega))
  rw [decide_eq_true (show Nat.gcd k n = 1 by rw [Nat.gcd_comm]; exact hg)] at HAL
  obtain ⟨N, hN⟩ : ∃ N, n * n = N := ⟨_, rfl⟩
  have hN4 : N ≤ 4096 := by rw [← hN]; exact mul64n h2 h2
  have HN := Lib.hid hN
  rw [hN]
  have t1 : ¬ (k : Int) < 2 := by omega
  have t2 : ¬ ((n : Int) - 2 < (k : Int)) := by omega
  clear hg hN
  go_enter Try.func36, Try.ntmps36
  go_wp2_with fail
  refine (HAL.out _).mono ?_
  rintro r w1 ⟨rfl, hb⟩
  obtain ⟨E1, d1, rfl⟩ := bExt hb
  clear hb
  go_wp2_with fail
  have hA2 := tF_alloc w 0 0 (.slice none 0 0) rfl
  have hbC : Below (w.heap.size + 1) (w.alloc (.cells #[.int .i64 (0), .int .i64 (0), .slice none 0 0] 26)) (extW (w.alloc (.cells #[.int .i64 (0), .int .i64 (0), .slice none 0 0] 26)) E1 d1) := (by repeat (first | exact Below.refl _ _ | refine Below.drew ?_ | refine below_drewN ?_ _ | refine Below.alloc ?_ (by first | exact Nat.le_refl _ | (simp; done) | (simp; omega) | omega) _ | refine Below.setCell ?_ (by first | exact Nat.le_refl _ | (simp; done) | (simp; omega) | omega) _ | refine bExtW ?_ (by first | exact Nat.le_refl _ | (simp; done) | (simp; omega) | omega) | refine Below.trans ?_ (Below.mono (by assumption) (by first | exact Nat.le_refl _ | (simp; done) | (simp; omega) | omega))))
  have hbw0 : Below w.heap.size w (extW (w.alloc (.cells #[.int .i64 (0), .int .i64 (0), .slice none 0 0] 26)) E1 d1) := (by repeat (first | exact Below.refl _ _ | refine Below.drew ?_ | refine below_drewN ?_ _ | refine Below.alloc ?_ (by first | exact Nat.le_refl _ | (simp; done) | (simp; omega) | omega) _ | refine Below.setCell ?_ (by first | exact Nat.le_refl _ | (simp; done) | (simp; omega) | omega) _ | refine bExtW ?_ (by first | exact Nat.le_refl _ | (simp; done) | (simp; omega) | omega) | refine Below.trans ?_ (Below.mono (by assumption) (by first | exact Nat.le_refl _ | (simp; done) | (simp; omega) | omega))))
  have hC2 := rowBelow hA2 hbC (by omega)
  have hszE : (extW (w.alloc (.cells #[.int .i64 (0), .int .i64 (0), .slice none 0 0] 26)) E1 d1).heap.size = w.heap.size + 1 + E1.size := by simp
  generalize extW (w.alloc (.cells #[.int .i64 (0), .int .i64 (0), .slice none 0 0] 26)) E1 d1 = WC at *
  have hW3r := hC2.alloc (.cells #[.int .i64 (n), .int .i64 (n), .slice none 0 0] 26)
  have hW3o := tF_alloc WC n n (.slice none 0 0) rfl
  have hW3b : Below w.heap.size w (WC.alloc (.cells #[.int .i64 (n), .int .i64 (n), .slice none 0 0] 26)) := hbw0.alloc hbw0.size _
  have hsz3 : (WC.alloc (.cells #[.int .i64 (n), .int .i64 (n), .slice none 0 0] 26)).heap.size = WC.heap.size + 1 := by simp
  generalize WC.alloc (.cells #[.int .i64 (n), .int .i64 (n), .slice none 0 0] 26) = W3 at *
  rw [hszE] at hW3o hsz3
  obtain ⟨ob, ho⟩ : ∃ ob, w.heap.size + 1 + E1.size = ob := ⟨_, rfl⟩
  obtain ⟨rb, hrb⟩ : ∃ rb, rb = w.heap.size := ⟨_, rfl⟩
  rw [ho] at hW3o hsz3 ⊢
  rw [← hrb] at hW3b hW3r ⊢
  obtain ⟨base, hbase⟩ : ∃ b, b = W3.heap.size := ⟨_, rfl⟩
  have hmbb : ob < base := by omega
  have hro : rb < ob := by omega
  have HRR := Lib.hid hW3r
  have HO3 := Lib.hid hW3o
  have HBS := Lib.hid hbase
  have HQW := Lib.hid hrb
  have hB0 : Hid (∀ {w' : World}, BelowX base ob W3 w' → Below w.heap.size w w') := Lib.hid fun h => by
    have h1 := hW3b
    rw [HQW.out] at h1
    exact h1.trans ((h.below HBS.out.symm (Nat.le_refl _) (by omega)).mono (by have := HQW.out; omega))
  clear hW3o hW3r hW3b hsz3 hbase hA2 hbC hbw0 ho hszE hrb hC2
  go_loopw [7] (fun i wr => ∃ (y : Nat) (v : Value), y ≤ n ∧ i = .int .i64 y ∧ FB base ob n n (bT (satF n k) (y * n)) W3 v wr) (fun i _ => n - (intOf i).toNat)
  case atStart => exact ⟨0, _, Nat.zero_le _, rfl, by rw [Nat.zero_mul]; exact FB.start HO3.out HBS.out⟩
  case round =>
    obtain ⟨y, v, hy, rfl, hfb⟩ := hrel
    have HFB := Lib.hid hfb
    clear hfb
    by_cases hyn : y < n
    · go_wp2_with fail
      go_loopw [8] (fun i wr => ∃ (x : Nat) (v : Value), x ≤ n ∧ i = .int .i64 x ∧ FB base ob n n (bT (satF n k) (y * n + x)) W3 v wr) (fun i _ => n - (intOf i).toNat)
      case atStart => exact ⟨0, v, Nat.zero_le _, rfl, HFB.out⟩
      case round =>
        clear HFB
        obtain ⟨x, v, hx, rfl, hfb⟩ := hrel
        have hfb2 := Lib.hid hfb
        clear hfb
        by_cases hxn : x < n
        · obtain ⟨M, hM⟩ : ∃ M, y * k = M := ⟨_, rfl⟩
          have hmul : (y : Int) * (k : Int) = (M : Int) := by rw [← Int.natCast_mul, hM]
          have hM4 : M ≤ 4096 := by rw [← hM]; exact mul64n (show y ≤ 64 by omega) (show k ≤ 64 by omega)
          obtain ⟨r, hr⟩ : ∃ r, M % n = r := ⟨_, rfl⟩
          have hrn : r < n := by rw [← hr]; exact Nat.mod_lt _ (by omega)
          have hrem : (M : Int).tmod (n : Int) = (r : Int) := by rw [← hr]; rfl
          obtain ⟨bit, hbit⟩ : ∃ b, ((x : Int) == (r : Int)) = b := ⟨_, rfl⟩
          obtain ⟨hr0, ho0, hx0⟩ := hfb2.out
          obtain ⟨P, hP⟩ : ∃ P, y * n + x = P := ⟨_, rfl⟩
          have hPn : P < N := by rw [← hP, ← HN.out]; exact place_lt' hxn hyn
          have HBT := Lib.hid (bT_succ (satF n k) P)
          rw [show satF n k P = bit by
            rw [← hP, satF_at hxn, hM, hr, ← hbit]
            by_cases e : x = r
            · simp [e]
            · rw [decide_eq_false e]; symm; simp; omega] at HBT
          rw [bT_len, hP] at ho0
          have HP := Lib.hid hP
          have cM : wr.cell? ⟨ob, 2, none⟩ = some v := hr0.cell (i := 2) (by omega)
          have fM := hr0.frozen 2
          have lm : LtW ob wr := hr0.lt
          have HO := Lib.hid ho0
          have HX := Lib.hid hx0
          have HR := Lib.hid hr0
          have hxs := hx0.size
          have v1 : IntKind.i64.wrap (M : Int) = (M : Int) := IntWalk.i64_in _ (by omega)
          have v4 : IntKind.i64.wrap (r : Int) = (r : Int) := IntWalk.i64_in _ (by omega)
          have hN0 : ((n : Int) == 0) = false := by simp; omega
          have hN1 : (n : Int) ≠ 0 := by omega
          have hN3 : ¬ n = 0 := by omega
          clear hr0 ho0 hx0 hfb2 hP hM hr
          generalize bT (satF n k) P = L at *
          go_wp2_with fail
          (refine wp_region_ext_build 9 _ mkOne (.cells #[.bool (bit)] 4) (by kernel_rfl) (by kernel_rfl) rfl rfl ?_; simp only [List.take_succ_cons, List.take_zero, List.drop_succ_cons, List.drop_zero]; (repeat (first | ((with_reducible refine wpV_step (fun K hK => ?_)); go_simp; first | (refine hK _ ?_; clear hK K) | (apply Exists.intro; refine ⟨fun _ _ => ?_, hK _ ?_⟩; fail; clear hK K)))); refine wpV_nil ?_; refine ⟨fun W => by go_simp; rfl, fun E d E' d' => ?_⟩)
          have hbE := built_below wr E d (.cells #[.bool (bit)] 4) E' d'
          have HCS := Lib.hid (built_cell wr E d #[.bool (bit)] 4 E' d')
          have cME := bCs hbE cM
          have fME := (hbE.frozen (p := ⟨ob, 2, none⟩) (show ob < wr.heap.size from lm)).trans fM
          have HOE := Lib.hid (ownBelow HO.out hbE)
          have hgE := Nat.le_trans HX.out.size hbE.size
          have HBE := Lib.hid hbE
          clear hbE cM fM
          generalize extW ((extW wr E d).alloc (.cells #[.bool (bit)] 4)) E' d' = WE at *
          generalize (extW wr E d).heap.size = BB at *
          go_wp2_with (at_builtin; refine wpAppB okBools rfl (.tmp 45) (.tmp 53) rfl base _ _ _ #[.bool (bit)] BB rfl HOE.out rfl HCS.out rfl ?_ (by omega) (by omega) (by omega) ?_)
          · simp [Value.oneCell']
          intro v' w2 hown2 hb2
          obtain ⟨A', cp', rfl⟩ := own_form hown2
          have cM2 : w2.cell? ⟨ob, 2, none⟩ = some v := (hb2.cell (p := ⟨ob, 2, none⟩) (by simp; omega)).trans cME
          have fM2 : w2.frozen? ⟨ob, 2, none⟩ = false := (hb2.frozen (p := ⟨ob, 2, none⟩) (by simp; omega)).trans fME
          have HNW := Lib.hid (FB.app HR.out HX.out HBE.out (by omega) hown2 hb2)
          clear hown2 hb2 cME fME
          go_wp2
          go_roundw
          case rel => exact ⟨x + 1, _, by omega, by go_num, by rw [show y * n + (x + 1) = P + 1 by have := HP.out; omega, HBT.out]; exact HNW.out⟩
          case measure => simp [intOf]; omega
        · obtain rfl : n = x := by omega
          go_wp2
          go_roundw
          case rel => exact ⟨y + 1, v, by omega, by go_num, by rw [Nat.add_mul, Nat.one_mul]; exact hfb2.out⟩
          case measure => simp [intOf]; omega
    · obtain rfl : n = y := by omega
      obtain ⟨hr9, ho9, hx9⟩ := HFB.out
      rw [show bT (satF n k) (n * n) = satL n k from rfl] at ho9
      have hlo : (satL n k).length = N := by rw [← HN.out]; simp [satL]
      obtain ⟨a1, c1, rfl, hT1, hg1⟩ := OkT.of_owns ho9
      rw [hlo] at hr9 hT1
      have o0 : wr.cell? ⟨ob, 0, none⟩ = some (.int .i64 (n)) := hr9.cell (i := 0) (by omega)
      have o1 : wr.cell? ⟨ob, 1, none⟩ = some (.int .i64 (n)) := hr9.cell (i := 1) (by omega)
      have o2 : wr.cell? ⟨ob, 2, none⟩ = some (.slice a1 N c1) := hr9.cell (i := 2) (by omega)
      have rr := hx9.rowIs HRR.out (by omega) (by omega)
      have r0 : wr.cell? ⟨rb, 0, none⟩ = some (.int .i64 (0)) := rr.cell (i := 0) (by omega)
      have r1 : wr.cell? ⟨rb, 1, none⟩ = some (.int .i64 (0)) := rr.cell (i := 1) (by omega)
      have r2 : wr.cell? ⟨rb, 2, none⟩ = some (.slice none 0 0) := rr.cell (i := 2) (by omega)
      have f0 := rr.frozen 0; have f1 := rr.frozen 1; have f2 := rr.frozen 2
      have HT1 := Lib.hid hT1
      have HG1 := Lib.hid hg1
      have HX9 := Lib.hid hx9
      have hxs := hx9.size
      clear hr9 ho9 hx9 rr hlo hT1 hg1 HFB HO3 HRR
      go_wp2
      refine bodyPost_ret (v := .tuple #[.agg #[.int .i64 (n), .int .i64 (n), .slice a1 N c1], .int .i64 (0)]) (by simp [results, Try.results36, go_sem, r0, r1, r2]) rfl ⟨a1, c1, rfl, ?_, ?_⟩
      · exact (((((BelowX.refl (base := wr.heap.size) (mb := rb) (Nat.le_refl _)).set 0 _).set 1 _).set 2 _).okT HT1.out rfl fun b o e => by have := HG1.out b o e; omega).bits
      · exact (((hB0.out HX9.out).setCell (by simp; have := HQW.out; omega) _).setCell (by simp; have := HQW.out; omega) _).setCell (by simp; have := HQW.out; omega) _
end Go.Proofs.Ytikddfjickkhhaa
