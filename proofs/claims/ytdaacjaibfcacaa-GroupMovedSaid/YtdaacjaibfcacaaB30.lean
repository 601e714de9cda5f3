/- Lemmas and contracts of functions (what each call returns, and that it changes nothing that was there) that the proof of a law of this seat uses; each lemma states its own conditions. -/
import Derived.Test.YtdaacjaibfcacaaB29
namespace Go.Proofs.Ytdaacjaibfcacaa
open Go.RowKit
set_option linter.unusedVariables false
set_option linter.unusedSimpArgs false
open Z (torN place pnt Mv To lin okT nrm keepB colP idm md redM)
theorem alive_len : (Z.movesL 1 1 [0] 4 1).length = 8 := by decide +kernel
set_option maxRecDepth 100000 in
set_option maxHeartbeats 8000000 in
theorem alive3_any (w : World) : Calls Try.prog 26 #[] w fun e w' => e = .returned (.bool true) ∧ Below w.heap.size w w' := by
  have hC : ChOk 4 1 1 1 [0] := ⟨.inl rfl, by omega, by omega, by omega, by omega, rfl, by intro x hx; simp at hx; subst hx; omega⟩
  have HK : Hid (∀ a w, IsInts w a 1 [0] → Calls Try.prog 27 #[.agg #[.int .i64 (4), .int .i64 (1), .int .i64 (1), .slice a 1 1]] w (MvPost (Z.movesL 1 1 [0] 4 1) 0 w)) := Lib.hid fun a w h => Moves_ok 4 1 1 1 1 a 1 [0] w h hC (by decide +kernel) (by omega) (by omega)
  have HOK : Hid (IsInts (w.alloc (.cells #[.int .i64 (0)] 3)) (some ⟨w.heap.size, 0, none⟩) 1 [0]) := Lib.hid ⟨rfl, fun _ => ⟨_, 0, rfl, by simp, fun j hj => by
    obtain rfl : j = 0 := by omega
    simp⟩⟩
  clear hC
  have hl := alive_len
  generalize Z.movesL 1 1 [0] 4 1 = L at *
  go_enter Try.func26, Try.ntmps26
  go_wp2_with fail
  refine (HK.out _ _ HOK.out).mono ?_
  rintro r w1 ⟨⟨A, C, rfl, hM⟩, hb⟩
  rw [hl]
  have HB : Hid (Below w.heap.size w w1) := Lib.hid (Below.trans (by repeat (first | exact Below.refl _ _ | refine Below.drew ?_ | refine below_drewN ?_ _ | refine Below.alloc ?_ (by first | exact Nat.le_refl _ | (simp; done) | (simp; omega) | omega) _ | refine Below.setCell ?_ (by first | exact Nat.le_refl _ | (simp; done) | (simp; omega) | omega) _ | refine bExtW ?_ (by first | exact Nat.le_refl _ | (simp; done) | (simp; omega) | omega) | refine Below.trans ?_ (Below.mono (by assumption) (by first | exact Nat.le_refl _ | (simp; done) | (simp; omega) | omega)))) (hb.mono (by first | exact Nat.le_refl _ | (simp; done) | (simp; omega) | omega)))
  clear hM hb hl
  go_wp2
  go_ret
  exact ⟨rfl, HB.out⟩
set_option maxRecDepth 100000 in
set_option maxHeartbeats 8000000 in
theorem On_ok (n : Nat) (x y : Int) (w : World) (hn : 0 < n) (h24 : n ≤ 64) (hx : (-9223372036854775808 ≤ x ∧ x ≤ 9223372036854775807)) (hy : (-9223372036854775808 ≤ y ∧ y ≤ 9223372036854775807)) :
    Calls Try.prog 30 #[.int .i64 (n), .agg #[.int .i64 (x), .int .i64 (y)]] w fun e w' => e = .returned (.agg #[.int .i64 (x % (n : Int)), .int .i64 (y % (n : Int))]) ∧ Below w.heap.size w w' := by
  have HX := Lib.hid (fun w => Rest_ok x n w hn h24 hx)
  have HY := Lib.hid (fun w => Rest_ok y n w hn h24 hy)
  generalize x % (n : Int) = p at *
  generalize y % (n : Int) = q at *
  clear hx hy hn
  go_enter Try.func30, Try.ntmps30
  go_wp2_with fail
  (refine wp_region_ext_tail 8 (by kernel_rfl) (by kernel_rfl) ?_; simp only [List.take_succ_cons, List.take_zero, List.drop_succ_cons, List.drop_zero]; (repeat (first | ((with_reducible refine ext_step (fun K hK => ?_)); go_simp; first | (refine hK _ ?_; clear hK K) | (apply Exists.intro; refine ⟨fun _ _ => ?_, hK _ ?_⟩; (go_at_call 79; first | (with_reducible exact extOf (HX.out _)) | (with_reducible exact extOf (HY.out _))); clear hK K)))); refine wpQuiet_nil ?_; intro E d)
  go_wp2
  refine bodyPost_ret (v := .agg #[.int .i64 (p), .int .i64 (q)]) (by simp [results, Try.results30, go_sem]) rfl ⟨rfl, (by repeat (first | exact Below.refl _ _ | refine Below.drew ?_ | refine below_drewN ?_ _ | refine Below.alloc ?_ (by first | exact Nat.le_refl _ | (simp; done) | (simp; omega) | omega) _ | refine Below.setCell ?_ (by first | exact Nat.le_refl _ | (simp; done) | (simp; omega) | omega) _ | refine bExtW ?_ (by first | exact Nat.le_refl _ | (simp; done) | (simp; omega) | omega) | refine Below.trans ?_ (Below.mono (by assumption) (by first | exact Nat.le_refl _ | (simp; done) | (simp; omega) | omega))))⟩
/-- Is it among them? -/
def hasB (L : List Mv) (m : Mv) : Bool := decide (m ∈ L)
set_option maxRecDepth 100000 in
set_option maxHeartbeats 8000000 in
theorem has_ok (L : List Mv) (k n t : Nat) (f : Bool) (ox oy : Int) (a : Option Addr) (c : Nat) (w : World) (hL : IsMoves w a k L) (hk : k ≤ 100000000) (hn : 0 < n) (h24 : n ≤ 64) (hx : (-9223372036854775808 ≤ ox ∧ ox ≤ 9223372036854775807)) (hy : (-9223372036854775808 ≤ oy ∧ oy ≤ 9223372036854775807)) :
    Calls Try.prog 34 #[.slice a k c, .int .i64 (n), .agg #[.int .i64 (t), .bool (f), .int .i64 (ox), .int .i64 (oy)]] w fun e w' => e = .returned (.bool (hasB L (redM n ⟨t, f, (ox, oy)⟩))) ∧ Below w.heap.size w w' := by
  have HON := Lib.hid (fun w => On_ok n ox oy w hn h24 hx hy)
  have hred : redM n ⟨t, f, (ox, oy)⟩ = ⟨t, f, (ox % (n : Int), oy % (n : Int))⟩ := rfl
  rw [hred]
  generalize ox % (n : Int) = p at *
  generalize oy % (n : Int) = q at *
  have HT : Hid ((⟨t, f, (p, q)⟩ : Mv) ∈ L → hasB L ⟨t, f, (p, q)⟩ = true) := Lib.hid fun h => decide_eq_true h
  have HF : Hid ((∀ j, j < k → L.getD j idm ≠ (⟨t, f, (p, q)⟩ : Mv)) → hasB L ⟨t, f, (p, q)⟩ = false) := Lib.hid fun h => decide_eq_false (fun hm => by
    obtain ⟨j, hj, e⟩ := List.mem_iff_getElem.1 hm
    refine h j (by rw [← hL.1]; exact hj) ?_
    rw [List.getD_eq_getElem?_getD, List.getElem?_eq_getElem hj, ← e]; rfl)
  have HM : Hid (∀ j, j < k → L.getD j idm ∈ L) := Lib.hid fun j hj => by
    have hjl : j < L.length := by rw [hL.1]; exact hj
    rw [List.getD_eq_getElem?_getD, List.getElem?_eq_getElem hjl]
    exact List.getElem_mem hjl
  have HL := Lib.hid hL
  generalize hasB L ⟨t, f, (p, q)⟩ = hb at *
  clear hL hred hx hy hn
  go_enter Try.func34, Try.ntmps34
  (go_wp2_with fail; refine (HON.out _).mono ?_; rintro r w1 ⟨rfl, hb⟩; obtain ⟨E, d, rfl⟩ := bExt hb; clear hb)
  go_wp2_with fail
  go_loopw [16] (fun iv wr => ∃ (j : Nat) (E : Array Obj) (d : Nat), j ≤ k ∧ iv = .int .i64 j ∧ Hid (∀ i, i < j → L.getD i idm ≠ (⟨t, f, (p, q)⟩ : Mv)) ∧ wr = extW (w.alloc (.cells #[.int .i64 t, .bool f, .int .i64 p, .int .i64 q] 53)) E d) (fun iv _ => k - (intOf iv).toNat)
  case atStart => exact ⟨0, E, d, by omega, rfl, Lib.hid fun i h => absurd h (by omega), rfl⟩
  case round =>
    obtain ⟨j, E1, d1, hj, rfl, HN, rfl⟩ := hrel
    by_cases hjk : j < k
    · have dj : decide ((j : Int) < (k : Int)) = true := by simpa using hjk
      have vj : IntKind.i64.wrap ((j : Int) + 1) = (j : Int) + 1 := IntWalk.i64_in _ (by omega)
      obtain ⟨b, o, rfl, hb, hc⟩ := HL.out.2 (by omega)
      obtain ⟨c0, c1, c2, c3⟩ := hc j hjk
      have lb : LtW b w := hb
      have HMj := Lib.hid (HM.out j hjk)
      obtain ⟨m, hm⟩ : ∃ m, L.getD j idm = m := ⟨_, rfl⟩
      rw [hm] at c0 c1 c2 c3 HMj
      have HMM := Lib.hid hm
      clear hb hc hm
      obtain ⟨t', f', x', y'⟩ := m
      simp only at c0 c1 c2 c3
      by_cases hall : t' = t ∧ f' = f ∧ x' = p ∧ y' = q
      · obtain ⟨rfl, rfl, rfl, rfl⟩ := hall
        have HV := Lib.hid (HT.out HMj.out)
        clear HT HF HM
        go_wp2
        go_ret
        exact ⟨by rw [HV.out]; rfl, (by repeat (first | exact Below.refl _ _ | refine Below.drew ?_ | refine below_drewN ?_ _ | refine Below.alloc ?_ (by first | exact Nat.le_refl _ | (simp; done) | (simp; omega) | omega) _ | refine Below.setCell ?_ (by first | exact Nat.le_refl _ | (simp; done) | (simp; omega) | omega) _ | refine bExtW ?_ (by first | exact Nat.le_refl _ | (simp; done) | (simp; omega) | omega) | refine Below.trans ?_ (Below.mono (by assumption) (by first | exact Nat.le_refl _ | (simp; done) | (simp; omega) | omega))))⟩
      · have HNE : Hid ((⟨t', f', (x', y')⟩ : Mv) ≠ ⟨t, f, (p, q)⟩) := Lib.hid (by
          intro e
          injection e with e1 e2 e3
          injection e3 with e3 e4
          exact hall ⟨e1, e2, e3, e4⟩)
        have hcase : ((((t' : Int) == (t : Int)) = false) ∨ ((((t' : Int) == (t : Int)) = true) ∧ (f' == f) = false) ∨ ((((t' : Int) == (t : Int)) = true) ∧ (f' == f) = true ∧ (x' == p) = false) ∨ ((((t' : Int) == (t : Int)) = true) ∧ (f' == f) = true ∧ (x' == p) = true ∧ (y' == q) = false)) := by
          by_cases e1 : t' = t
          · by_cases e2 : f' = f
            · by_cases e3 : x' = p
              · by_cases e4 : y' = q
                · exact absurd ⟨e1, e2, e3, e4⟩ hall
                · exact .inr (.inr (.inr ⟨by simp [e1], by simpa using e2, by simpa using e3, by simpa using e4⟩))
              · exact .inr (.inr (.inl ⟨by simp [e1], by simpa using e2, by simpa using e3⟩))
            · exact .inr (.inl ⟨by simp [e1], by simpa using e2⟩)
          · exact .inl (by simp; omega)
        clear hall HT HF HM
        have HN2 : Hid (∀ i, i < j + 1 → L.getD i idm ≠ (⟨t, f, (p, q)⟩ : Mv)) := Lib.hid fun i hi => by
          by_cases e : i = j
          · subst e; rw [HMM.out]; exact HNE.out
          · exact HN.out i (by omega)
        clear HNE HMM HMj HN
        rcases hcase with e1 | ⟨e1, e2⟩ | ⟨e1, e2, e3⟩ | ⟨e1, e2, e3, e4⟩
        all_goals
          go_wp2
          go_roundw
          case rel => exact ⟨j + 1, _, _, by omega, by go_num, HN2, by simp only [alloc_extW, extW_extW]; rfl⟩
          case measure => simp [intOf]; omega
    · obtain rfl : j = k := by omega
      have dj : decide ((j : Int) < (j : Int)) = false := by simp
      have HV := Lib.hid (HF.out HN.out)
      clear HT HF HM
      go_wp2
      go_ret
      exact ⟨by rw [HV.out]; rfl, (by repeat (first | exact Below.refl _ _ | refine Below.drew ?_ | refine below_drewN ?_ _ | refine Below.alloc ?_ (by first | exact Nat.le_refl _ | (simp; done) | (simp; omega) | omega) _ | refine Below.setCell ?_ (by first | exact Nat.le_refl _ | (simp; done) | (simp; omega) | omega) _ | refine bExtW ?_ (by first | exact Nat.le_refl _ | (simp; done) | (simp; omega) | omega) | refine Below.trans ?_ (Below.mono (by assumption) (by first | exact Nat.le_refl _ | (simp; done) | (simp; omega) | omega))))⟩
end Go.Proofs.Ytdaacjaibfcacaa
