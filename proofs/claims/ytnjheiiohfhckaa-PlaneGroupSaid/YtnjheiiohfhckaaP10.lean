/- Lemmas and contracts of functions (what each call returns, and that it changes nothing that was there) that the proof of a law of this seat uses; each lemma states its own conditions. -/
import Derived.Test.YtnjheiiohfhckaaP9
namespace Go.Proofs.Ytnjheiiohfhckaa
open Go.RowKit
set_option linter.unusedVariables false
set_option linter.unusedSimpArgs false
open Z (IsGcd Normal nrm Mv To lin mir okT idm both bothT inv invT neg)
theorem btZ4 : ∀ (a b : Fin 4), ((a.val + b.val) % 4 = 0 ↔ a.val = (4 - b.val) % 4) ∧ ((a.val + (4 - b.val)) % 4 = 0 ↔ a.val = b.val) := by decide +kernel
theorem btZ6 : ∀ (a b : Fin 6), ((a.val + b.val) % 6 = 0 ↔ a.val = (6 - b.val) % 6) ∧ ((a.val + (6 - b.val)) % 6 = 0 ↔ a.val = b.val) := by decide +kernel
theorem bothT_zero {g : Int} (hg : Z.G g) {f : Mv} (hf : okT g f) {i : Nat} (hi : i < g.toNat) (o : Z.Pt) : bothT g ⟨i,f.f,o⟩ f = 0 ↔ i = invT g f := by
  unfold okT at hf
  rcases hg with rfl | rfl
  · have h := btZ4 ⟨i, hi⟩ ⟨f.t, hf⟩
    unfold bothT invT
    cases f.f
    · exact h.1
    · exact h.2
  · have h := btZ6 ⟨i, hi⟩ ⟨f.t, hf⟩
    unfold bothT invT
    cases f.f
    · exact h.1
    · exact h.2
theorem invT_lt {g : Int} (hg : Z.G g) {f : Mv} (hf : okT g f) : invT g f < g.toNat := Z.inv_ok hg hf
theorem rneg_any (x y : Int) (w : World) (h1 : -1000000000000 ≤ x ∧ x ≤ 1000000000000) (h2 : -1000000000000 ≤ y ∧ y ≤ 1000000000000) :
    Calls Try.prog 40 #[.int .i64 (-1), .agg #[.int .i64 (x), .int .i64 (y)]] w fun e w' => e = .returned (.agg #[.int .i64 (-x), .int .i64 (-y)]) ∧ Below w.heap.size w w' := by
  have h := rscaled_any (-1) x y w (by omega) (by omega)
  simpa only [Int.neg_mul, Int.one_mul] using h
theorem nrm_neg {g : Int} (hg : Z.G g) (p : Z.Pt) : nrm g (neg p) = nrm g p := by
  rcases hg with rfl | rfl
  · simp only [Z.nrm4, neg]; grind
  · simp only [Z.nrm6, neg]; grind
def rinW (w : World) (g t x y : Int) (f : Bool) : World := (w.alloc (.cells #[.int .i64 (t), .bool f, .int .i64 (x), .int .i64 (y)] 41)).alloc (.cells #[.int .i64 (0), .bool false, .int .i64 (0), .int .i64 (0)] 41)
set_option maxRecDepth 100000 in
set_option maxHeartbeats 8000000 in
theorem rInverse_any (g t x y : Int) (ff : Bool) (w : World) (hw : (-9223372036854775808 ≤ g ∧ g ≤ 9223372036854775807)) (ht : (-9223372036854775808 ≤ t ∧ t ≤ 9223372036854775807)) (h0 : (-9223372036854775808 ≤ x ∧ x ≤ 9223372036854775807)) (h1 : (-9223372036854775808 ≤ y ∧ y ≤ 9223372036854775807)) :
    Calls Try.prog 27 #[.int .i64 (g), .agg #[.int .i64 (t), .bool (ff), .int .i64 (x), .int .i64 (y)]] w fun e w' => e = .returned (inV g t ff x y) ∧ Below w.heap.size w w' := by
  have HWF := Lib.hid (rWrong_any g t x y ff)
  by_cases he : wE g t x y = 0
  · obtain ⟨hg, hs, n, rfl, hn⟩ := wE_zero he
    have nf := nrm_sm hg hs
    have hgl : g ≤ 6 := by omega
    have hok : okT g ⟨n,ff,(x,y)⟩ := hn
    have hil := invT_lt hg hok
    have HZ := Lib.hid (fun (i : Nat) (hi : i < g.toNat) (o : Z.Pt) => bothT_zero hg hok hi o)
    have HI := Lib.hid (Z.both_inv hg hok).1
    have HV : Hid (inV g n ff x y = if smB (inv g ⟨n,ff,(x,y)⟩).o.1 (inv g ⟨n,ff,(x,y)⟩).o.2 = false then .tuple #[.agg #[.int .i64 (0), .bool (false), .int .i64 (0), .int .i64 (0)], .int .i64 (4)] else .tuple #[mvV (inv g ⟨n,ff,(x,y)⟩), .int .i64 (0)]) := Lib.hid (by simp [inV, he])
    have hinv : inv g ⟨n,ff,(x,y)⟩ = ⟨invT g ⟨n,ff,(x,y)⟩, ff, neg (lin g (invT g ⟨n,ff,(x,y)⟩) ff (x,y))⟩ := rfl
    have HIN := Lib.hid hinv
    have HE := Lib.hid he
    have HOK := Lib.hid hok
    have HN : Hid (nrm g (x,y) ≤ 200000000000000000) := Lib.hid (by omega)
    generalize hT : invT g ⟨n,ff,(x,y)⟩ = T at *
    have HT := Lib.hid hT
    clear he hinv hok hT
    go_enter Try.func27, Try.ntmps27
    (go_wp2_with fail; refine (HWF.out _ hw ht h0 h1).mono ?_; rintro r w1 ⟨rfl, hb⟩; obtain ⟨E, d, rfl⟩ := bExt hb; clear hb)
    rw [HE.out]
    go_wp2_with fail
    go_loopw [7] (fun i wr => ∃ (k : Nat) (E : Array Obj) (d : Nat), i = .int .i64 k ∧ k ≤ T ∧ wr = extW (rinW w g n x y ff) E d) (fun i _ => 10 - (intOf i).toNat)
    case atStart => exact ⟨0, _, _, rfl, Nat.zero_le _, rfl⟩
    case round =>
      obtain ⟨k, E, d, rfl, hk, rfl⟩ := hrel
      unfold rinW
      have hlt : (k : Int) < g := by omega
      obtain ⟨px, py, hp⟩ := pt_ex (lin g k ff (x,y))
      have nl := Z.nrm_lin hg k ff (x,y)
      rw [hp] at nl
      have bo := parts_of hg (p := (px,py)) (by omega)
      simp only at bo
      have HP : Hid (To g ⟨k,ff,(0,0)⟩ (x,y) = (px,py)) := Lib.hid (by rw [To_o0]; exact hp)
      have hnn := nrm_neg hg (px,py)
      have hb2 := rThen_any g (-px) (-py) x y k n ff ff
      have hbz := HZ.out k (by omega) (-px,-py)
      have HBN : Hid (nrm g (-px,-py) ≤ 10000000000000000) := Lib.hid (by have : nrm g (-px,-py) = nrm g (px,py) := hnn; omega)
      have HNF : Hid (nrm g (x,y) ≤ 10000000000000000) := Lib.hid (by omega)
      clear hnn nl
      by_cases hkT : k = T
      · subst hkT
        have hI2 : both g ⟨k,ff,(-px,-py)⟩ ⟨n,ff,(x,y)⟩ = idm := by
          have := HI.out
          rw [HIN.out, hp] at this
          exact this
        have hV := HV.out
        rw [HIN.out, hp] at hV
        simp only [neg] at hV
        rw [hI2] at hb2
        simp only [mvV, idm] at hb2 hV
        have HB2 := Lib.hid hb2
        clear hb2 hI2 hp hbz
        cases hsm : smB (-px) (-py) with
        | false =>
          have HR : Hid (inV g n ff x y = .tuple #[.agg #[.int .i64 (0), .bool (false), .int .i64 (0), .int .i64 (0)], .int .i64 (4)]) := Lib.hid (by rw [hV]; exact if_pos hsm)
          have HS := Lib.hid hsm
          clear hV hsm
          (go_wp2_with fail; refine (rToV (x := x) (y := y) (px := px) (py := py) (t := k) (f := ff) hg (by omega) HN.out (by omega) (by omega) HP.out).mono ?_; rintro r w1 ⟨rfl, hb⟩; obtain ⟨E, d, rfl⟩ := bExt hb; clear hb; go_wp2_with fail; refine (rneg_any px py _ (by omega) (by omega)).mono ?_; rintro r w1 ⟨rfl, hb⟩; obtain ⟨E, d, rfl⟩ := bExt hb; clear hb)
          (go_wp2_with fail; refine (HB2.out _ hg (by omega) hn HBN.out HNF.out).mono ?_; rintro r w1 ⟨rfl, hb⟩; obtain ⟨E, d, rfl⟩ := bExt hb; clear hb)
          (go_wp2_with fail; refine (rSmall_any (-px) (-py) _ (by omega) (by omega)).mono ?_; rintro r w1 ⟨rfl, hb⟩; obtain ⟨E, d, rfl⟩ := bExt hb; clear hb)
          rw [HS.out]
          go_wp2
          refine bodyPost_ret (v := .tuple #[.agg #[.int .i64 (0), .bool (false), .int .i64 (0), .int .i64 (0)], .int .i64 (4)]) (by simp [results, Try.results27, go_sem]) rfl ⟨by rw [HR.out], (by repeat (first | exact Below.refl _ _ | refine Below.drew ?_ | refine below_drewN ?_ _ | refine Below.alloc ?_ (by first | exact Nat.le_refl _ | (simp; done) | (simp; omega) | omega) _ | refine Below.setCell ?_ (by first | exact Nat.le_refl _ | (simp; done) | (simp; omega) | omega) _ | refine bExtW ?_ (by first | exact Nat.le_refl _ | (simp; done) | (simp; omega) | omega) | refine Below.trans ?_ (Below.mono (by assumption) (by first | exact Nat.le_refl _ | (simp; done) | (simp; omega) | omega))))⟩
        | true =>
          have HR : Hid (inV g n ff x y = .tuple #[.agg #[.int .i64 (k), .bool (ff), .int .i64 (-px), .int .i64 (-py)], .int .i64 (0)]) := Lib.hid (by rw [hV]; exact if_neg (by rw [hsm]; decide))
          have HS := Lib.hid hsm
          clear hV hsm
          (go_wp2_with fail; refine (rToV (x := x) (y := y) (px := px) (py := py) (t := k) (f := ff) hg (by omega) HN.out (by omega) (by omega) HP.out).mono ?_; rintro r w1 ⟨rfl, hb⟩; obtain ⟨E, d, rfl⟩ := bExt hb; clear hb; go_wp2_with fail; refine (rneg_any px py _ (by omega) (by omega)).mono ?_; rintro r w1 ⟨rfl, hb⟩; obtain ⟨E, d, rfl⟩ := bExt hb; clear hb)
          (go_wp2_with fail; refine (HB2.out _ hg (by omega) hn HBN.out HNF.out).mono ?_; rintro r w1 ⟨rfl, hb⟩; obtain ⟨E, d, rfl⟩ := bExt hb; clear hb)
          (go_wp2_with fail; refine (rSmall_any (-px) (-py) _ (by omega) (by omega)).mono ?_; rintro r w1 ⟨rfl, hb⟩; obtain ⟨E, d, rfl⟩ := bExt hb; clear hb)
          rw [HS.out]
          go_wp2
          refine bodyPost_ret (v := .tuple #[.agg #[.int .i64 (k), .bool (ff), .int .i64 (-px), .int .i64 (-py)], .int .i64 (0)]) (by simp [results, Try.results27, go_sem]) rfl ⟨by rw [HR.out], (by repeat (first | exact Below.refl _ _ | refine Below.drew ?_ | refine below_drewN ?_ _ | refine Below.alloc ?_ (by first | exact Nat.le_refl _ | (simp; done) | (simp; omega) | omega) _ | refine Below.setCell ?_ (by first | exact Nat.le_refl _ | (simp; done) | (simp; omega) | omega) _ | refine bExtW ?_ (by first | exact Nat.le_refl _ | (simp; done) | (simp; omega) | omega) | refine Below.trans ?_ (Below.mono (by assumption) (by first | exact Nat.le_refl _ | (simp; done) | (simp; omega) | omega))))⟩
      · obtain ⟨Q, FF, X, Y, hm⟩ := mvV_ex (both g ⟨k,ff,(-px,-py)⟩ ⟨n,ff,(x,y)⟩)
        have hQ : Q ≠ 0 := by
          have e : bothT g ⟨k,ff,(-px,-py)⟩ ⟨n,ff,(x,y)⟩ = Q := congrArg Mv.t hm
          rw [← e]
          intro h0
          exact hkT (hbz.1 h0)
        rw [hm] at hb2
        simp only [mvV] at hb2
        have HB2 := Lib.hid hb2
        clear hb2 hp hbz hm
        (go_wp2_with fail; refine (rToV (x := x) (y := y) (px := px) (py := py) (t := k) (f := ff) hg (by omega) HN.out (by omega) (by omega) HP.out).mono ?_; rintro r w1 ⟨rfl, hb⟩; obtain ⟨E, d, rfl⟩ := bExt hb; clear hb; go_wp2_with fail; refine (rneg_any px py _ (by omega) (by omega)).mono ?_; rintro r w1 ⟨rfl, hb⟩; obtain ⟨E, d, rfl⟩ := bExt hb; clear hb)
        (go_wp2_with fail; refine (HB2.out _ hg (by omega) hn HBN.out HNF.out).mono ?_; rintro r w1 ⟨rfl, hb⟩; obtain ⟨E, d, rfl⟩ := bExt hb; clear hb)
        go_wp2
        go_roundw
        case rel => exact ⟨k + 1, _, _, by go_num, by omega, by simp only [alloc_extW, extW_extW]; rfl⟩
        case measure => simp [intOf]; omega
  · have hb : (wE g t x y != 0) = true := by simpa using he
    have HT : Hid (inV g t ff x y = .tuple #[.agg #[.int .i64 (0), .bool (false), .int .i64 (0), .int .i64 (0)], .int .i64 (wE g t x y)]) := Lib.hid (by simp [inV, he])
    clear he
    go_enter Try.func27, Try.ntmps27
    (go_wp2_with fail; refine (HWF.out _ hw ht h0 h1).mono ?_; rintro r w1 ⟨rfl, hb⟩; obtain ⟨E, d, rfl⟩ := bExt hb; clear hb)
    go_wp2
    refine bodyPost_ret (v := .tuple #[.agg #[.int .i64 (0), .bool (false), .int .i64 (0), .int .i64 (0)], .int .i64 (wE g t x y)]) (by simp [results, Try.results27, go_sem]) rfl ⟨by rw [HT.out], (by repeat (first | exact Below.refl _ _ | refine Below.drew ?_ | refine below_drewN ?_ _ | refine Below.alloc ?_ (by first | exact Nat.le_refl _ | (simp; done) | (simp; omega) | omega) _ | refine Below.setCell ?_ (by first | exact Nat.le_refl _ | (simp; done) | (simp; omega) | omega) _ | refine bExtW ?_ (by first | exact Nat.le_refl _ | (simp; done) | (simp; omega) | omega) | refine Below.trans ?_ (Below.mono (by assumption) (by first | exact Nat.le_refl _ | (simp; done) | (simp; omega) | omega))))⟩
end Go.Proofs.Ytnjheiiohfhckaa
