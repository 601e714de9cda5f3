/- Lemmas and contracts of functions (what each call returns, and that it changes nothing that was there) that the proof of a law of this seat uses; each lemma states its own conditions. -/
import Derived.Test.YtnjheiiohfhckaaP6
namespace Go.Proofs.Ytnjheiiohfhckaa
open Go.RowKit
set_option linter.unusedVariables false
set_option linter.unusedSimpArgs false
open Z (IsGcd Normal nrm Mv To lin mir okT idm both bothT)
/-- What Compose answers. -/
def coV (g tf : Int) (ff : Bool) (fx fy th : Int) (fh : Bool) (hx hy : Int) : Value :=
  if wE g tf fx fy ≠ 0 then .tuple #[.agg #[.int .i64 (0), .bool (false), .int .i64 (0), .int .i64 (0)], .int .i64 (wE g tf fx fy)] else if wE g th hx hy ≠ 0 then .tuple #[.agg #[.int .i64 (0), .bool (false), .int .i64 (0), .int .i64 (0)], .int .i64 (wE g th hx hy)]
  else if smB (both g ⟨tf.toNat,ff,(fx,fy)⟩ ⟨th.toNat,fh,(hx,hy)⟩).o.1 (both g ⟨tf.toNat,ff,(fx,fy)⟩ ⟨th.toNat,fh,(hx,hy)⟩).o.2 = false then .tuple #[.agg #[.int .i64 (0), .bool (false), .int .i64 (0), .int .i64 (0)], .int .i64 (4)]
  else .tuple #[mvV (both g ⟨tf.toNat,ff,(fx,fy)⟩ ⟨th.toNat,fh,(hx,hy)⟩), .int .i64 (0)]
theorem mvV_ex (m : Mv) : ∃ t f x y, m = ⟨t, f, (x, y)⟩ := ⟨m.t, m.f, m.o.1, m.o.2, rfl⟩
set_option maxRecDepth 100000 in
set_option maxHeartbeats 8000000 in
theorem rCompose_any (g tf fx fy th hx hy : Int) (ff fh : Bool) (w : World) (hw : (-9223372036854775808 ≤ g ∧ g ≤ 9223372036854775807)) (ht : (-9223372036854775808 ≤ tf ∧ tf ≤ 9223372036854775807)) (h0 : (-9223372036854775808 ≤ fx ∧ fx ≤ 9223372036854775807)) (h1 : (-9223372036854775808 ≤ fy ∧ fy ≤ 9223372036854775807)) (ht2 : (-9223372036854775808 ≤ th ∧ th ≤ 9223372036854775807)) (h2 : (-9223372036854775808 ≤ hx ∧ hx ≤ 9223372036854775807)) (h3 : (-9223372036854775808 ≤ hy ∧ hy ≤ 9223372036854775807)) :
    Calls Try.prog 25 #[.int .i64 (g), .agg #[.int .i64 (tf), .bool (ff), .int .i64 (fx), .int .i64 (fy)], .agg #[.int .i64 (th), .bool (fh), .int .i64 (hx), .int .i64 (hy)]] w fun e w' => e = .returned (coV g tf ff fx fy th fh hx hy) ∧ Below w.heap.size w w' := by
  have HWF := Lib.hid (rWrong_any g tf fx fy ff)
  have HWH := Lib.hid (rWrong_any g th hx hy fh)
  by_cases he : wE g tf fx fy = 0
  · by_cases he2 : wE g th hx hy = 0
    · obtain ⟨hg, hs, n, rfl, hn⟩ := wE_zero he
      obtain ⟨_, hs2, k, rfl, hk⟩ := wE_zero he2
      have nf := nrm_sm hg hs
      have nh := nrm_sm hg hs2
      have hTT := rThen_any g fx fy hx hy n k ff fh
      have nb := Z.nrm_To hg ⟨n,ff,(fx,fy)⟩ (hx,hy)
      have bo := parts_of hg (p := To g ⟨n,ff,(fx,fy)⟩ (hx,hy)) (by simp only at nb; omega)
      have hbo : (both g ⟨n,ff,(fx,fy)⟩ ⟨k,fh,(hx,hy)⟩).o = To g ⟨n,ff,(fx,fy)⟩ (hx,hy) := rfl
      have hV : coV g n ff fx fy k fh hx hy = if smB (both g ⟨n,ff,(fx,fy)⟩ ⟨k,fh,(hx,hy)⟩).o.1 (both g ⟨n,ff,(fx,fy)⟩ ⟨k,fh,(hx,hy)⟩).o.2 = false then .tuple #[.agg #[.int .i64 (0), .bool (false), .int .i64 (0), .int .i64 (0)], .int .i64 (4)] else .tuple #[mvV (both g ⟨n,ff,(fx,fy)⟩ ⟨k,fh,(hx,hy)⟩), .int .i64 (0)] := by simp [coV, he, he2]
      rw [← hbo] at bo
      clear hbo nb
      obtain ⟨T, FF, X, Y, hm⟩ := mvV_ex (both g ⟨n,ff,(fx,fy)⟩ ⟨k,fh,(hx,hy)⟩)
      rw [hm] at hV bo hTT
      simp only [mvV] at hV hTT
      simp only at bo
      have HTT := Lib.hid hTT
      have HE := Lib.hid he
      have HE2 := Lib.hid he2
      clear hTT he he2 hm
      cases hsm : smB X Y with
      | false =>
        have HT : Hid (coV g n ff fx fy k fh hx hy = .tuple #[.agg #[.int .i64 (0), .bool (false), .int .i64 (0), .int .i64 (0)], .int .i64 (4)]) := Lib.hid (by rw [hV, hsm]; rfl)
        have HS := Lib.hid hsm
        clear hV hsm
        go_enter Try.func25, Try.ntmps25
        (go_wp2_with fail; refine (HWF.out _ hw ht h0 h1).mono ?_; rintro r w1 ⟨rfl, hb⟩; obtain ⟨E, d, rfl⟩ := bExt hb; clear hb)
        rw [HE.out]
        (go_wp2_with fail; refine (HWH.out _ hw ht2 h2 h3).mono ?_; rintro r w1 ⟨rfl, hb⟩; obtain ⟨E, d, rfl⟩ := bExt hb; clear hb)
        rw [HE2.out]
        (go_wp2_with fail; refine (HTT.out _ hg hn hk (by omega) (by omega)).mono ?_; rintro r w1 ⟨rfl, hb⟩; obtain ⟨E, d, rfl⟩ := bExt hb; clear hb)
        (go_wp2_with fail; refine (rSmall_any X Y _ (by omega) (by omega)).mono ?_; rintro r w1 ⟨rfl, hb⟩; obtain ⟨E, d, rfl⟩ := bExt hb; clear hb)
        rw [HS.out]
        go_wp2
        refine bodyPost_ret (v := .tuple #[.agg #[.int .i64 (0), .bool (false), .int .i64 (0), .int .i64 (0)], .int .i64 (4)]) (by simp [results, Try.results25, go_sem]) rfl ⟨by rw [HT.out], (by repeat (first | exact Below.refl _ _ | refine Below.drew ?_ | refine below_drewN ?_ _ | refine Below.alloc ?_ (by first | exact Nat.le_refl _ | (simp; done) | (simp; omega) | omega) _ | refine Below.setCell ?_ (by first | exact Nat.le_refl _ | (simp; done) | (simp; omega) | omega) _ | refine bExtW ?_ (by first | exact Nat.le_refl _ | (simp; done) | (simp; omega) | omega) | refine Below.trans ?_ (Below.mono (by assumption) (by first | exact Nat.le_refl _ | (simp; done) | (simp; omega) | omega))))⟩
      | true =>
        have HT : Hid (coV g n ff fx fy k fh hx hy = .tuple #[.agg #[.int .i64 (T), .bool (FF), .int .i64 (X), .int .i64 (Y)], .int .i64 (0)]) := Lib.hid (by rw [hV, hsm]; rfl)
        have HS := Lib.hid hsm
        clear hV hsm
        go_enter Try.func25, Try.ntmps25
        (go_wp2_with fail; refine (HWF.out _ hw ht h0 h1).mono ?_; rintro r w1 ⟨rfl, hb⟩; obtain ⟨E, d, rfl⟩ := bExt hb; clear hb)
        rw [HE.out]
        (go_wp2_with fail; refine (HWH.out _ hw ht2 h2 h3).mono ?_; rintro r w1 ⟨rfl, hb⟩; obtain ⟨E, d, rfl⟩ := bExt hb; clear hb)
        rw [HE2.out]
        (go_wp2_with fail; refine (HTT.out _ hg hn hk (by omega) (by omega)).mono ?_; rintro r w1 ⟨rfl, hb⟩; obtain ⟨E, d, rfl⟩ := bExt hb; clear hb)
        (go_wp2_with fail; refine (rSmall_any X Y _ (by omega) (by omega)).mono ?_; rintro r w1 ⟨rfl, hb⟩; obtain ⟨E, d, rfl⟩ := bExt hb; clear hb)
        rw [HS.out]
        go_wp2
        refine bodyPost_ret (v := .tuple #[.agg #[.int .i64 (T), .bool (FF), .int .i64 (X), .int .i64 (Y)], .int .i64 (0)]) (by simp [results, Try.results25, go_sem]) rfl ⟨by rw [HT.out], (by repeat (first | exact Below.refl _ _ | refine Below.drew ?_ | refine below_drewN ?_ _ | refine Below.alloc ?_ (by first | exact Nat.le_refl _ | (simp; done) | (simp; omega) | omega) _ | refine Below.setCell ?_ (by first | exact Nat.le_refl _ | (simp; done) | (simp; omega) | omega) _ | refine bExtW ?_ (by first | exact Nat.le_refl _ | (simp; done) | (simp; omega) | omega) | refine Below.trans ?_ (Below.mono (by assumption) (by first | exact Nat.le_refl _ | (simp; done) | (simp; omega) | omega))))⟩
    · have hb : (wE g th hx hy != 0) = true := by simpa using he2
      have HT : Hid (coV g tf ff fx fy th fh hx hy = .tuple #[.agg #[.int .i64 (0), .bool (false), .int .i64 (0), .int .i64 (0)], .int .i64 (wE g th hx hy)]) := Lib.hid (by simp [coV, he, he2])
      have HE := Lib.hid he
      clear he he2
      go_enter Try.func25, Try.ntmps25
      (go_wp2_with fail; refine (HWF.out _ hw ht h0 h1).mono ?_; rintro r w1 ⟨rfl, hb⟩; obtain ⟨E, d, rfl⟩ := bExt hb; clear hb)
      rw [HE.out]
      (go_wp2_with fail; refine (HWH.out _ hw ht2 h2 h3).mono ?_; rintro r w1 ⟨rfl, hb⟩; obtain ⟨E, d, rfl⟩ := bExt hb; clear hb)
      go_wp2
      refine bodyPost_ret (v := .tuple #[.agg #[.int .i64 (0), .bool (false), .int .i64 (0), .int .i64 (0)], .int .i64 (wE g th hx hy)]) (by simp [results, Try.results25, go_sem]) rfl ⟨by rw [HT.out], (by repeat (first | exact Below.refl _ _ | refine Below.drew ?_ | refine below_drewN ?_ _ | refine Below.alloc ?_ (by first | exact Nat.le_refl _ | (simp; done) | (simp; omega) | omega) _ | refine Below.setCell ?_ (by first | exact Nat.le_refl _ | (simp; done) | (simp; omega) | omega) _ | refine bExtW ?_ (by first | exact Nat.le_refl _ | (simp; done) | (simp; omega) | omega) | refine Below.trans ?_ (Below.mono (by assumption) (by first | exact Nat.le_refl _ | (simp; done) | (simp; omega) | omega))))⟩
  · have hb : (wE g tf fx fy != 0) = true := by simpa using he
    have HT : Hid (coV g tf ff fx fy th fh hx hy = .tuple #[.agg #[.int .i64 (0), .bool (false), .int .i64 (0), .int .i64 (0)], .int .i64 (wE g tf fx fy)]) := Lib.hid (by simp [coV, he])
    clear he
    go_enter Try.func25, Try.ntmps25
    (go_wp2_with fail; refine (HWF.out _ hw ht h0 h1).mono ?_; rintro r w1 ⟨rfl, hb⟩; obtain ⟨E, d, rfl⟩ := bExt hb; clear hb)
    go_wp2
    refine bodyPost_ret (v := .tuple #[.agg #[.int .i64 (0), .bool (false), .int .i64 (0), .int .i64 (0)], .int .i64 (wE g tf fx fy)]) (by simp [results, Try.results25, go_sem]) rfl ⟨by rw [HT.out], (by repeat (first | exact Below.refl _ _ | refine Below.drew ?_ | refine below_drewN ?_ _ | refine Below.alloc ?_ (by first | exact Nat.le_refl _ | (simp; done) | (simp; omega) | omega) _ | refine Below.setCell ?_ (by first | exact Nat.le_refl _ | (simp; done) | (simp; omega) | omega) _ | refine bExtW ?_ (by first | exact Nat.le_refl _ | (simp; done) | (simp; omega) | omega) | refine Below.trans ?_ (Below.mono (by assumption) (by first | exact Nat.le_refl _ | (simp; done) | (simp; omega) | omega))))⟩
end Go.Proofs.Ytnjheiiohfhckaa
