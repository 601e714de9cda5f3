/- Lemmas and contracts of functions (what each call returns, and that it changes nothing that was there) that the proof of a law of this seat uses; each lemma states its own conditions. -/
import Derived.Test.YtnjheiiohfhckaaP8
namespace Go.Proofs.Ytnjheiiohfhckaa
open Go.RowKit
set_option linter.unusedVariables false
set_option linter.unusedSimpArgs false
open Z (IsGcd Normal nrm Mv To lin mir okT idm both bothT inv invT neg)
/-- What Inverse answers. -/
def inV (g t : Int) (f : Bool) (x y : Int) : Value :=
  if wE g t x y ≠ 0 then .tuple #[.agg #[.int .i64 (0), .bool (false), .int .i64 (0), .int .i64 (0)], .int .i64 (wE g t x y)]
  else if smB (inv g ⟨t.toNat,f,(x,y)⟩).o.1 (inv g ⟨t.toNat,f,(x,y)⟩).o.2 = false then .tuple #[.agg #[.int .i64 (0), .bool (false), .int .i64 (0), .int .i64 (0)], .int .i64 (4)]
  else .tuple #[mvV (inv g ⟨t.toNat,f,(x,y)⟩), .int .i64 (0)]
theorem To_o0 (g : Int) (t : Nat) (f : Bool) (z : Z.Pt) : To g ⟨t,f,(0,0)⟩ z = lin g t f z := by simp [To, Z.add]
theorem invT_int {g : Int} (hg : Z.G g) {t : Nat} (ht : t < g.toNat) : (g - (t:Int)).tmod g = ((g.toNat - t) % g.toNat : Nat) ∧ 0 ≤ g - (t : Int) := by
  rcases hg with rfl | rfl
  · have h : t = 0 ∨ t = 1 ∨ t = 2 ∨ t = 3 := by omega
    rcases h with rfl | rfl | rfl | rfl <;> decide
  · have h : t = 0 ∨ t = 1 ∨ t = 2 ∨ t = 3 ∨ t = 4 ∨ t = 5 := by omega
    rcases h with rfl | rfl | rfl | rfl | rfl | rfl <;> decide
set_option maxRecDepth 100000 in
set_option maxHeartbeats 8000000 in
theorem Inverse_any (g t x y : Int) (ff : Bool) (w : World) (hw : (-9223372036854775808 ≤ g ∧ g ≤ 9223372036854775807)) (ht : (-9223372036854775808 ≤ t ∧ t ≤ 9223372036854775807)) (h0 : (-9223372036854775808 ≤ x ∧ x ≤ 9223372036854775807)) (h1 : (-9223372036854775808 ≤ y ∧ y ≤ 9223372036854775807)) :
    Calls Try.prog 26 #[.int .i64 (g), .agg #[.int .i64 (t), .bool (ff), .int .i64 (x), .int .i64 (y)]] w fun e w' => e = .returned (inV g t ff x y) ∧ Below w.heap.size w w' := by
  have HWF := Lib.hid (Wrong_any g t x y ff)
  by_cases he : wE g t x y = 0
  · obtain ⟨hg, hs, n, rfl, hn⟩ := wE_zero he
    have nf := nrm_sm hg hs
    have hti := invT_int hg hn
    have hg0 : g ≠ 0 := by omega
    have hgl : g ≤ 6 := by omega
    cases ff with
    | false =>
      have hap := apply_any g x y 0 0 ((g.toNat - n) % g.toNat) false
      have hV : inV g n false x y = if smB (inv g ⟨n,false,(x,y)⟩).o.1 (inv g ⟨n,false,(x,y)⟩).o.2 = false then .tuple #[.agg #[.int .i64 (0), .bool (false), .int .i64 (0), .int .i64 (0)], .int .i64 (4)] else .tuple #[mvV (inv g ⟨n,false,(x,y)⟩), .int .i64 (0)] := by simp [inV, he]
      have hi : inv g ⟨n,false,(x,y)⟩ = ⟨(g.toNat - n) % g.toNat, false, neg (lin g ((g.toNat - n) % g.toNat) false (x,y))⟩ := rfl
      have nl := Z.nrm_lin hg ((g.toNat - n) % g.toNat) false (x,y)
      rw [hi] at hV
      rw [To_o0] at hap
      obtain ⟨px, py, hp⟩ := pt_ex (lin g ((g.toNat - n) % g.toNat) false (x,y))
      rw [hp] at hV hap nl
      have bo := parts_of hg (p := (px,py)) (by omega)
      simp only [mvV, neg] at hV
      simp only at bo hap
      have e9 : (g - (n:Int)) % g = (-(n:Int)) % g := by simp
      rw [← hti.1, Int.tmod_eq_emod_of_nonneg hti.2, e9] at hV hap
      clear e9
      have hti2 := hti.2
      have hr : 0 ≤ (-(n:Int)) % g ∧ (-(n:Int)) % g < 6 := by rcases hg with rfl | rfl <;> omega
      have hti3 : (g.toNat - n) % g.toNat ≤ 6 := by rcases hg with rfl | rfl <;> simp <;> omega
      clear hti
      have HAP := Lib.hid hap
      have HE := Lib.hid he
      have HW := Lib.hid (one_wf (x := -px) (y := -py) (by omega) (by omega))
      clear hap he hi hp nl
      cases hsm : smB (-px) (-py) with
      | false =>
        have HT : Hid (inV g n false x y = .tuple #[.agg #[.int .i64 (0), .bool (false), .int .i64 (0), .int .i64 (0)], .int .i64 (4)]) := Lib.hid (by rw [hV]; exact if_pos hsm)
        have HS : Hid (smL [(-px,-py)] = false) := Lib.hid (by simp [smL, hsm])
        clear hV hsm
        go_enter Try.func26, Try.ntmps26
        (go_wp2_with fail; refine (HWF.out _ hw ht h0 h1).mono ?_; rintro r w1 ⟨rfl, hb⟩; obtain ⟨E, d, rfl⟩ := bExt hb; clear hb)
        rw [HE.out]
        (go_wp2_with fail; refine (HAP.out _ hg (by omega) (by omega) (by omega) (by omega)).mono ?_; rintro r w1 ⟨rfl, hb⟩; obtain ⟨E, d, rfl⟩ := bExt hb; clear hb)
        go_wp2_with fail
        refine (small_any _ 1 1 [(-px,-py)] _ rfl (by simp) (one_cells (by simp [go_sem]) (by simp [go_sem])) HW.out (by omega)).mono ?_
        rintro e w1 ⟨rfl, hb1⟩
        rw [HS.out]
        obtain ⟨E1, d1, rfl⟩ := bExt hb1; clear hb1
        go_wp2
        refine bodyPost_ret (v := .tuple #[.agg #[.int .i64 (0), .bool (false), .int .i64 (0), .int .i64 (0)], .int .i64 (4)]) (by simp [results, Try.results26, go_sem]) rfl ⟨by rw [HT.out], (by repeat (first | exact Below.refl _ _ | refine Below.drew ?_ | refine below_drewN ?_ _ | refine Below.alloc ?_ (by first | exact Nat.le_refl _ | (simp; done) | (simp; omega) | omega) _ | refine Below.setCell ?_ (by first | exact Nat.le_refl _ | (simp; done) | (simp; omega) | omega) _ | refine bExtW ?_ (by first | exact Nat.le_refl _ | (simp; done) | (simp; omega) | omega) | refine Below.trans ?_ (Below.mono (by assumption) (by first | exact Nat.le_refl _ | (simp; done) | (simp; omega) | omega))))⟩
      | true =>
        have HT : Hid (inV g n false x y = .tuple #[.agg #[.int .i64 ((-(n:Int)) % g), .bool (false), .int .i64 (-px), .int .i64 (-py)], .int .i64 (0)]) := Lib.hid (by rw [hV]; exact if_neg (by rw [hsm]; decide))
        have HS : Hid (smL [(-px,-py)] = true) := Lib.hid (by simp [smL, hsm])
        clear hV hsm
        go_enter Try.func26, Try.ntmps26
        (go_wp2_with fail; refine (HWF.out _ hw ht h0 h1).mono ?_; rintro r w1 ⟨rfl, hb⟩; obtain ⟨E, d, rfl⟩ := bExt hb; clear hb)
        rw [HE.out]
        (go_wp2_with fail; refine (HAP.out _ hg (by omega) (by omega) (by omega) (by omega)).mono ?_; rintro r w1 ⟨rfl, hb⟩; obtain ⟨E, d, rfl⟩ := bExt hb; clear hb)
        go_wp2_with fail
        refine (small_any _ 1 1 [(-px,-py)] _ rfl (by simp) (one_cells (by simp [go_sem]) (by simp [go_sem])) HW.out (by omega)).mono ?_
        rintro e w1 ⟨rfl, hb1⟩
        rw [HS.out]
        obtain ⟨E1, d1, rfl⟩ := bExt hb1; clear hb1
        go_wp2
        refine bodyPost_ret (v := .tuple #[.agg #[.int .i64 ((-(n:Int)) % g), .bool (false), .int .i64 (-px), .int .i64 (-py)], .int .i64 (0)]) (by simp [results, Try.results26, go_sem]) rfl ⟨by rw [HT.out], (by repeat (first | exact Below.refl _ _ | refine Below.drew ?_ | refine below_drewN ?_ _ | refine Below.alloc ?_ (by first | exact Nat.le_refl _ | (simp; done) | (simp; omega) | omega) _ | refine Below.setCell ?_ (by first | exact Nat.le_refl _ | (simp; done) | (simp; omega) | omega) _ | refine bExtW ?_ (by first | exact Nat.le_refl _ | (simp; done) | (simp; omega) | omega) | refine Below.trans ?_ (Below.mono (by assumption) (by first | exact Nat.le_refl _ | (simp; done) | (simp; omega) | omega))))⟩
    | true =>
      have hap := apply_any g x y 0 0 (n) true
      have hV : inV g n true x y = if smB (inv g ⟨n,true,(x,y)⟩).o.1 (inv g ⟨n,true,(x,y)⟩).o.2 = false then .tuple #[.agg #[.int .i64 (0), .bool (false), .int .i64 (0), .int .i64 (0)], .int .i64 (4)] else .tuple #[mvV (inv g ⟨n,true,(x,y)⟩), .int .i64 (0)] := by simp [inV, he]
      have hi : inv g ⟨n,true,(x,y)⟩ = ⟨n, true, neg (lin g (n) true (x,y))⟩ := rfl
      have nl := Z.nrm_lin hg (n) true (x,y)
      rw [hi] at hV
      rw [To_o0] at hap
      obtain ⟨px, py, hp⟩ := pt_ex (lin g (n) true (x,y))
      rw [hp] at hV hap nl
      have bo := parts_of hg (p := (px,py)) (by omega)
      simp only [mvV, neg] at hV
      simp only at bo hap
      clear hti
      have HAP := Lib.hid hap
      have HE := Lib.hid he
      have HW := Lib.hid (one_wf (x := -px) (y := -py) (by omega) (by omega))
      clear hap he hi hp nl
      cases hsm : smB (-px) (-py) with
      | false =>
        have HT : Hid (inV g n true x y = .tuple #[.agg #[.int .i64 (0), .bool (false), .int .i64 (0), .int .i64 (0)], .int .i64 (4)]) := Lib.hid (by rw [hV]; exact if_pos hsm)
        have HS : Hid (smL [(-px,-py)] = false) := Lib.hid (by simp [smL, hsm])
        clear hV hsm
        go_enter Try.func26, Try.ntmps26
        (go_wp2_with fail; refine (HWF.out _ hw ht h0 h1).mono ?_; rintro r w1 ⟨rfl, hb⟩; obtain ⟨E, d, rfl⟩ := bExt hb; clear hb)
        rw [HE.out]
        (go_wp2_with fail; refine (HAP.out _ hg (by omega) (by omega) (by omega) (by omega)).mono ?_; rintro r w1 ⟨rfl, hb⟩; obtain ⟨E, d, rfl⟩ := bExt hb; clear hb)
        go_wp2_with fail
        refine (small_any _ 1 1 [(-px,-py)] _ rfl (by simp) (one_cells (by simp [go_sem]) (by simp [go_sem])) HW.out (by omega)).mono ?_
        rintro e w1 ⟨rfl, hb1⟩
        rw [HS.out]
        obtain ⟨E1, d1, rfl⟩ := bExt hb1; clear hb1
        go_wp2
        refine bodyPost_ret (v := .tuple #[.agg #[.int .i64 (0), .bool (false), .int .i64 (0), .int .i64 (0)], .int .i64 (4)]) (by simp [results, Try.results26, go_sem]) rfl ⟨by rw [HT.out], (by repeat (first | exact Below.refl _ _ | refine Below.drew ?_ | refine below_drewN ?_ _ | refine Below.alloc ?_ (by first | exact Nat.le_refl _ | (simp; done) | (simp; omega) | omega) _ | refine Below.setCell ?_ (by first | exact Nat.le_refl _ | (simp; done) | (simp; omega) | omega) _ | refine bExtW ?_ (by first | exact Nat.le_refl _ | (simp; done) | (simp; omega) | omega) | refine Below.trans ?_ (Below.mono (by assumption) (by first | exact Nat.le_refl _ | (simp; done) | (simp; omega) | omega))))⟩
      | true =>
        have HT : Hid (inV g n true x y = .tuple #[.agg #[.int .i64 (n), .bool (true), .int .i64 (-px), .int .i64 (-py)], .int .i64 (0)]) := Lib.hid (by rw [hV]; exact if_neg (by rw [hsm]; decide))
        have HS : Hid (smL [(-px,-py)] = true) := Lib.hid (by simp [smL, hsm])
        clear hV hsm
        go_enter Try.func26, Try.ntmps26
        (go_wp2_with fail; refine (HWF.out _ hw ht h0 h1).mono ?_; rintro r w1 ⟨rfl, hb⟩; obtain ⟨E, d, rfl⟩ := bExt hb; clear hb)
        rw [HE.out]
        (go_wp2_with fail; refine (HAP.out _ hg (by omega) (by omega) (by omega) (by omega)).mono ?_; rintro r w1 ⟨rfl, hb⟩; obtain ⟨E, d, rfl⟩ := bExt hb; clear hb)
        go_wp2_with fail
        refine (small_any _ 1 1 [(-px,-py)] _ rfl (by simp) (one_cells (by simp [go_sem]) (by simp [go_sem])) HW.out (by omega)).mono ?_
        rintro e w1 ⟨rfl, hb1⟩
        rw [HS.out]
        obtain ⟨E1, d1, rfl⟩ := bExt hb1; clear hb1
        go_wp2
        refine bodyPost_ret (v := .tuple #[.agg #[.int .i64 (n), .bool (true), .int .i64 (-px), .int .i64 (-py)], .int .i64 (0)]) (by simp [results, Try.results26, go_sem]) rfl ⟨by rw [HT.out], (by repeat (first | exact Below.refl _ _ | refine Below.drew ?_ | refine below_drewN ?_ _ | refine Below.alloc ?_ (by first | exact Nat.le_refl _ | (simp; done) | (simp; omega) | omega) _ | refine Below.setCell ?_ (by first | exact Nat.le_refl _ | (simp; done) | (simp; omega) | omega) _ | refine bExtW ?_ (by first | exact Nat.le_refl _ | (simp; done) | (simp; omega) | omega) | refine Below.trans ?_ (Below.mono (by assumption) (by first | exact Nat.le_refl _ | (simp; done) | (simp; omega) | omega))))⟩
  · have hb : (wE g t x y != 0) = true := by simpa using he
    have HT : Hid (inV g t ff x y = .tuple #[.agg #[.int .i64 (0), .bool (false), .int .i64 (0), .int .i64 (0)], .int .i64 (wE g t x y)]) := Lib.hid (by simp [inV, he])
    clear he
    go_enter Try.func26, Try.ntmps26
    (go_wp2_with fail; refine (HWF.out _ hw ht h0 h1).mono ?_; rintro r w1 ⟨rfl, hb⟩; obtain ⟨E, d, rfl⟩ := bExt hb; clear hb)
    go_wp2
    refine bodyPost_ret (v := .tuple #[.agg #[.int .i64 (0), .bool (false), .int .i64 (0), .int .i64 (0)], .int .i64 (wE g t x y)]) (by simp [results, Try.results26, go_sem]) rfl ⟨by rw [HT.out], (by repeat (first | exact Below.refl _ _ | refine Below.drew ?_ | refine below_drewN ?_ _ | refine Below.alloc ?_ (by first | exact Nat.le_refl _ | (simp; done) | (simp; omega) | omega) _ | refine Below.setCell ?_ (by first | exact Nat.le_refl _ | (simp; done) | (simp; omega) | omega) _ | refine bExtW ?_ (by first | exact Nat.le_refl _ | (simp; done) | (simp; omega) | omega) | refine Below.trans ?_ (Below.mono (by assumption) (by first | exact Nat.le_refl _ | (simp; done) | (simp; omega) | omega))))⟩
end Go.Proofs.Ytnjheiiohfhckaa
