/- Lemmas and contracts of functions (what each call returns, and that it changes nothing that was there) that the proof of a law of this seat uses; each lemma states its own conditions. -/
import Derived.Test.YtnjheiiohfhckaaP3
namespace Go.Proofs.Ytnjheiiohfhckaa
open Go.RowKit
set_option linter.unusedVariables false
set_option linter.unusedSimpArgs false
open Z (IsGcd Normal nrm Mv To lin mir okT idm both bothT)
set_option maxRecDepth 100000 in
set_option maxHeartbeats 8000000 in
theorem rApply_any (g t ox oy x y : Int) (f : Bool) (w : World) (hw : (-9223372036854775808 ≤ g ∧ g ≤ 9223372036854775807)) (ht : (-9223372036854775808 ≤ t ∧ t ≤ 9223372036854775807)) (h0 : (-9223372036854775808 ≤ ox ∧ ox ≤ 9223372036854775807)) (h1 : (-9223372036854775808 ≤ oy ∧ oy ≤ 9223372036854775807)) (h2 : (-9223372036854775808 ≤ x ∧ x ≤ 9223372036854775807)) (h3 : (-9223372036854775808 ≤ y ∧ y ≤ 9223372036854775807)) :
    Calls Try.prog 23 #[.int .i64 (g), .agg #[.int .i64 (t), .bool (f), .int .i64 (ox), .int .i64 (oy)], .agg #[.int .i64 (x), .int .i64 (y)]] w fun e w' => e = .returned (apV g t f ox oy x y) ∧ Below w.heap.size w w' := by
  have HWR := Lib.hid (rWrong_any g t ox oy f)
  by_cases he : wE g t ox oy = 0
  · obtain ⟨hg, hs, n, rfl, hn⟩ := wE_zero he
    cases hz : smB x y with
    | false =>
      have HT : Hid (apV g n f ox oy x y = .tuple #[.agg #[.int .i64 (0), .int .i64 (0)], .int .i64 (3)]) := Lib.hid (by simp [apV, he, hz])
      have HE := Lib.hid he
      have HZ := Lib.hid hz
      clear he hz
      go_enter Try.func23, Try.ntmps23
      (go_wp2_with fail; refine (HWR.out _ hw ht h0 h1).mono ?_; rintro r w1 ⟨rfl, hb⟩; obtain ⟨E, d, rfl⟩ := bExt hb; clear hb)
      rw [HE.out]
      (go_wp2_with fail; refine (rSmall_any x y _ h2 h3).mono ?_; rintro r w1 ⟨rfl, hb⟩; obtain ⟨E, d, rfl⟩ := bExt hb; clear hb)
      rw [HZ.out]
      go_wp2
      refine bodyPost_ret (v := .tuple #[.agg #[.int .i64 (0), .int .i64 (0)], .int .i64 (3)]) (by simp [results, Try.results23, go_sem]) rfl ⟨by rw [HT.out], (by repeat (first | exact Below.refl _ _ | refine Below.drew ?_ | refine below_drewN ?_ _ | refine Below.alloc ?_ (by first | exact Nat.le_refl _ | (simp; done) | (simp; omega) | omega) _ | refine Below.setCell ?_ (by first | exact Nat.le_refl _ | (simp; done) | (simp; omega) | omega) _ | refine bExtW ?_ (by first | exact Nat.le_refl _ | (simp; done) | (simp; omega) | omega) | refine Below.trans ?_ (Below.mono (by assumption) (by first | exact Nat.le_refl _ | (simp; done) | (simp; omega) | omega))))⟩
    | true =>
      have hz' : -1048576 ≤ x ∧ x ≤ 1048576 ∧ -1048576 ≤ y ∧ y ≤ 1048576 := by simpa [smB] using hz
      have hT : apV g n f ox oy x y = .tuple #[.agg #[.int .i64 (tdX (To g ⟨n,f,(ox,oy)⟩ (x,y)).1 (To g ⟨n,f,(ox,oy)⟩ (x,y)).2), .int .i64 (tdY (To g ⟨n,f,(ox,oy)⟩ (x,y)).1 (To g ⟨n,f,(ox,oy)⟩ (x,y)).2)], .int .i64 (tdE (To g ⟨n,f,(ox,oy)⟩ (x,y)).1 (To g ⟨n,f,(ox,oy)⟩ (x,y)).2)] := by simp [apV, he, hz]
      have HE := Lib.hid he
      have HZ := Lib.hid hz
      have hb := nrm_sm hg hz'
      have hbo := nrm_sm hg hs
      have hbT := Z.nrm_To hg ⟨n,f,(ox,oy)⟩ (x,y)
      have bT := parts_of hg (p := To g ⟨n,f,(ox,oy)⟩ (x,y)) (by simp only at hbT; omega)
      clear he hz hbT hbo
      generalize hp : To g ⟨n,f,(ox,oy)⟩ (x,y) = p at *
      have HP := Lib.hid hp
      clear hp
      cases hp2 : smB p.1 p.2 with
      | false =>
        have HS := Lib.hid hp2
        have HT : Hid (apV g n f ox oy x y = .tuple #[.agg #[.int .i64 (0), .int .i64 (0)], .int .i64 (4)]) := Lib.hid (by rw [hT]; simp [tdX, tdY, tdE, hp2])
        clear hT hp2
        go_enter Try.func23, Try.ntmps23
        (go_wp2_with fail; refine (HWR.out _ hw ht h0 h1).mono ?_; rintro r w1 ⟨rfl, hb⟩; obtain ⟨E, d, rfl⟩ := bExt hb; clear hb)
        rw [HE.out]
        (go_wp2_with fail; refine (rSmall_any x y _ h2 h3).mono ?_; rintro r w1 ⟨rfl, hb⟩; obtain ⟨E, d, rfl⟩ := bExt hb; clear hb)
        rw [HZ.out]
        (go_wp2_with fail; refine (rTo_any g x y ox oy n f _ hg (by omega) (by omega) (by omega) (by omega)).mono ?_; rintro r w1 ⟨rfl, hb⟩; obtain ⟨E, d, rfl⟩ := bExt hb; clear hb)
        rw [HP.out]
        (go_wp2_with fail; refine (rSmall_any p.1 p.2 _ (by omega) (by omega)).mono ?_; rintro r w1 ⟨rfl, hb⟩; obtain ⟨E, d, rfl⟩ := bExt hb; clear hb)
        rw [HS.out]
        go_wp2
        refine bodyPost_ret (v := .tuple #[.agg #[.int .i64 (0), .int .i64 (0)], .int .i64 (4)]) (by simp [results, Try.results23, go_sem]) rfl ⟨by rw [HT.out], (by repeat (first | exact Below.refl _ _ | refine Below.drew ?_ | refine below_drewN ?_ _ | refine Below.alloc ?_ (by first | exact Nat.le_refl _ | (simp; done) | (simp; omega) | omega) _ | refine Below.setCell ?_ (by first | exact Nat.le_refl _ | (simp; done) | (simp; omega) | omega) _ | refine bExtW ?_ (by first | exact Nat.le_refl _ | (simp; done) | (simp; omega) | omega) | refine Below.trans ?_ (Below.mono (by assumption) (by first | exact Nat.le_refl _ | (simp; done) | (simp; omega) | omega))))⟩
      | true =>
        have HS := Lib.hid hp2
        have HT : Hid (apV g n f ox oy x y = .tuple #[.agg #[.int .i64 (p.1), .int .i64 (p.2)], .int .i64 (0)]) := Lib.hid (by rw [hT]; simp [tdX, tdY, tdE, hp2])
        clear hT hp2
        go_enter Try.func23, Try.ntmps23
        (go_wp2_with fail; refine (HWR.out _ hw ht h0 h1).mono ?_; rintro r w1 ⟨rfl, hb⟩; obtain ⟨E, d, rfl⟩ := bExt hb; clear hb)
        rw [HE.out]
        (go_wp2_with fail; refine (rSmall_any x y _ h2 h3).mono ?_; rintro r w1 ⟨rfl, hb⟩; obtain ⟨E, d, rfl⟩ := bExt hb; clear hb)
        rw [HZ.out]
        (go_wp2_with fail; refine (rTo_any g x y ox oy n f _ hg (by omega) (by omega) (by omega) (by omega)).mono ?_; rintro r w1 ⟨rfl, hb⟩; obtain ⟨E, d, rfl⟩ := bExt hb; clear hb)
        rw [HP.out]
        (go_wp2_with fail; refine (rSmall_any p.1 p.2 _ (by omega) (by omega)).mono ?_; rintro r w1 ⟨rfl, hb⟩; obtain ⟨E, d, rfl⟩ := bExt hb; clear hb)
        rw [HS.out]
        go_wp2
        refine bodyPost_ret (v := .tuple #[.agg #[.int .i64 (p.1), .int .i64 (p.2)], .int .i64 (0)]) (by simp [results, Try.results23, go_sem]) rfl ⟨by rw [HT.out], (by repeat (first | exact Below.refl _ _ | refine Below.drew ?_ | refine below_drewN ?_ _ | refine Below.alloc ?_ (by first | exact Nat.le_refl _ | (simp; done) | (simp; omega) | omega) _ | refine Below.setCell ?_ (by first | exact Nat.le_refl _ | (simp; done) | (simp; omega) | omega) _ | refine bExtW ?_ (by first | exact Nat.le_refl _ | (simp; done) | (simp; omega) | omega) | refine Below.trans ?_ (Below.mono (by assumption) (by first | exact Nat.le_refl _ | (simp; done) | (simp; omega) | omega))))⟩
  · have hb : (wE g t ox oy != 0) = true := by simpa using he
    have HT : Hid (apV g t f ox oy x y = .tuple #[.agg #[.int .i64 (0), .int .i64 (0)], .int .i64 (wE g t ox oy)]) := Lib.hid (by simp [apV, he])
    clear he
    go_enter Try.func23, Try.ntmps23
    (go_wp2_with fail; refine (HWR.out _ hw ht h0 h1).mono ?_; rintro r w1 ⟨rfl, hb⟩; obtain ⟨E, d, rfl⟩ := bExt hb; clear hb)
    go_wp2
    refine bodyPost_ret (v := .tuple #[.agg #[.int .i64 (0), .int .i64 (0)], .int .i64 (wE g t ox oy)]) (by simp [results, Try.results23, go_sem]) rfl ⟨by rw [HT.out], (by repeat (first | exact Below.refl _ _ | refine Below.drew ?_ | refine below_drewN ?_ _ | refine Below.alloc ?_ (by first | exact Nat.le_refl _ | (simp; done) | (simp; omega) | omega) _ | refine Below.setCell ?_ (by first | exact Nat.le_refl _ | (simp; done) | (simp; omega) | omega) _ | refine bExtW ?_ (by first | exact Nat.le_refl _ | (simp; done) | (simp; omega) | omega) | refine Below.trans ?_ (Below.mono (by assumption) (by first | exact Nat.le_refl _ | (simp; done) | (simp; omega) | omega))))⟩
theorem lin_unit {g : Int} (hg : Z.G g) (t : Nat) (f : Bool) {z : Z.Pt} (hz : z = (1,0) ∨ z = (0,1)) : (-10 ≤ (lin g t f z).1 ∧ (lin g t f z).1 ≤ 10) ∧ (-10 ≤ (lin g t f z).2 ∧ (lin g t f z).2 ≤ 10) := by
  have h := Z.nrm_lin hg t f z
  have h1 : nrm g z = 1 := by rcases hg with rfl | rfl <;> rcases hz with rfl | rfl <;> decide
  exact Z.part_bd hg (by omega) (by omega)
/-- Fitting finds the move that takes 0, 1 and the turning number there. -/
def fitA (g : Int) (m : Mv) : Z.Pt := To g m (1,0)
def fitB (g : Int) (m : Mv) : Z.Pt := To g m (0,1)
theorem fit_ne {g : Int} (hg : Z.G g) {m : Mv} (hm : okT g m) {i : Nat} {k : Bool} (hi : i < g.toNat) (hne : ¬ (i = m.t ∧ k = m.f)) : ¬ (To g ⟨i,k,m.o⟩ (1,0) = To g m (1,0) ∧ To g ⟨i,k,m.o⟩ (0,1) = To g m (0,1)) := by
  rintro ⟨h1, h2⟩
  exact hne (Z.lin_inj hg hi hm (Z.add_cancel h1) (Z.add_cancel h2))
end Go.Proofs.Ytnjheiiohfhckaa
