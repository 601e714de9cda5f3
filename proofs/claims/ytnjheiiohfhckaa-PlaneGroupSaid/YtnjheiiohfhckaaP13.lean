/- Lemmas and contracts of functions (what each call returns, and that it changes nothing that was there) that the proof of a law of this seat uses; each lemma states its own conditions. -/
import Derived.Test.YtnjheiiohfhckaaP10
import Derived.Test.YtnjheiiohfhckaaP12
namespace Go.Proofs.Ytnjheiiohfhckaa
open Go.RowKit
set_option linter.unusedVariables false
set_option linter.unusedSimpArgs false
open Z (IsGcd Normal nrm Mv To lin mir okT idm both bothT inv pw)
theorem mvV_val (m : Mv) : ∃ (t : Int) (f : Bool) (x y : Int), mvV m = .agg #[.int .i64 (t), .bool (f), .int .i64 (x), .int .i64 (y)] := ⟨_, _, _, _, rfl⟩
theorem apV_ex (g t : Int) (f : Bool) (ox oy x y : Int) : ∃ a b e, apV g t f ox oy x y = .tuple #[.agg #[.int .i64 (a), .int .i64 (b)], .int .i64 (e)] := by
  unfold apV
  split
  · exact ⟨_, _, _, rfl⟩
  · split <;> exact ⟨_, _, _, rfl⟩
theorem coV_ex (g tf : Int) (ff : Bool) (fx fy th : Int) (fh : Bool) (hx hy : Int) : ∃ (t : Int) (f : Bool) (x y e : Int), coV g tf ff fx fy th fh hx hy = .tuple #[.agg #[.int .i64 (t), .bool (f), .int .i64 (x), .int .i64 (y)], .int .i64 (e)] := by
  unfold coV
  split
  · exact ⟨_, _, _, _, _, rfl⟩
  · split
    · exact ⟨_, _, _, _, _, rfl⟩
    · split <;> exact ⟨_, _, _, _, _, rfl⟩
theorem inV_ex (g t : Int) (f : Bool) (x y : Int) : ∃ (t' : Int) (f' : Bool) (x' y' e : Int), inV g t f x y = .tuple #[.agg #[.int .i64 (t'), .bool (f'), .int .i64 (x'), .int .i64 (y')], .int .i64 (e)] := by
  unfold inV
  split
  · exact ⟨_, _, _, _, _, rfl⟩
  · split <;> exact ⟨_, _, _, _, _, rfl⟩
theorem orV_ex (g t : Int) (f : Bool) (x y : Int) : ∃ (n e : Int), orV g t f x y = .tuple #[.int .i64 (n), .int .i64 (e)] := by
  unfold orV
  split <;> exact ⟨_, _, rfl⟩
set_option maxRecDepth 100000 in
set_option maxHeartbeats 8000000 in
theorem moves_walk (g tf fx fy th hx hy zx zy : Int) (ff fh : Bool) (w : World) (hw : (-9223372036854775808 ≤ g ∧ g ≤ 9223372036854775807)) (ht : (-9223372036854775808 ≤ tf ∧ tf ≤ 9223372036854775807)) (h0 : (-9223372036854775808 ≤ fx ∧ fx ≤ 9223372036854775807)) (h1 : (-9223372036854775808 ≤ fy ∧ fy ≤ 9223372036854775807)) (ht2 : (-9223372036854775808 ≤ th ∧ th ≤ 9223372036854775807)) (h2 : (-9223372036854775808 ≤ hx ∧ hx ≤ 9223372036854775807)) (h3 : (-9223372036854775808 ≤ hy ∧ hy ≤ 9223372036854775807)) (h4 : (-9223372036854775808 ≤ zx ∧ zx ≤ 9223372036854775807)) (h5 : (-9223372036854775808 ≤ zy ∧ zy ≤ 9223372036854775807)) :
    Calls Try.prog 7 #[.int .i64 (g), .agg #[.int .i64 (tf), .bool (ff), .int .i64 (fx), .int .i64 (fy)], .agg #[.int .i64 (th), .bool (fh), .int .i64 (hx), .int .i64 (hy)], .agg #[.int .i64 (zx), .int .i64 (zy)]] w fun e w' => e = .returned (.bool true) ∧ Below w.heap.size w w' := by
  obtain ⟨a1, a2, a3, ha⟩ := apV_ex g tf ff fx fy zx zy
  obtain ⟨c1, c2, c3, c4, c5, hc⟩ := coV_ex g tf ff fx fy th fh hx hy
  obtain ⟨i1, i2, i3, i4, i5, hi⟩ := inV_ex g tf ff fx fy
  obtain ⟨o1, o2, ho⟩ := orV_ex g tf ff fx fy
  have HA := Lib.hid ha; have HC := Lib.hid hc; have HI := Lib.hid hi; have HO := Lib.hid ho
  clear ha hc hi ho
  go_enter Try.func7, Try.ntmps7
  go_wp2_with fail
  (refine wp_region_ext (by kernel_rfl) (by kernel_rfl) ?_; (repeat (first | (refine ext_step (fun K hK => ?_); go_simp; first | (refine hK _ ?_; clear hK K) | (apply Exists.intro; refine ⟨fun _ _ => ?_, hK _ ?_⟩; (first | (go_at_call 20; exact extOf (Wrong_any g tf fx fy ff _ hw ht h0 h1)) | (go_at_call 21; exact extOf (rWrong_any g tf fx fy ff _ hw ht h0 h1))); clear hK K)))); refine wpQuiet_nil ?_; intro E d)
  generalize wE g tf fx fy = e0
  (go_wp2_with fail; refine (Apply_any g tf fx fy zx zy ff _ hw ht h0 h1 h4 h5).mono ?_; rintro r w1 ⟨rfl, hb⟩; obtain ⟨E, d, rfl⟩ := bExt hb; clear hb)
  rw [HA.out]
  (go_wp2_with fail; refine (rApply_any g tf fx fy zx zy ff _ hw ht h0 h1 h4 h5).mono ?_; rintro r w1 ⟨rfl, hb⟩; obtain ⟨E, d, rfl⟩ := bExt hb; clear hb)
  rw [HA.out]
  go_wp2_with fail
  (go_wp2_with fail; refine (Compose_any g tf fx fy th hx hy ff fh _ hw ht h0 h1 ht2 h2 h3).mono ?_; rintro r w1 ⟨rfl, hb⟩; obtain ⟨E, d, rfl⟩ := bExt hb; clear hb)
  rw [HC.out]
  (go_wp2_with fail; refine (rCompose_any g tf fx fy th hx hy ff fh _ hw ht h0 h1 ht2 h2 h3).mono ?_; rintro r w1 ⟨rfl, hb⟩; obtain ⟨E, d, rfl⟩ := bExt hb; clear hb)
  rw [HC.out]
  go_wp2_with fail
  (go_wp2_with fail; refine (Inverse_any g tf fx fy ff _ hw ht h0 h1).mono ?_; rintro r w1 ⟨rfl, hb⟩; obtain ⟨E, d, rfl⟩ := bExt hb; clear hb)
  rw [HI.out]
  (go_wp2_with fail; refine (rInverse_any g tf fx fy ff _ hw ht h0 h1).mono ?_; rintro r w1 ⟨rfl, hb⟩; obtain ⟨E, d, rfl⟩ := bExt hb; clear hb)
  rw [HI.out]
  go_wp2_with fail
  (go_wp2_with fail; refine (Order_any g tf fx fy ff _ hw ht h0 h1).mono ?_; rintro r w1 ⟨rfl, hb⟩; obtain ⟨E, d, rfl⟩ := bExt hb; clear hb)
  rw [HO.out]
  (go_wp2_with fail; refine (rOrder_any g tf fx fy ff _ hw ht h0 h1).mono ?_; rintro r w1 ⟨rfl, hb⟩; obtain ⟨E, d, rfl⟩ := bExt hb; clear hb)
  rw [HO.out]
  go_wp2
  go_ret
  exact ⟨rfl, (by repeat (first | exact Below.refl _ _ | refine Below.drew ?_ | refine below_drewN ?_ _ | refine Below.alloc ?_ (by first | exact Nat.le_refl _ | (simp; done) | (simp; omega) | omega) _ | refine Below.setCell ?_ (by first | exact Nat.le_refl _ | (simp; done) | (simp; omega) | omega) _ | refine bExtW ?_ (by first | exact Nat.le_refl _ | (simp; done) | (simp; omega) | omega) | refine Below.trans ?_ (Below.mono (by assumption) (by first | exact Nat.le_refl _ | (simp; done) | (simp; omega) | omega))))⟩
end Go.Proofs.Ytnjheiiohfhckaa
