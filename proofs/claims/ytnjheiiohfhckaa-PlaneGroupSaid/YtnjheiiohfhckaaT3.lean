/- Lemmas and contracts of functions (what each call returns, and that it changes nothing that was there) that the proof of a law of this seat uses; each lemma states its own conditions. -/
import Derived.Test.YtnjheiiohfhckaaT2
import Derived.Test.YtnjheiiohfhckaaExt
namespace Go.Proofs.Ytnjheiiohfhckaa
open Go.RowKit
set_option linter.unusedVariables false
set_option linter.unusedSimpArgs false
@[go_sem] theorem pt_field0 (a b : Value) (w : World) : (Instr.field 32 (.agg #[a, b]) 0).run Try.prog w = .ok a w := by kernel_rfl
@[go_sem] theorem pt_field1 (a b : Value) (w : World) : (Instr.field 32 (.agg #[a, b]) 1).run Try.prog w = .ok b w := by kernel_rfl
theorem mul_bd {a b A B : Int} (ha1 : -A ≤ a) (ha2 : a ≤ A) (hb1 : -B ≤ b) (hb2 : b ≤ B) : -(A*B) ≤ a*b ∧ a*b ≤ A*B := by
  have hA : 0 ≤ A := by omega
  have hB : 0 ≤ B := by omega
  have h1 := Int.mul_nonneg (show 0 ≤ A - a by omega) (show 0 ≤ B - b by omega)
  have h2 := Int.mul_nonneg (show 0 ≤ A + a by omega) (show 0 ≤ B + b by omega)
  have h3 := Int.mul_nonneg (show 0 ≤ A - a by omega) (show 0 ≤ B + b by omega)
  have h4 := Int.mul_nonneg (show 0 ≤ A + a by omega) (show 0 ≤ B - b by omega)
  simp only [Int.sub_mul, Int.mul_sub, Int.add_mul, Int.mul_add] at h1 h2 h3 h4
  constructor <;> omega

def tmX (x y x2 y2 : Int) : Int := x*x2 - y*y2
def tmY (g x y x2 y2 : Int) : Int := x*y2 + y*x2 + (if g = 6 then y*y2 else 0)
def miX (g x y : Int) : Int := if g = 6 then x + y else x

set_option maxHeartbeats 400000 in
theorem times_any (g x y x2 y2 : Int) (w : World) (b1 : -1073741824 ≤ x ∧ x ≤ 1073741824) (b2 : -1073741824 ≤ y ∧ y ≤ 1073741824) (b3 : -1073741824 ≤ x2 ∧ x2 ≤ 1073741824) (b4 : -1073741824 ≤ y2 ∧ y2 ≤ 1073741824)  :
    Calls Try.prog 33 #[.int .i64 (g), .agg #[.int .i64 (x), .int .i64 (y)], .agg #[.int .i64 (x2), .int .i64 (y2)]] w fun e w' =>
      e = .returned (.agg #[.int .i64 (tmX x y x2 y2), .int .i64 (tmY g x y x2 y2)]) ∧ Below w.heap.size w w' := by
  obtain ⟨m1, m2⟩ := mul_bd b1.1 b1.2 b3.1 b3.2
  obtain ⟨m3, m4⟩ := mul_bd b2.1 b2.2 b4.1 b4.2
  obtain ⟨m5, m6⟩ := mul_bd b1.1 b1.2 b4.1 b4.2
  obtain ⟨m7, m8⟩ := mul_bd b2.1 b2.2 b3.1 b3.2
  clear b1 b2 b3 b4
  by_cases h : g = 6
  · subst h
    go_enter Try.func33, Try.ntmps33
    go_wp2
    refine bodyPost_ret (v := .agg #[.int .i64 (x*x2 - y*y2), .int .i64 (x*y2 + y*x2 + y*y2)]) (by simp [results, Try.results33, go_sem]) rfl ⟨by simp [tmX, tmY], (by repeat (first | exact Below.refl _ _ | refine Below.drew ?_ | refine below_drewN ?_ _ | refine Below.alloc ?_ (by first | exact Nat.le_refl _ | (simp; done) | (simp; omega) | omega) _ | refine Below.setCell ?_ (by first | exact Nat.le_refl _ | (simp; done) | (simp; omega) | omega) _ | refine bExtW ?_ (by first | exact Nat.le_refl _ | (simp; done) | (simp; omega) | omega) | refine Below.trans ?_ (Below.mono (by assumption) (by first | exact Nat.le_refl _ | (simp; done) | (simp; omega) | omega))))⟩
  · have h' : (g == 6) = false := by simpa using h
    go_enter Try.func33, Try.ntmps33
    go_wp2
    refine bodyPost_ret (v := .agg #[.int .i64 (x*x2 - y*y2), .int .i64 (x*y2 + y*x2)]) (by simp [results, Try.results33, go_sem]) rfl ⟨by simp [tmX, tmY, h], (by repeat (first | exact Below.refl _ _ | refine Below.drew ?_ | refine below_drewN ?_ _ | refine Below.alloc ?_ (by first | exact Nat.le_refl _ | (simp; done) | (simp; omega) | omega) _ | refine Below.setCell ?_ (by first | exact Nat.le_refl _ | (simp; done) | (simp; omega) | omega) _ | refine bExtW ?_ (by first | exact Nat.le_refl _ | (simp; done) | (simp; omega) | omega) | refine Below.trans ?_ (Below.mono (by assumption) (by first | exact Nat.le_refl _ | (simp; done) | (simp; omega) | omega))))⟩

set_option maxHeartbeats 400000 in
theorem mirrored_any (g x y : Int) (w : World) (b1 : -1152921504606846976 ≤ x ∧ x ≤ 1152921504606846976) (b2 : -1152921504606846976 ≤ y ∧ y ≤ 1152921504606846976) :
    Calls Try.prog 51 #[.int .i64 (g), .agg #[.int .i64 (x), .int .i64 (y)]] w fun e w' => e = .returned (.agg #[.int .i64 (miX g x y), .int .i64 (-y)]) ∧ Below w.heap.size w w' := by
  rcases Decidable.em (g = 6) with h6 | h6
  · subst h6
    go_enter Try.func51, Try.ntmps51
    go_wp2
    refine bodyPost_ret (v := .agg #[.int .i64 (x+y), .int .i64 (-y)]) (by simp [results, Try.results51, go_sem]) rfl ⟨by simp [miX], (by repeat (first | exact Below.refl _ _ | refine Below.drew ?_ | refine below_drewN ?_ _ | refine Below.alloc ?_ (by first | exact Nat.le_refl _ | (simp; done) | (simp; omega) | omega) _ | refine Below.setCell ?_ (by first | exact Nat.le_refl _ | (simp; done) | (simp; omega) | omega) _ | refine bExtW ?_ (by first | exact Nat.le_refl _ | (simp; done) | (simp; omega) | omega) | refine Below.trans ?_ (Below.mono (by assumption) (by first | exact Nat.le_refl _ | (simp; done) | (simp; omega) | omega))))⟩
  · have e2 : (g == 6) = false := by simpa using h6
    have HE := Lib.hid h6
    clear h6
    go_enter Try.func51, Try.ntmps51
    go_wp2
    refine bodyPost_ret (v := .agg #[.int .i64 (x), .int .i64 (-y)]) (by simp [results, Try.results51, go_sem]) rfl ⟨by rw [miX, if_neg HE.out], (by repeat (first | exact Below.refl _ _ | refine Below.drew ?_ | refine below_drewN ?_ _ | refine Below.alloc ?_ (by first | exact Nat.le_refl _ | (simp; done) | (simp; omega) | omega) _ | refine Below.setCell ?_ (by first | exact Nat.le_refl _ | (simp; done) | (simp; omega) | omega) _ | refine bExtW ?_ (by first | exact Nat.le_refl _ | (simp; done) | (simp; omega) | omega) | refine Below.trans ?_ (Below.mono (by assumption) (by first | exact Nat.le_refl _ | (simp; done) | (simp; omega) | omega))))⟩

theorem miX_bd (g x y : Int) (b1 : -500000000 ≤ x ∧ x ≤ 500000000) (b2 : -500000000 ≤ y ∧ y ≤ 500000000) : -1000000000 ≤ miX g x y ∧ miX g x y ≤ 1000000000 := by
  unfold miX; split <;> omega
set_option maxHeartbeats 400000 in
theorem norm_any (g x y : Int) (w : World) (b1 : -500000000 ≤ x ∧ x ≤ 500000000) (b2 : -500000000 ≤ y ∧ y ≤ 500000000) :
    Calls Try.prog 34 #[.int .i64 (g), .agg #[.int .i64 (x), .int .i64 (y)]] w fun e w' => e = .returned (.int .i64 (tmX x y (miX g x y) (-y))) ∧ Below w.heap.size w w' := by
  have b3 := miX_bd g x y b1 b2
  go_enter Try.func34, Try.ntmps34
  go_wp2_with fail
  go_region_held3 (fun w' => w'.cell? ⟨w.heap.size, 0, none⟩ = some (.int .i64 (x)) ∧ w'.cell? ⟨w.heap.size, 1, none⟩ = some (.int .i64 (y)) ∧ Below w.heap.size w w') (first | (have hH := ‹(_ ∧ _ ∧ Below _ _ _)›; go_loud (exact ⟨bCs hb hH.1, bCs hb hH.2.1, hH.2.2.trans (hb.mono hH.2.2.size)⟩)) | exact ⟨by simp, by simp, (by repeat (first | exact Below.refl _ _ | refine Below.drew ?_ | refine below_drewN ?_ _ | refine Below.alloc ?_ (by first | exact Nat.le_refl _ | (simp; done) | (simp; omega) | omega) _ | refine Below.setCell ?_ (by first | exact Nat.le_refl _ | (simp; done) | (simp; omega) | omega) _ | refine bExtW ?_ (by first | exact Nat.le_refl _ | (simp; done) | (simp; omega) | omega) | refine Below.trans ?_ (Below.mono (by assumption) (by first | exact Nat.le_refl _ | (simp; done) | (simp; omega) | omega))))⟩ | go_keep) (first | (go_at_call 51; refine (mirrored_any g x y _ (by omega) (by omega)).mono ?_; rintro e w' ⟨rfl, hb⟩) | (go_at_call 33; refine (times_any g x y _ _ _ (by omega) (by omega) (by omega) (by omega)).mono ?_; rintro e w' ⟨rfl, hb⟩))
  go_wp2
  go_ret
  exact ⟨rfl, (‹(_ ∧ _ ∧ Below _ _ _)›).2.2⟩
end Go.Proofs.Ytnjheiiohfhckaa
