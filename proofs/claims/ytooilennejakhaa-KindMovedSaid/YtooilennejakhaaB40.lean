/- Lemmas and contracts of functions (what each call returns, and that it changes nothing that was there) that the proof of a law of this seat uses; each lemma states its own conditions. -/
import Derived.Test.YtooilennejakhaaB25
import Derived.Test.YtooilennejakhaaB39
namespace Go.Proofs.Ytooilennejakhaa
open Go.RowKit
set_option linter.unusedVariables false
set_option linter.unusedSimpArgs false
open Z (bsP bsB bxN byN)
set_option maxRecDepth 100000 in
set_option maxHeartbeats 8000000 in
theorem same_ok (G W H n t : Nat) (back over : Bool) (a : Option Addr) (c : Nat) (cs : List Int) (w : World) (hI : IsInts w a n cs) (h : ChOk G W H n cs) (ht : t ≤ 64) :
    Calls Try.prog 30 #[.agg #[.int .i64 (G), .int .i64 (W), .int .i64 (H), .slice a n c], .bool back, .bool over, .int .i64 (t)] w fun r w' => r = .returned (.bool (bsB W H cs back over t)) ∧ Below w.heap.size w w' := by
  have hn4 := h.n4
  have hW1 := h.w1; have hW2 := h.w2; have hH1 := h.h1; have hH2 := h.h2
  have hn := h.hn
  have hI1 : IsInts (w.alloc (.cells #[.int .i64 (G), .int .i64 (W), .int .i64 (H), .slice (a) n c] 24)) a n cs := hI.below (by repeat (first | exact Below.refl _ _ | refine Below.drew ?_ | refine below_drewN ?_ _ | refine Below.alloc ?_ (by first | exact Nat.le_refl _ | (simp; done) | (simp; omega) | omega) _ | refine Below.setCell ?_ (by first | exact Nat.le_refl _ | (simp; done) | (simp; omega) | omega) _ | refine bExtW ?_ (by first | exact Nat.le_refl _ | (simp; done) | (simp; omega) | omega) | refine Below.trans ?_ (Below.mono (by assumption) (by first | exact Nat.le_refl _ | (simp; done) | (simp; omega) | omega))))
  obtain ⟨bb, bo, rfl, hb, hc⟩ := hI1.2 (by rw [hn]; exact Nat.mul_pos hW1 hH1)
  have HC := Lib.hid hc
  have lb : LtW bb (w.alloc (.cells #[.int .i64 (G), .int .i64 (W), .int .i64 (H), .slice (some ⟨bb, bo, none⟩) n c] 24)) := hb
  have HT : Hid (bsP W H cs back over t → bsB W H cs back over t = true) := Lib.hid fun h => decide_eq_true h
  have HF : Hid (¬ bsP W H cs back over t → bsB W H cs back over t = false) := Lib.hid fun h => decide_eq_false h
  have HP : Hid (∀ y x, y < H → x < W → y * W + x < n) := Lib.hid fun y x hy hx => by rw [hn]; exact Z.bpl_lt hx hy
  have bW : ((W : Int) == 0) = false := by simp; omega
  have bW2 : (W : Int) ≠ 0 := by omega
  have bW3 : ¬ W = 0 := by omega
  unfold bsP at HT HF
  generalize bsB W H cs back over t = B at *
  clear hI hI1 h hc hb hn
  go_enter Try.func30, Try.ntmps30
  go_wp2_with fail
  go_loopw [15] (fun yv wr => ∃ (y : Nat) (E : Array Obj) (d : Nat), y ≤ H ∧ yv = .int .i64 y ∧ Hid (∀ y', y' < y → ∀ x, x < W → cs.getD (y' * W + x) 0 = cs.getD (byN H over y' * W + bxN W back t x % W) 0) ∧ wr = extW (w.alloc (.cells #[.int .i64 (G), .int .i64 (W), .int .i64 (H), .slice (some ⟨bb, bo, none⟩) n c] 24)) E d) (fun yv _ => H - (intOf yv).toNat)
  case atStart => exact ⟨0, #[], _, by omega, rfl, Lib.hid fun y' h => absurd h (by omega), extW_zero _⟩
  case round =>
    obtain ⟨y, E0, d0, hy, rfl, HY, rfl⟩ := hrel
    by_cases hyH : y < H
    · have dy : decide ((y : Int) < (H : Int)) = true := by simpa using hyH
      have vy : IntKind.i64.wrap ((y : Int) + 1) = (y : Int) + 1 := IntWalk.i64_in _ (by omega)
      go_wp2_with fail
      go_loopw [20] (fun xv wr => ∃ (x : Nat) (E : Array Obj) (d : Nat), x ≤ W ∧ xv = .int .i64 x ∧ Hid (∀ x', x' < x → cs.getD (y * W + x') 0 = cs.getD (byN H over y * W + bxN W back t x' % W) 0) ∧ wr = extW (w.alloc (.cells #[.int .i64 (G), .int .i64 (W), .int .i64 (H), .slice (some ⟨bb, bo, none⟩) n c] 24)) E d) (fun xv _ => W - (intOf xv).toNat)
      case atStart => exact ⟨0, _, _, by omega, rfl, Lib.hid fun x' h => absurd h (by omega), rfl⟩
      case round =>
        obtain ⟨x, E1, d1, hx, rfl, HX, rfl⟩ := hrel
        by_cases hxW : x < W
        · have dx : decide ((x : Int) < (W : Int)) = true := by simpa using hxW
          have vx : IntKind.i64.wrap ((x : Int) + 1) = (x : Int) + 1 := IntWalk.i64_in _ (by omega)
          have hk : byN H over y < H := Z.by_lt hyH
          obtain ⟨k, hkk⟩ : ∃ k, byN H over y = k := ⟨_, rfl⟩
          obtain ⟨i, hii⟩ : ∃ i, bxN W back t x = i := ⟨_, rfl⟩
          obtain ⟨r, hrr⟩ : ∃ r, i % W = r := ⟨_, rfl⟩
          have hi : i ≤ 128 := by rw [← hii]; unfold bxN; split <;> omega
          have hr : r < W := by rw [← hrr]; exact Nat.mod_lt _ hW1
          rw [hkk] at hk
          obtain ⟨P, hP⟩ : ∃ P, y * W + x = P := ⟨_, rfl⟩
          obtain ⟨Q, hQ⟩ : ∃ Q, k * W + r = Q := ⟨_, rfl⟩
          obtain ⟨yw, hyw⟩ : ∃ P, y * W = P := ⟨_, rfl⟩
          obtain ⟨kw, hkw⟩ : ∃ P, k * W = P := ⟨_, rfl⟩
          have hPn := HP.out y x hyH hxW
          have hQn := HP.out k r hk hr
          have g1 : (y : Int) * (W : Int) = (yw : Int) := by rw [← hyw]; push_cast; rfl
          have g2 : (k : Int) * (W : Int) = (kw : Int) := by rw [← hkw]; push_cast; rfl
          rw [hP] at hPn
          rw [hQ] at hQn
          rw [hyw] at hP
          rw [hkw] at hQ
          have r1 : IntKind.i64.wrap (yw : Int) = (yw : Int) := IntWalk.i64_in _ (by omega)
          have r2 : IntKind.i64.wrap (kw : Int) = (kw : Int) := IntWalk.i64_in _ (by omega)
          have r3 : IntKind.i64.wrap ((yw : Int) + (x : Int)) = (P : Int) := by rw [IntWalk.i64_in _ (by omega)]; omega
          have r4 : IntKind.i64.wrap ((kw : Int) + (r : Int)) = (Q : Int) := by rw [IntWalk.i64_in _ (by omega)]; omega
          have r5 : (i : Int).tmod (W : Int) = (r : Int) := by rw [← hrr]; rfl
          have r6 : IntKind.i64.wrap (r : Int) = (r : Int) := IntWalk.i64_in _ (by omega)
          have c0 := HC.out P hPn
          have c1 := HC.out Q hQn
          obtain ⟨X, hX⟩ : ∃ X, cs.getD P 0 = X := ⟨_, rfl⟩
          obtain ⟨Y, hY⟩ : ∃ X, cs.getD Q 0 = X := ⟨_, rfl⟩
          rw [hX] at c0
          rw [hY] at c1
          have HXY : Hid (cs.getD (y * W + x) 0 = X ∧ cs.getD (byN H over y * W + bxN W back t x % W) 0 = Y) := Lib.hid (by rw [hyw, hP, hX, hkk, hii, hrr, hkw, hQ, hY]; exact ⟨rfl, rfl⟩)
          unfold byN at hkk
          unfold bxN at hii
          clear hX hY hP hQ hyw hkw hrr
          by_cases hXY : X = Y
          · have hne : (X != Y) = false := by simpa using hXY
            have HN : Hid (∀ x', x' < x + 1 → cs.getD (y * W + x') 0 = cs.getD (byN H over y * W + bxN W back t x' % W) 0) := Lib.hid fun x' hx' => by
              by_cases e : x' = x
              · subst e; rw [HXY.out.1, HXY.out.2, hXY]
              · exact HX.out x' (by omega)
            clear HXY HX hXY
            cases back <;> cases over <;> simp only [if_true, if_false, Bool.false_eq_true] at hkk hii
            · subst hkk
              obtain rfl : yw = kw := by have := g1.symm.trans g2; omega
              clear r1 g1
              have s1 : IntKind.i64.wrap ((x : Int) + (t : Int)) = (i : Int) := by rw [IntWalk.i64_in _ (by omega)]; omega
              clear hii
              go_wp2_with fail
              (refine wp_region_ext (by kernel_rfl) (by kernel_rfl) ?_; (repeat (first | ((with_reducible refine ext_step (fun K hK => ?_)); go_simp; first | (refine hK _ ?_; clear hK K) | (apply Exists.intro; refine ⟨fun _ _ => ?_, hK _ ?_⟩; fail; clear hK K)))); refine wpQuiet_nil ?_; intro E d)
              go_wp2
              go_roundw
              case rel => exact ⟨x + 1, _, _, by omega, by go_num, HN, by simp only [extW_extW]; rfl⟩
              case measure => simp [intOf]; omega
            · have s1 : IntKind.i64.wrap ((x : Int) + (t : Int)) = (i : Int) := by rw [IntWalk.i64_in _ (by omega)]; omega
              have s2 : IntKind.i64.wrap ((H : Int) - 1) = (H : Int) - 1 := IntWalk.i64_in _ (by omega)
              have s3 : IntKind.i64.wrap ((H : Int) - 1 - (y : Int)) = (k : Int) := by rw [IntWalk.i64_in _ (by omega)]; omega
              clear hii hkk
              go_wp2_with fail
              (refine wp_region_ext (by kernel_rfl) (by kernel_rfl) ?_; (repeat (first | ((with_reducible refine ext_step (fun K hK => ?_)); go_simp; first | (refine hK _ ?_; clear hK K) | (apply Exists.intro; refine ⟨fun _ _ => ?_, hK _ ?_⟩; fail; clear hK K)))); refine wpQuiet_nil ?_; intro E d)
              go_wp2
              go_roundw
              case rel => exact ⟨x + 1, _, _, by omega, by go_num, HN, by simp only [extW_extW]; rfl⟩
              case measure => simp [intOf]; omega
            · subst hkk
              obtain rfl : yw = kw := by have := g1.symm.trans g2; omega
              clear r1 g1
              have s1 : IntKind.i64.wrap ((t : Int) - (x : Int)) = (t : Int) - (x : Int) := IntWalk.i64_in _ (by omega)
              have s2 : IntKind.i64.wrap ((t : Int) - (x : Int) + (W : Int)) = (i : Int) := by rw [IntWalk.i64_in _ (by omega)]; omega
              clear hii
              go_wp2_with fail
              (refine wp_region_ext (by kernel_rfl) (by kernel_rfl) ?_; (repeat (first | ((with_reducible refine ext_step (fun K hK => ?_)); go_simp; first | (refine hK _ ?_; clear hK K) | (apply Exists.intro; refine ⟨fun _ _ => ?_, hK _ ?_⟩; fail; clear hK K)))); refine wpQuiet_nil ?_; intro E d)
              go_wp2
              go_roundw
              case rel => exact ⟨x + 1, _, _, by omega, by go_num, HN, by simp only [extW_extW]; rfl⟩
              case measure => simp [intOf]; omega
            · have s1 : IntKind.i64.wrap ((t : Int) - (x : Int)) = (t : Int) - (x : Int) := IntWalk.i64_in _ (by omega)
              have s4 : IntKind.i64.wrap ((t : Int) - (x : Int) + (W : Int)) = (i : Int) := by rw [IntWalk.i64_in _ (by omega)]; omega
              have s2 : IntKind.i64.wrap ((H : Int) - 1) = (H : Int) - 1 := IntWalk.i64_in _ (by omega)
              have s3 : IntKind.i64.wrap ((H : Int) - 1 - (y : Int)) = (k : Int) := by rw [IntWalk.i64_in _ (by omega)]; omega
              clear hii hkk
              go_wp2_with fail
              (refine wp_region_ext (by kernel_rfl) (by kernel_rfl) ?_; (repeat (first | ((with_reducible refine ext_step (fun K hK => ?_)); go_simp; first | (refine hK _ ?_; clear hK K) | (apply Exists.intro; refine ⟨fun _ _ => ?_, hK _ ?_⟩; fail; clear hK K)))); refine wpQuiet_nil ?_; intro E d)
              go_wp2
              go_roundw
              case rel => exact ⟨x + 1, _, _, by omega, by go_num, HN, by simp only [extW_extW]; rfl⟩
              case measure => simp [intOf]; omega
          · have hne : (X != Y) = true := by simpa using hXY
            have HV := Lib.hid (HF.out (fun hall => hXY (by have := hall y hyH x hxW; rw [HXY.out.1, HXY.out.2] at this; exact this)))
            clear HXY HX HY HT HF hXY
            cases back <;> cases over <;> simp only [if_true, if_false, Bool.false_eq_true] at hkk hii
            · subst hkk
              obtain rfl : yw = kw := by have := g1.symm.trans g2; omega
              clear r1 g1
              have s1 : IntKind.i64.wrap ((x : Int) + (t : Int)) = (i : Int) := by rw [IntWalk.i64_in _ (by omega)]; omega
              clear hii
              go_wp2_with fail
              (refine wp_region_ext (by kernel_rfl) (by kernel_rfl) ?_; (repeat (first | ((with_reducible refine ext_step (fun K hK => ?_)); go_simp; first | (refine hK _ ?_; clear hK K) | (apply Exists.intro; refine ⟨fun _ _ => ?_, hK _ ?_⟩; fail; clear hK K)))); refine wpQuiet_nil ?_; intro E d)
              go_wp2
              go_ret
              exact ⟨by rw [HV.out]; rfl, (by repeat (first | exact Below.refl _ _ | refine Below.drew ?_ | refine below_drewN ?_ _ | refine Below.alloc ?_ (by first | exact Nat.le_refl _ | (simp; done) | (simp; omega) | omega) _ | refine Below.setCell ?_ (by first | exact Nat.le_refl _ | (simp; done) | (simp; omega) | omega) _ | refine bExtW ?_ (by first | exact Nat.le_refl _ | (simp; done) | (simp; omega) | omega) | refine Below.trans ?_ (Below.mono (by assumption) (by first | exact Nat.le_refl _ | (simp; done) | (simp; omega) | omega))))⟩
            · have s1 : IntKind.i64.wrap ((x : Int) + (t : Int)) = (i : Int) := by rw [IntWalk.i64_in _ (by omega)]; omega
              have s2 : IntKind.i64.wrap ((H : Int) - 1) = (H : Int) - 1 := IntWalk.i64_in _ (by omega)
              have s3 : IntKind.i64.wrap ((H : Int) - 1 - (y : Int)) = (k : Int) := by rw [IntWalk.i64_in _ (by omega)]; omega
              clear hii hkk
              go_wp2_with fail
              (refine wp_region_ext (by kernel_rfl) (by kernel_rfl) ?_; (repeat (first | ((with_reducible refine ext_step (fun K hK => ?_)); go_simp; first | (refine hK _ ?_; clear hK K) | (apply Exists.intro; refine ⟨fun _ _ => ?_, hK _ ?_⟩; fail; clear hK K)))); refine wpQuiet_nil ?_; intro E d)
              go_wp2
              go_ret
              exact ⟨by rw [HV.out]; rfl, (by repeat (first | exact Below.refl _ _ | refine Below.drew ?_ | refine below_drewN ?_ _ | refine Below.alloc ?_ (by first | exact Nat.le_refl _ | (simp; done) | (simp; omega) | omega) _ | refine Below.setCell ?_ (by first | exact Nat.le_refl _ | (simp; done) | (simp; omega) | omega) _ | refine bExtW ?_ (by first | exact Nat.le_refl _ | (simp; done) | (simp; omega) | omega) | refine Below.trans ?_ (Below.mono (by assumption) (by first | exact Nat.le_refl _ | (simp; done) | (simp; omega) | omega))))⟩
            · subst hkk
              obtain rfl : yw = kw := by have := g1.symm.trans g2; omega
              clear r1 g1
              have s1 : IntKind.i64.wrap ((t : Int) - (x : Int)) = (t : Int) - (x : Int) := IntWalk.i64_in _ (by omega)
              have s2 : IntKind.i64.wrap ((t : Int) - (x : Int) + (W : Int)) = (i : Int) := by rw [IntWalk.i64_in _ (by omega)]; omega
              clear hii
              go_wp2_with fail
              (refine wp_region_ext (by kernel_rfl) (by kernel_rfl) ?_; (repeat (first | ((with_reducible refine ext_step (fun K hK => ?_)); go_simp; first | (refine hK _ ?_; clear hK K) | (apply Exists.intro; refine ⟨fun _ _ => ?_, hK _ ?_⟩; fail; clear hK K)))); refine wpQuiet_nil ?_; intro E d)
              go_wp2
              go_ret
              exact ⟨by rw [HV.out]; rfl, (by repeat (first | exact Below.refl _ _ | refine Below.drew ?_ | refine below_drewN ?_ _ | refine Below.alloc ?_ (by first | exact Nat.le_refl _ | (simp; done) | (simp; omega) | omega) _ | refine Below.setCell ?_ (by first | exact Nat.le_refl _ | (simp; done) | (simp; omega) | omega) _ | refine bExtW ?_ (by first | exact Nat.le_refl _ | (simp; done) | (simp; omega) | omega) | refine Below.trans ?_ (Below.mono (by assumption) (by first | exact Nat.le_refl _ | (simp; done) | (simp; omega) | omega))))⟩
            · have s1 : IntKind.i64.wrap ((t : Int) - (x : Int)) = (t : Int) - (x : Int) := IntWalk.i64_in _ (by omega)
              have s4 : IntKind.i64.wrap ((t : Int) - (x : Int) + (W : Int)) = (i : Int) := by rw [IntWalk.i64_in _ (by omega)]; omega
              have s2 : IntKind.i64.wrap ((H : Int) - 1) = (H : Int) - 1 := IntWalk.i64_in _ (by omega)
              have s3 : IntKind.i64.wrap ((H : Int) - 1 - (y : Int)) = (k : Int) := by rw [IntWalk.i64_in _ (by omega)]; omega
              clear hii hkk
              go_wp2_with fail
              (refine wp_region_ext (by kernel_rfl) (by kernel_rfl) ?_; (repeat (first | ((with_reducible refine ext_step (fun K hK => ?_)); go_simp; first | (refine hK _ ?_; clear hK K) | (apply Exists.intro; refine ⟨fun _ _ => ?_, hK _ ?_⟩; fail; clear hK K)))); refine wpQuiet_nil ?_; intro E d)
              go_wp2
              go_ret
              exact ⟨by rw [HV.out]; rfl, (by repeat (first | exact Below.refl _ _ | refine Below.drew ?_ | refine below_drewN ?_ _ | refine Below.alloc ?_ (by first | exact Nat.le_refl _ | (simp; done) | (simp; omega) | omega) _ | refine Below.setCell ?_ (by first | exact Nat.le_refl _ | (simp; done) | (simp; omega) | omega) _ | refine bExtW ?_ (by first | exact Nat.le_refl _ | (simp; done) | (simp; omega) | omega) | refine Below.trans ?_ (Below.mono (by assumption) (by first | exact Nat.le_refl _ | (simp; done) | (simp; omega) | omega))))⟩
        · obtain rfl : x = W := by omega
          have dx : decide ((x : Int) < (x : Int)) = false := by simp
          have HN : Hid (∀ y', y' < y + 1 → ∀ x', x' < x → cs.getD (y' * x + x') 0 = cs.getD (byN H over y' * x + bxN x back t x' % x) 0) := Lib.hid fun y' hy' x' hx' => by
            by_cases e : y' = y
            · subst e; exact HX.out x' hx'
            · exact HY.out y' (by omega) x' hx'
          clear HX HY
          go_wp2
          go_roundw
          case rel => exact ⟨y + 1, _, _, by omega, by go_num, HN, rfl⟩
          case measure => simp [intOf]; omega
    · obtain rfl : y = H := by omega
      have dy : decide ((y : Int) < (y : Int)) = false := by simp
      have HV := Lib.hid (HT.out HY.out)
      clear HT HF HY
      go_wp2
      go_ret
      exact ⟨by rw [HV.out]; rfl, (by repeat (first | exact Below.refl _ _ | refine Below.drew ?_ | refine below_drewN ?_ _ | refine Below.alloc ?_ (by first | exact Nat.le_refl _ | (simp; done) | (simp; omega) | omega) _ | refine Below.setCell ?_ (by first | exact Nat.le_refl _ | (simp; done) | (simp; omega) | omega) _ | refine bExtW ?_ (by first | exact Nat.le_refl _ | (simp; done) | (simp; omega) | omega) | refine Below.trans ?_ (Below.mono (by assumption) (by first | exact Nat.le_refl _ | (simp; done) | (simp; omega) | omega))))⟩
end Go.Proofs.Ytooilennejakhaa

namespace Go.Proofs.Ytooilennejakhaa
open Go.RowKit
set_option linter.unusedVariables false
set_option linter.unusedSimpArgs false
open Z (bsP bsB keP keB)
/-- A chart in a block. -/
def CBx (q : Nat) (G W H : Int) (a : Option Addr) (n c : Nat) (w : World) : Prop :=
  w.rowIs q 24 4 (fun j => if j = 0 then .int .i64 G else if j = 1 then .int .i64 W else if j = 2 then .int .i64 H else .slice a n c)
set_option maxRecDepth 100000 in
set_option maxHeartbeats 8000000 in
theorem kept_ok (G W H n p m q : Nat) (back over : Bool) (a : Option Addr) (c : Nat) (cs : List Int) (w : World) (hI : IsInts w a n cs) (h : ChOk G W H n cs) (hq : CBx q G W H a n c w) (hp : p ≤ m) (hm : m ≤ 64) :
    Calls Try.prog 29 #[.bool back, .bool over, .int .i64 (p), .int .i64 (m), .pointer (some ⟨q, 0, none⟩)] w fun r w' => r = .returned (.bool (keB W H cs back over p m)) ∧ Below w.heap.size w w' := by
  have HS := Lib.hid (fun t w (ht : t ≤ 64) hI => same_ok G W H n t back over a c cs w hI h ht)
  have HI := Lib.hid hI
  have HT : Hid (keP W H cs back over p m → keB W H cs back over p m = true) := Lib.hid fun h => decide_eq_true h
  have HF : Hid (¬ keP W H cs back over p m → keB W H cs back over p m = false) := Lib.hid fun h => decide_eq_false h
  have HB : Hid (∀ t, bsB W H cs back over t = true ↔ bsP W H cs back over t) := Lib.hid fun t => decide_eq_true_iff
  unfold CBx at hq
  have q0 : w.cell? ⟨q, 0, none⟩ = some (.int .i64 (G)) := hq.cell (i := 0) (by omega)
  have q1 : w.cell? ⟨q, 1, none⟩ = some (.int .i64 (W)) := hq.cell (i := 1) (by omega)
  have q2 : w.cell? ⟨q, 2, none⟩ = some (.int .i64 (H)) := hq.cell (i := 2) (by omega)
  have q3 : w.cell? ⟨q, 3, none⟩ = some (.slice a n c) := hq.cell (i := 3) (by omega)
  have lq : LtW q w := hq.lt
  generalize keB W H cs back over p m = B at *
  clear hI h hq
  go_enter Try.func29, Try.ntmps29
  go_wp2_with fail
  go_loopw [10] (fun tv wr => ∃ (t : Nat) (E : Array Obj) (d : Nat), p ≤ t ∧ t ≤ m ∧ tv = .int .i64 t ∧ Hid (∀ u, u < t → p ≤ u → ¬ bsP W H cs back over u) ∧ wr = extW w E d) (fun tv _ => m - (intOf tv).toNat)
  case atStart => exact ⟨p, #[], _, Nat.le_refl _, hp, rfl, Lib.hid fun u h h2 => absurd h (by omega), extW_zero _⟩
  case round =>
    obtain ⟨t, E, d, hpt, htm, rfl, HN, rfl⟩ := hrel
    by_cases hlt : t < m
    · have dt : decide ((t : Int) < (m : Int)) = true := by simpa using hlt
      have vt : IntKind.i64.wrap ((t : Int) + 1) = (t : Int) + 1 := IntWalk.i64_in _ (by omega)
      have HSt := Lib.hid (fun w hI => HS.out t w (by omega) hI)
      have HBt := Lib.hid (HB.out t)
      generalize bsB W H cs back over t = bt at *
      cases bt with
      | true =>
        have HV := Lib.hid (HT.out ⟨t, hlt, hpt, HBt.out.1 rfl⟩)
        clear HT HF HN HBt HB
        (go_wp2_with fail; refine (HSt.out _ (HI.out.below (by repeat (first | exact Below.refl _ _ | refine Below.drew ?_ | refine below_drewN ?_ _ | refine Below.alloc ?_ (by first | exact Nat.le_refl _ | (simp; done) | (simp; omega) | omega) _ | refine Below.setCell ?_ (by first | exact Nat.le_refl _ | (simp; done) | (simp; omega) | omega) _ | refine bExtW ?_ (by first | exact Nat.le_refl _ | (simp; done) | (simp; omega) | omega) | refine Below.trans ?_ (Below.mono (by assumption) (by first | exact Nat.le_refl _ | (simp; done) | (simp; omega) | omega)))))).mono ?_; rintro r w1 ⟨rfl, hb⟩; obtain ⟨E, d, rfl⟩ := bExt hb; clear hb)
        go_wp2
        go_ret
        exact ⟨by rw [HV.out]; rfl, (by repeat (first | exact Below.refl _ _ | refine Below.drew ?_ | refine below_drewN ?_ _ | refine Below.alloc ?_ (by first | exact Nat.le_refl _ | (simp; done) | (simp; omega) | omega) _ | refine Below.setCell ?_ (by first | exact Nat.le_refl _ | (simp; done) | (simp; omega) | omega) _ | refine bExtW ?_ (by first | exact Nat.le_refl _ | (simp; done) | (simp; omega) | omega) | refine Below.trans ?_ (Below.mono (by assumption) (by first | exact Nat.le_refl _ | (simp; done) | (simp; omega) | omega))))⟩
      | false =>
        have HN2 : Hid (∀ u, u < t + 1 → p ≤ u → ¬ bsP W H cs back over u) := Lib.hid fun u h1 h2 h3 => by
          by_cases e : u = t
          · subst e
            have := HBt.out.2 h3
            cases this
          · exact HN.out u (by omega) h2 h3
        clear HN HBt
        (go_wp2_with fail; refine (HSt.out _ (HI.out.below (by repeat (first | exact Below.refl _ _ | refine Below.drew ?_ | refine below_drewN ?_ _ | refine Below.alloc ?_ (by first | exact Nat.le_refl _ | (simp; done) | (simp; omega) | omega) _ | refine Below.setCell ?_ (by first | exact Nat.le_refl _ | (simp; done) | (simp; omega) | omega) _ | refine bExtW ?_ (by first | exact Nat.le_refl _ | (simp; done) | (simp; omega) | omega) | refine Below.trans ?_ (Below.mono (by assumption) (by first | exact Nat.le_refl _ | (simp; done) | (simp; omega) | omega)))))).mono ?_; rintro r w1 ⟨rfl, hb⟩; obtain ⟨E, d, rfl⟩ := bExt hb; clear hb)
        go_wp2
        go_roundw
        case rel => exact ⟨t + 1, _, _, by omega, by omega, by go_num, HN2, by simp only [extW_extW]; rfl⟩
        case measure => simp [intOf]; omega
    · obtain rfl : t = m := by omega
      have dt : decide ((t : Int) < (t : Int)) = false := by simp
      have HV := Lib.hid (HF.out (fun ⟨u, h1, h2, h3⟩ => HN.out u h1 h2 h3))
      clear HT HF HN HB
      go_wp2
      go_ret
      exact ⟨by rw [HV.out]; rfl, (by repeat (first | exact Below.refl _ _ | refine Below.drew ?_ | refine below_drewN ?_ _ | refine Below.alloc ?_ (by first | exact Nat.le_refl _ | (simp; done) | (simp; omega) | omega) _ | refine Below.setCell ?_ (by first | exact Nat.le_refl _ | (simp; done) | (simp; omega) | omega) _ | refine bExtW ?_ (by first | exact Nat.le_refl _ | (simp; done) | (simp; omega) | omega) | refine Below.trans ?_ (Below.mono (by assumption) (by first | exact Nat.le_refl _ | (simp; done) | (simp; omega) | omega))))⟩
end Go.Proofs.Ytooilennejakhaa
