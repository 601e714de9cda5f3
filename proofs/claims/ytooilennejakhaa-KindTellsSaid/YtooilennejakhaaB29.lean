/- Lemmas and contracts of functions (what each call returns, and that it changes nothing that was there) that the proof of a law of this seat uses; each lemma states its own conditions. -/
import Derived.Test.YtooilennejakhaaB24
import Derived.Test.YtooilennejakhaaB28
import Derived.Test.YtooilennejakhaaB11
namespace Go.Proofs.Ytooilennejakhaa
open Go.RowKit
set_option linter.unusedVariables false
set_option linter.unusedSimpArgs false
open Z (bsP bsB keP keB bandP bandV)
set_option maxRecDepth 100000 in
set_option maxHeartbeats 8000000 in
theorem Band_wrong (G W H : Int) (a : Option Addr) (n c : Nat) (cs : List Int) (w : World) (hI : IsInts w a n cs) (h0 : (-9223372036854775808 ≤ G ∧ G ≤ 9223372036854775807)) (h1 : (-9223372036854775808 ≤ W ∧ W ≤ 9223372036854775807)) (h2 : (-9223372036854775808 ≤ H ∧ H ≤ 9223372036854775807)) (h3 : n ≤ 9223372036854775807) (he : chE G W H n cs ≠ 0) :
    Calls Try.prog 13 #[.agg #[.int .i64 (G), .int .i64 (W), .int .i64 (H), .slice a n c]] w fun r w' => r = .returned (.tuple #[.int .i64 (0), .int .i64 (chE G W H n cs)]) ∧ Below w.heap.size w w' := by
  have hb : (chE G W H n cs != 0) = true := by simpa using he
  have HW := Lib.hid (fun w hI => chWrong_any G W H a n c cs w hI h0 h1 h2 h3)
  have HI := Lib.hid hI
  generalize chE G W H n cs = e at *
  clear hI h0 h1 h2 h3 he
  go_enter Try.func13, Try.ntmps13
  (go_wp2_with fail; refine (HW.out _ (HI.out.below (by repeat (first | exact Below.refl _ _ | refine Below.drew ?_ | refine below_drewN ?_ _ | refine Below.alloc ?_ (by first | exact Nat.le_refl _ | (simp; done) | (simp; omega) | omega) _ | refine Below.setCell ?_ (by first | exact Nat.le_refl _ | (simp; done) | (simp; omega) | omega) _ | refine bExtW ?_ (by first | exact Nat.le_refl _ | (simp; done) | (simp; omega) | omega) | refine Below.trans ?_ (Below.mono (by assumption) (by first | exact Nat.le_refl _ | (simp; done) | (simp; omega) | omega)))))).mono ?_; rintro r w1 ⟨rfl, hb⟩; obtain ⟨E, d, rfl⟩ := bExt hb; clear hb)
  go_wp2
  refine bodyPost_ret (v := .tuple #[.int .i64 (0), .int .i64 (e)]) (by simp [results, Try.results13, go_sem]) rfl ⟨rfl, (by repeat (first | exact Below.refl _ _ | refine Below.drew ?_ | refine below_drewN ?_ _ | refine Below.alloc ?_ (by first | exact Nat.le_refl _ | (simp; done) | (simp; omega) | omega) _ | refine Below.setCell ?_ (by first | exact Nat.le_refl _ | (simp; done) | (simp; omega) | omega) _ | refine bExtW ?_ (by first | exact Nat.le_refl _ | (simp; done) | (simp; omega) | omega) | refine Below.trans ?_ (Below.mono (by assumption) (by first | exact Nat.le_refl _ | (simp; done) | (simp; omega) | omega))))⟩
set_option maxRecDepth 100000 in
set_option maxHeartbeats 8000000 in
theorem Band_hex (W H n : Nat) (a : Option Addr) (c : Nat) (cs : List Int) (w : World) (hI : IsInts w a n cs) (h : ChOk 6 W H n cs) :
    Calls Try.prog 13 #[.agg #[.int .i64 (6), .int .i64 (W), .int .i64 (H), .slice a n c]] w fun r w' => r = .returned (.tuple #[.int .i64 (0), .int .i64 (8)]) ∧ Below w.heap.size w w' := by
  have hn4 := h.n4
  have HW := Lib.hid (fun w hI => chWrong_any 6 W H a n c cs w hI (by omega) (by have := h.w2; omega) (by have := h.h2; omega) (by omega))
  have he : chE 6 W H n cs = 0 := h.e
  rw [he] at HW
  have HI := Lib.hid hI
  clear hI h he
  go_enter Try.func13, Try.ntmps13
  (go_wp2_with fail; refine (HW.out _ (HI.out.below (by repeat (first | exact Below.refl _ _ | refine Below.drew ?_ | refine below_drewN ?_ _ | refine Below.alloc ?_ (by first | exact Nat.le_refl _ | (simp; done) | (simp; omega) | omega) _ | refine Below.setCell ?_ (by first | exact Nat.le_refl _ | (simp; done) | (simp; omega) | omega) _ | refine bExtW ?_ (by first | exact Nat.le_refl _ | (simp; done) | (simp; omega) | omega) | refine Below.trans ?_ (Below.mono (by assumption) (by first | exact Nat.le_refl _ | (simp; done) | (simp; omega) | omega)))))).mono ?_; rintro r w1 ⟨rfl, hb⟩; obtain ⟨E, d, rfl⟩ := bExt hb; clear hb)
  go_wp2
  refine bodyPost_ret (v := .tuple #[.int .i64 (0), .int .i64 (8)]) (by simp [results, Try.results13, go_sem]) rfl ⟨rfl, (by repeat (first | exact Below.refl _ _ | refine Below.drew ?_ | refine below_drewN ?_ _ | refine Below.alloc ?_ (by first | exact Nat.le_refl _ | (simp; done) | (simp; omega) | omega) _ | refine Below.setCell ?_ (by first | exact Nat.le_refl _ | (simp; done) | (simp; omega) | omega) _ | refine bExtW ?_ (by first | exact Nat.le_refl _ | (simp; done) | (simp; omega) | omega) | refine Below.trans ?_ (Below.mono (by assumption) (by first | exact Nat.le_refl _ | (simp; done) | (simp; omega) | omega))))⟩
set_option maxRecDepth 100000 in
set_option maxHeartbeats 8000000 in
theorem Band_ok (W H n : Nat) (a : Option Addr) (c : Nat) (cs : List Int) (w : World) (hI : IsInts w a n cs) (h : ChOk 4 W H n cs) :
    Calls Try.prog 13 #[.agg #[.int .i64 (4), .int .i64 (W), .int .i64 (H), .slice a n c]] w fun r w' => r = .returned (.tuple #[.int .i64 (bandP W H cs), .int .i64 (0)]) ∧ Below w.heap.size w w' := by
  have hn4 := h.n4
  have hw1 := h.w1; have hw2 := h.w2
  have HW := Lib.hid (fun w hI => chWrong_any 4 W H a n c cs w hI (by omega) (by omega) (by have := h.h2; omega) (by omega))
  have he : chE 4 W H n cs = 0 := h.e
  rw [he] at HW
  obtain ⟨W0, hW0⟩ : ∃ W0, w.alloc (.cells #[.int .i64 (4), .int .i64 (W), .int .i64 (H), .slice a n c] 24) = W0 := ⟨_, rfl⟩
  have hb0 : Below w.heap.size w W0 := by rw [← hW0]; exact (by repeat (first | exact Below.refl _ _ | refine Below.drew ?_ | refine below_drewN ?_ _ | refine Below.alloc ?_ (by first | exact Nat.le_refl _ | (simp; done) | (simp; omega) | omega) _ | refine Below.setCell ?_ (by first | exact Nat.le_refl _ | (simp; done) | (simp; omega) | omega) _ | refine bExtW ?_ (by first | exact Nat.le_refl _ | (simp; done) | (simp; omega) | omega) | refine Below.trans ?_ (Below.mono (by assumption) (by first | exact Nat.le_refl _ | (simp; done) | (simp; omega) | omega))))
  have hz0 : W0.heap.size = w.heap.size + 1 := by rw [← hW0]; simp
  have hr0 := row4 w (.int .i64 (4)) (.int .i64 (W)) (.int .i64 (H)) (.slice a n c) 24
  rw [hW0] at hr0
  have hk : ∀ (w1 : World), Below W0.heap.size W0 w1 → ∀ (p m : Nat) (back over : Bool), p ≤ m → m ≤ 64 → Calls Try.prog 29 #[.bool back, .bool over, .int .i64 (p), .int .i64 (m), .pointer (some ⟨w.heap.size, 0, none⟩)] w1 fun r w' => r = .returned (.bool (keB W H cs back over p m)) ∧ Below w1.heap.size w1 w' :=
    fun w1 hb p m back over hp hm => kept_ok 4 W H n p m w.heap.size back over a c cs w1 (hI.below (hb0.trans (hb.mono (by omega)))) h (rowBelow hr0 hb (by omega)) hp hm
  have HK1 : Hid (∀ (E : Array Obj) (d : Nat) (E' : Array Obj) (d' : Nat), Calls Try.prog 29 #[.bool true, .bool false, .int .i64 0, .int .i64 (W : Int), .pointer (some ⟨w.heap.size, 0, none⟩)] (extW (extW W0 E d) E' d') fun r w' => r = .returned (.bool (keB W H cs true false 0 W)) ∧ Below (extW (extW W0 E d) E' d').heap.size (extW (extW W0 E d) E' d') w') := Lib.hid (fun E d E' d' => hk _ (bExtW (bExtW (Below.refl _ _) (Nat.le_refl _)) (by simp)) 0 W true false (by omega) (by omega))
  have HK2 : Hid (∀ (E : Array Obj) (d : Nat) (E' : Array Obj) (d' : Nat), Calls Try.prog 29 #[.bool true, .bool true, .int .i64 0, .int .i64 (W : Int), .pointer (some ⟨w.heap.size, 0, none⟩)] (extW (extW W0 E d) E' d') fun r w' => r = .returned (.bool (keB W H cs true true 0 W)) ∧ Below (extW (extW W0 E d) E' d').heap.size (extW (extW W0 E d) E' d') w') := Lib.hid (fun E d E' d' => hk _ (bExtW (bExtW (Below.refl _ _) (Nat.le_refl _)) (by simp)) 0 W true true (by omega) (by omega))
  have HK3 : Hid (∀ (E : Array Obj) (d : Nat) (E' : Array Obj) (d' : Nat) (E2 : Array Obj) (d2 : Nat), Calls Try.prog 29 #[.bool false, .bool true, .int .i64 0, .int .i64 1, .pointer (some ⟨w.heap.size, 0, none⟩)] (extW (extW (extW W0 E d) E' d') E2 d2) fun r w' => r = .returned (.bool (keB W H cs false true 0 1)) ∧ Below (extW (extW (extW W0 E d) E' d') E2 d2).heap.size (extW (extW (extW W0 E d) E' d') E2 d2) w') := Lib.hid (fun E d E' d' E2 d2 => hk _ (bExtW (bExtW (bExtW (Below.refl _ _) (Nat.le_refl _)) (by simp)) (by simp; omega)) 0 1 false true (by omega) (by omega))
  have HK4 : Hid (∀ (E : Array Obj) (d : Nat) (E' : Array Obj) (d' : Nat) (E2 : Array Obj) (d2 : Nat), Calls Try.prog 29 #[.bool false, .bool true, .int .i64 1, .int .i64 (W : Int), .pointer (some ⟨w.heap.size, 0, none⟩)] (extW (extW (extW W0 E d) E' d') E2 d2) fun r w' => r = .returned (.bool (keB W H cs false true 1 W)) ∧ Below (extW (extW (extW W0 E d) E' d') E2 d2).heap.size (extW (extW (extW W0 E d) E' d') E2 d2) w') := Lib.hid (fun E d E' d' E2 d2 => hk _ (bExtW (bExtW (bExtW (Below.refl _ _) (Nat.le_refl _)) (by simp)) (by simp; omega)) 1 W false true (by omega) (by omega))
  have HI := Lib.hid hI
  unfold bandP
  generalize keB W H cs true false 0 W = b1 at *
  generalize keB W H cs true true 0 W = b2 at *
  generalize keB W H cs false true 0 1 = b3 at *
  generalize keB W H cs false true 1 W = b4 at *
  have HW0 := Lib.hid hW0
  have z1 : W0.cell? ⟨w.heap.size, 0, none⟩ = some (.int .i64 (4)) := hr0.cell (i := 0) (by omega)
  have z2 : W0.cell? ⟨w.heap.size, 1, none⟩ = some (.int .i64 (W)) := hr0.cell (i := 1) (by omega)
  have z3 : W0.cell? ⟨w.heap.size, 2, none⟩ = some (.int .i64 (H)) := hr0.cell (i := 2) (by omega)
  have z4 : W0.cell? ⟨w.heap.size, 3, none⟩ = some (.slice a n c) := hr0.cell (i := 3) (by omega)
  have lz : LtW w.heap.size W0 := hr0.lt
  have HB0 := Lib.hid hb0
  clear hI h he hk hb0 hz0 hr0 hW0
  go_enter Try.func13, Try.ntmps13
  (go_wp2_with fail; refine (HW.out _ (HI.out.below (by repeat (first | exact Below.refl _ _ | refine Below.drew ?_ | refine below_drewN ?_ _ | refine Below.alloc ?_ (by first | exact Nat.le_refl _ | (simp; done) | (simp; omega) | omega) _ | refine Below.setCell ?_ (by first | exact Nat.le_refl _ | (simp; done) | (simp; omega) | omega) _ | refine bExtW ?_ (by first | exact Nat.le_refl _ | (simp; done) | (simp; omega) | omega) | refine Below.trans ?_ (Below.mono (by assumption) (by first | exact Nat.le_refl _ | (simp; done) | (simp; omega) | omega)))))).mono ?_; rintro r w1 ⟨rfl, hb⟩; obtain ⟨E, d, rfl⟩ := bExt hb; clear hb)
  rw [HW0.out]
  go_wp2_with fail
  (refine wp_region_ext (by kernel_rfl) (by kernel_rfl) ?_; (repeat (first | ((with_reducible refine ext_step (fun K hK => ?_)); go_simp; first | (refine hK _ ?_; clear hK K) | (apply Exists.intro; refine ⟨fun _ _ => ?_, hK _ ?_⟩; (go_at_call 29; first | with_reducible exact extOf (HK1.out _ _ _ _) | with_reducible exact extOf (HK2.out _ _ _ _)); clear hK K)))); refine wpQuiet_nil ?_; intro E d)
  go_wp2_with fail
  (refine wp_region_ext (by kernel_rfl) (by kernel_rfl) ?_; (repeat (first | ((with_reducible refine ext_step (fun K hK => ?_)); go_simp; first | (refine hK _ ?_; clear hK K) | (apply Exists.intro; refine ⟨fun _ _ => ?_, hK _ ?_⟩; (go_at_call 29; first | with_reducible exact extOf (HK3.out _ _ _ _ _ _) | with_reducible exact extOf (HK4.out _ _ _ _ _ _)); clear hK K)))); refine wpQuiet_nil ?_; intro E d)
  have HE : Hid (∀ E' d', Below w.heap.size w (extW W0 E' d')) := Lib.hid fun E' d' => bExtW HB0.out HB0.out.size
  clear HK1 HK2 HK3 HK4 HW HW0
  cases b1 <;> cases b2 <;> cases b3 <;> cases b4
  all_goals
    go_wp2
    refine bodyPost_ret (v := _) (by simp [results, Try.results13, go_sem, bandV]) rfl ⟨rfl, by simp only [extW_extW]; exact HE.out _ _⟩
end Go.Proofs.Ytooilennejakhaa

namespace Go.Proofs.Ytooilennejakhaa
open Go.RowKit
set_option linter.unusedVariables false
set_option linter.unusedSimpArgs false
open Z (bsP bsB bxN byN cB bxZ)
theorem cell_cB {W H : Nat} {cs : List Int} {y : Nat} (hy : y < H) (x : Int) : cellAt W H cs x (y : Int) = cB W cs x y := by
  unfold cellAt cB
  rw [Int.emod_eq_of_lt (by omega) (by omega)]
  rfl
theorem bsP_cB {W H : Nat} {cs : List Int} {back over : Bool} {t : Nat} : bsP W H cs back over t ↔ ∀ y, y < H → ∀ x, x < W → cB W cs (x : Int) y = cB W cs (bxZ back t x) (byN H over y) := by
  unfold bsP
  refine forall_congr' fun y => forall_congr' fun hy => forall_congr' fun x => forall_congr' fun hx => ?_
  rw [← Z.cB_nat hx, ← Z.cB_mod, Z.bx_cast hx]
set_option maxRecDepth 100000 in
set_option maxHeartbeats 8000000 in
theorem rKept4_ok (G W H n t : Nat) (back over : Bool) (a : Option Addr) (c : Nat) (cs : List Int) (w : World) (hI : IsInts w a n cs) (h : ChOk G W H n cs) (ht : t ≤ 64) :
    Calls Try.prog 39 #[.agg #[.int .i64 (G), .int .i64 (W), .int .i64 (H), .slice a n c], .bool back, .bool over, .int .i64 (t)] w fun r w' => r = .returned (.bool (bsB W H cs back over t)) ∧ Below w.heap.size w w' := by
  have hn4 := h.n4
  have hW1 := h.w1; have hW2 := h.w2; have hH1 := h.h1; have hH2 := h.h2
  have HN0 := Lib.hid h.hn
  have HI := Lib.hid hI
  have HCE := Lib.hid (fun (x : Int) (y : Nat) w (hy : y < H) (hx : (-9223372036854775808 ≤ x ∧ x ≤ 9223372036854775807)) hI => Cell_ok G W H n a c cs x y w hI hW1 hW2 hH1 hH2 HN0.out hx (by omega))
  have HT : Hid (bsP W H cs back over t → bsB W H cs back over t = true) := Lib.hid fun h => decide_eq_true h
  have HF : Hid (¬ bsP W H cs back over t → bsB W H cs back over t = false) := Lib.hid fun h => decide_eq_false h
  rw [bsP_cB] at HT HF
  generalize bsB W H cs back over t = hb at *
  clear hI h
  go_enter Try.func39, Try.ntmps39
  go_wp2_with fail
  go_loopw [9] (fun yv wr => ∃ (y : Nat) (E : Array Obj) (d : Nat), y ≤ H ∧ yv = .int .i64 y ∧ Hid (∀ v, v < y → ∀ u, u < W → cB W cs (u : Int) v = cB W cs (bxZ back t u) (byN H over v)) ∧ wr = extW (w.alloc (.cells #[.int .i64 G, .int .i64 W, .int .i64 H, .slice a n c] 24)) E d) (fun yv _ => H - (intOf yv).toNat)
  case atStart =>
    obtain ⟨E0, d0, h0⟩ := bExt (Below.refl (w.alloc (.cells #[.int .i64 G, .int .i64 W, .int .i64 H, .slice a n c] 24)).heap.size (w.alloc (.cells #[.int .i64 G, .int .i64 W, .int .i64 H, .slice a n c] 24)))
    exact ⟨0, E0, d0, by omega, rfl, Lib.hid fun i h => absurd h (by omega), h0⟩
  case round =>
    obtain ⟨y, E1, d1, hy, rfl, HY, rfl⟩ := hrel
    by_cases hyH : y < H
    · have dy : decide ((y : Int) < (H : Int)) = true := by simpa using hyH
      have vy : IntKind.i64.wrap ((y : Int) + 1) = (y : Int) + 1 := IntWalk.i64_in _ (by omega)
      go_wp2_with fail
      go_loopw [10] (fun xv wr => ∃ (x : Nat) (E : Array Obj) (d : Nat), x ≤ W ∧ xv = .int .i64 x ∧ Hid (∀ u, u < x → cB W cs (u : Int) y = cB W cs (bxZ back t u) (byN H over y)) ∧ wr = extW (w.alloc (.cells #[.int .i64 G, .int .i64 W, .int .i64 H, .slice a n c] 24)) E d) (fun xv _ => W - (intOf xv).toNat)
      case atStart => exact ⟨0, E1, d1, by omega, rfl, Lib.hid fun i h => absurd h (by omega), rfl⟩
      case round =>
        obtain ⟨x, E2, d2, hx, rfl, HX, rfl⟩ := hrel
        by_cases hxW : x < W
        · have dx : decide ((x : Int) < (W : Int)) = true := by simpa using hxW
          have vx : IntKind.i64.wrap ((x : Int) + 1) = (x : Int) + 1 := IntWalk.i64_in _ (by omega)
          obtain ⟨k, hkk⟩ : ∃ k, byN H over y = k := ⟨_, rfl⟩
          obtain ⟨i, hii⟩ : ∃ i, bxZ back t x = i := ⟨_, rfl⟩
          have hkH : k < H := by rw [← hkk]; unfold byN; split <;> omega
          have hib : -64 ≤ i ∧ i ≤ 128 := by rw [← hii]; unfold bxZ; split <;> omega
          have HC1 := Lib.hid (fun w hI => HCE.out (x : Int) y w hyH (by omega) hI)
          have HC2 := Lib.hid (fun w hI => HCE.out i k w hkH (by omega) hI)
          rw [cell_cB hyH] at HC1
          rw [cell_cB hkH] at HC2
          have HX2 : Hid (cB W cs (x : Int) y = cB W cs i k → ∀ u, u < x + 1 → cB W cs (u : Int) y = cB W cs (bxZ back t u) (byN H over y)) := Lib.hid fun e u hu => by
            by_cases e2 : u = x
            · subst e2; rw [hii, hkk]; exact e
            · exact HX.out u (by omega)
          have HF2 : Hid (cB W cs (x : Int) y ≠ cB W cs i k → hb = false) := Lib.hid fun e => HF.out fun h => e (by have := h y hyH x hxW; rw [hii, hkk] at this; exact this)
          generalize cB W cs (x : Int) y = p at *
          generalize cB W cs i k = q at *
          by_cases hpq : p = q
          · have HN := Lib.hid (HX2.out hpq)
            have b1 : (p != q) = false := by simpa using hpq
            clear HX HX2 HF2 HF HT HCE HY
            cases back <;> cases over <;> simp only [byN, bxZ, if_true, if_false, Bool.false_eq_true] at hkk hii
            · subst hkk
              have s1 : IntKind.i64.wrap ((t : Int) + (x : Int)) = i := by rw [IntWalk.i64_in _ (by omega)]; omega
              clear hii
              go_wp2_with fail
              (refine wp_region_ext (by kernel_rfl) (by kernel_rfl) ?_; (repeat (first | ((with_reducible refine ext_step (fun K hK => ?_)); go_simp; first | (refine hK _ ?_; clear hK K) | (apply Exists.intro; refine ⟨fun _ _ => ?_, hK _ ?_⟩; (go_at_call 52; first | with_reducible exact extOf (HC1.out _ (HI.out.below (by repeat (first | exact Below.refl _ _ | refine Below.drew ?_ | refine below_drewN ?_ _ | refine Below.alloc ?_ (by first | exact Nat.le_refl _ | (simp; done) | (simp; omega) | omega) _ | refine Below.setCell ?_ (by first | exact Nat.le_refl _ | (simp; done) | (simp; omega) | omega) _ | refine bExtW ?_ (by first | exact Nat.le_refl _ | (simp; done) | (simp; omega) | omega) | refine Below.trans ?_ (Below.mono (by assumption) (by first | exact Nat.le_refl _ | (simp; done) | (simp; omega) | omega)))))) | with_reducible exact extOf (HC2.out _ (HI.out.below (by repeat (first | exact Below.refl _ _ | refine Below.drew ?_ | refine below_drewN ?_ _ | refine Below.alloc ?_ (by first | exact Nat.le_refl _ | (simp; done) | (simp; omega) | omega) _ | refine Below.setCell ?_ (by first | exact Nat.le_refl _ | (simp; done) | (simp; omega) | omega) _ | refine bExtW ?_ (by first | exact Nat.le_refl _ | (simp; done) | (simp; omega) | omega) | refine Below.trans ?_ (Below.mono (by assumption) (by first | exact Nat.le_refl _ | (simp; done) | (simp; omega) | omega))))))); clear hK K)))); refine wpQuiet_nil ?_; intro E d)
              go_wp2
              go_roundw
              case rel => exact ⟨x + 1, _, _, by omega, by go_num, HN, by simp only [extW_extW]; rfl⟩
              case measure => simp [intOf]; omega
            · have s1 : IntKind.i64.wrap ((t : Int) + (x : Int)) = i := by rw [IntWalk.i64_in _ (by omega)]; omega
              have s2 : IntKind.i64.wrap ((H : Int) - 1) = (H : Int) - 1 := IntWalk.i64_in _ (by omega)
              have s3 : IntKind.i64.wrap ((H : Int) - 1 - (y : Int)) = (k : Int) := by rw [IntWalk.i64_in _ (by omega)]; omega
              clear hii hkk
              go_wp2_with fail
              (refine wp_region_ext (by kernel_rfl) (by kernel_rfl) ?_; (repeat (first | ((with_reducible refine ext_step (fun K hK => ?_)); go_simp; first | (refine hK _ ?_; clear hK K) | (apply Exists.intro; refine ⟨fun _ _ => ?_, hK _ ?_⟩; (go_at_call 52; first | with_reducible exact extOf (HC1.out _ (HI.out.below (by repeat (first | exact Below.refl _ _ | refine Below.drew ?_ | refine below_drewN ?_ _ | refine Below.alloc ?_ (by first | exact Nat.le_refl _ | (simp; done) | (simp; omega) | omega) _ | refine Below.setCell ?_ (by first | exact Nat.le_refl _ | (simp; done) | (simp; omega) | omega) _ | refine bExtW ?_ (by first | exact Nat.le_refl _ | (simp; done) | (simp; omega) | omega) | refine Below.trans ?_ (Below.mono (by assumption) (by first | exact Nat.le_refl _ | (simp; done) | (simp; omega) | omega)))))) | with_reducible exact extOf (HC2.out _ (HI.out.below (by repeat (first | exact Below.refl _ _ | refine Below.drew ?_ | refine below_drewN ?_ _ | refine Below.alloc ?_ (by first | exact Nat.le_refl _ | (simp; done) | (simp; omega) | omega) _ | refine Below.setCell ?_ (by first | exact Nat.le_refl _ | (simp; done) | (simp; omega) | omega) _ | refine bExtW ?_ (by first | exact Nat.le_refl _ | (simp; done) | (simp; omega) | omega) | refine Below.trans ?_ (Below.mono (by assumption) (by first | exact Nat.le_refl _ | (simp; done) | (simp; omega) | omega))))))); clear hK K)))); refine wpQuiet_nil ?_; intro E d)
              go_wp2
              go_roundw
              case rel => exact ⟨x + 1, _, _, by omega, by go_num, HN, by simp only [extW_extW]; rfl⟩
              case measure => simp [intOf]; omega
            · subst hkk
              have s1 : IntKind.i64.wrap ((t : Int) + (x : Int)) = (t : Int) + (x : Int) := IntWalk.i64_in _ (by omega)
              have s2 : IntKind.i64.wrap ((t : Int) - (x : Int)) = i := by rw [IntWalk.i64_in _ (by omega)]; omega
              clear hii
              go_wp2_with fail
              (refine wp_region_ext (by kernel_rfl) (by kernel_rfl) ?_; (repeat (first | ((with_reducible refine ext_step (fun K hK => ?_)); go_simp; first | (refine hK _ ?_; clear hK K) | (apply Exists.intro; refine ⟨fun _ _ => ?_, hK _ ?_⟩; (go_at_call 52; first | with_reducible exact extOf (HC1.out _ (HI.out.below (by repeat (first | exact Below.refl _ _ | refine Below.drew ?_ | refine below_drewN ?_ _ | refine Below.alloc ?_ (by first | exact Nat.le_refl _ | (simp; done) | (simp; omega) | omega) _ | refine Below.setCell ?_ (by first | exact Nat.le_refl _ | (simp; done) | (simp; omega) | omega) _ | refine bExtW ?_ (by first | exact Nat.le_refl _ | (simp; done) | (simp; omega) | omega) | refine Below.trans ?_ (Below.mono (by assumption) (by first | exact Nat.le_refl _ | (simp; done) | (simp; omega) | omega)))))) | with_reducible exact extOf (HC2.out _ (HI.out.below (by repeat (first | exact Below.refl _ _ | refine Below.drew ?_ | refine below_drewN ?_ _ | refine Below.alloc ?_ (by first | exact Nat.le_refl _ | (simp; done) | (simp; omega) | omega) _ | refine Below.setCell ?_ (by first | exact Nat.le_refl _ | (simp; done) | (simp; omega) | omega) _ | refine bExtW ?_ (by first | exact Nat.le_refl _ | (simp; done) | (simp; omega) | omega) | refine Below.trans ?_ (Below.mono (by assumption) (by first | exact Nat.le_refl _ | (simp; done) | (simp; omega) | omega))))))); clear hK K)))); refine wpQuiet_nil ?_; intro E d)
              go_wp2
              go_roundw
              case rel => exact ⟨x + 1, _, _, by omega, by go_num, HN, by simp only [extW_extW]; rfl⟩
              case measure => simp [intOf]; omega
            · have s1 : IntKind.i64.wrap ((t : Int) + (x : Int)) = (t : Int) + (x : Int) := IntWalk.i64_in _ (by omega)
              have s4 : IntKind.i64.wrap ((t : Int) - (x : Int)) = i := by rw [IntWalk.i64_in _ (by omega)]; omega
              have s2 : IntKind.i64.wrap ((H : Int) - 1) = (H : Int) - 1 := IntWalk.i64_in _ (by omega)
              have s3 : IntKind.i64.wrap ((H : Int) - 1 - (y : Int)) = (k : Int) := by rw [IntWalk.i64_in _ (by omega)]; omega
              clear hii hkk
              go_wp2_with fail
              (refine wp_region_ext (by kernel_rfl) (by kernel_rfl) ?_; (repeat (first | ((with_reducible refine ext_step (fun K hK => ?_)); go_simp; first | (refine hK _ ?_; clear hK K) | (apply Exists.intro; refine ⟨fun _ _ => ?_, hK _ ?_⟩; (go_at_call 52; first | with_reducible exact extOf (HC1.out _ (HI.out.below (by repeat (first | exact Below.refl _ _ | refine Below.drew ?_ | refine below_drewN ?_ _ | refine Below.alloc ?_ (by first | exact Nat.le_refl _ | (simp; done) | (simp; omega) | omega) _ | refine Below.setCell ?_ (by first | exact Nat.le_refl _ | (simp; done) | (simp; omega) | omega) _ | refine bExtW ?_ (by first | exact Nat.le_refl _ | (simp; done) | (simp; omega) | omega) | refine Below.trans ?_ (Below.mono (by assumption) (by first | exact Nat.le_refl _ | (simp; done) | (simp; omega) | omega)))))) | with_reducible exact extOf (HC2.out _ (HI.out.below (by repeat (first | exact Below.refl _ _ | refine Below.drew ?_ | refine below_drewN ?_ _ | refine Below.alloc ?_ (by first | exact Nat.le_refl _ | (simp; done) | (simp; omega) | omega) _ | refine Below.setCell ?_ (by first | exact Nat.le_refl _ | (simp; done) | (simp; omega) | omega) _ | refine bExtW ?_ (by first | exact Nat.le_refl _ | (simp; done) | (simp; omega) | omega) | refine Below.trans ?_ (Below.mono (by assumption) (by first | exact Nat.le_refl _ | (simp; done) | (simp; omega) | omega))))))); clear hK K)))); refine wpQuiet_nil ?_; intro E d)
              go_wp2
              go_roundw
              case rel => exact ⟨x + 1, _, _, by omega, by go_num, HN, by simp only [extW_extW]; rfl⟩
              case measure => simp [intOf]; omega
          · have HV := Lib.hid (HF2.out hpq)
            have b1 : (p != q) = true := by simpa using hpq
            clear HX HX2 HF2 HF HT HCE HY
            cases back <;> cases over <;> simp only [byN, bxZ, if_true, if_false, Bool.false_eq_true] at hkk hii
            · subst hkk
              have s1 : IntKind.i64.wrap ((t : Int) + (x : Int)) = i := by rw [IntWalk.i64_in _ (by omega)]; omega
              clear hii
              go_wp2_with fail
              (refine wp_region_ext (by kernel_rfl) (by kernel_rfl) ?_; (repeat (first | ((with_reducible refine ext_step (fun K hK => ?_)); go_simp; first | (refine hK _ ?_; clear hK K) | (apply Exists.intro; refine ⟨fun _ _ => ?_, hK _ ?_⟩; (go_at_call 52; first | with_reducible exact extOf (HC1.out _ (HI.out.below (by repeat (first | exact Below.refl _ _ | refine Below.drew ?_ | refine below_drewN ?_ _ | refine Below.alloc ?_ (by first | exact Nat.le_refl _ | (simp; done) | (simp; omega) | omega) _ | refine Below.setCell ?_ (by first | exact Nat.le_refl _ | (simp; done) | (simp; omega) | omega) _ | refine bExtW ?_ (by first | exact Nat.le_refl _ | (simp; done) | (simp; omega) | omega) | refine Below.trans ?_ (Below.mono (by assumption) (by first | exact Nat.le_refl _ | (simp; done) | (simp; omega) | omega)))))) | with_reducible exact extOf (HC2.out _ (HI.out.below (by repeat (first | exact Below.refl _ _ | refine Below.drew ?_ | refine below_drewN ?_ _ | refine Below.alloc ?_ (by first | exact Nat.le_refl _ | (simp; done) | (simp; omega) | omega) _ | refine Below.setCell ?_ (by first | exact Nat.le_refl _ | (simp; done) | (simp; omega) | omega) _ | refine bExtW ?_ (by first | exact Nat.le_refl _ | (simp; done) | (simp; omega) | omega) | refine Below.trans ?_ (Below.mono (by assumption) (by first | exact Nat.le_refl _ | (simp; done) | (simp; omega) | omega))))))); clear hK K)))); refine wpQuiet_nil ?_; intro E d)
              go_wp2
              go_ret
              exact ⟨by rw [HV.out]; rfl, (by repeat (first | exact Below.refl _ _ | refine Below.drew ?_ | refine below_drewN ?_ _ | refine Below.alloc ?_ (by first | exact Nat.le_refl _ | (simp; done) | (simp; omega) | omega) _ | refine Below.setCell ?_ (by first | exact Nat.le_refl _ | (simp; done) | (simp; omega) | omega) _ | refine bExtW ?_ (by first | exact Nat.le_refl _ | (simp; done) | (simp; omega) | omega) | refine Below.trans ?_ (Below.mono (by assumption) (by first | exact Nat.le_refl _ | (simp; done) | (simp; omega) | omega))))⟩
            · have s1 : IntKind.i64.wrap ((t : Int) + (x : Int)) = i := by rw [IntWalk.i64_in _ (by omega)]; omega
              have s2 : IntKind.i64.wrap ((H : Int) - 1) = (H : Int) - 1 := IntWalk.i64_in _ (by omega)
              have s3 : IntKind.i64.wrap ((H : Int) - 1 - (y : Int)) = (k : Int) := by rw [IntWalk.i64_in _ (by omega)]; omega
              clear hii hkk
              go_wp2_with fail
              (refine wp_region_ext (by kernel_rfl) (by kernel_rfl) ?_; (repeat (first | ((with_reducible refine ext_step (fun K hK => ?_)); go_simp; first | (refine hK _ ?_; clear hK K) | (apply Exists.intro; refine ⟨fun _ _ => ?_, hK _ ?_⟩; (go_at_call 52; first | with_reducible exact extOf (HC1.out _ (HI.out.below (by repeat (first | exact Below.refl _ _ | refine Below.drew ?_ | refine below_drewN ?_ _ | refine Below.alloc ?_ (by first | exact Nat.le_refl _ | (simp; done) | (simp; omega) | omega) _ | refine Below.setCell ?_ (by first | exact Nat.le_refl _ | (simp; done) | (simp; omega) | omega) _ | refine bExtW ?_ (by first | exact Nat.le_refl _ | (simp; done) | (simp; omega) | omega) | refine Below.trans ?_ (Below.mono (by assumption) (by first | exact Nat.le_refl _ | (simp; done) | (simp; omega) | omega)))))) | with_reducible exact extOf (HC2.out _ (HI.out.below (by repeat (first | exact Below.refl _ _ | refine Below.drew ?_ | refine below_drewN ?_ _ | refine Below.alloc ?_ (by first | exact Nat.le_refl _ | (simp; done) | (simp; omega) | omega) _ | refine Below.setCell ?_ (by first | exact Nat.le_refl _ | (simp; done) | (simp; omega) | omega) _ | refine bExtW ?_ (by first | exact Nat.le_refl _ | (simp; done) | (simp; omega) | omega) | refine Below.trans ?_ (Below.mono (by assumption) (by first | exact Nat.le_refl _ | (simp; done) | (simp; omega) | omega))))))); clear hK K)))); refine wpQuiet_nil ?_; intro E d)
              go_wp2
              go_ret
              exact ⟨by rw [HV.out]; rfl, (by repeat (first | exact Below.refl _ _ | refine Below.drew ?_ | refine below_drewN ?_ _ | refine Below.alloc ?_ (by first | exact Nat.le_refl _ | (simp; done) | (simp; omega) | omega) _ | refine Below.setCell ?_ (by first | exact Nat.le_refl _ | (simp; done) | (simp; omega) | omega) _ | refine bExtW ?_ (by first | exact Nat.le_refl _ | (simp; done) | (simp; omega) | omega) | refine Below.trans ?_ (Below.mono (by assumption) (by first | exact Nat.le_refl _ | (simp; done) | (simp; omega) | omega))))⟩
            · subst hkk
              have s1 : IntKind.i64.wrap ((t : Int) + (x : Int)) = (t : Int) + (x : Int) := IntWalk.i64_in _ (by omega)
              have s2 : IntKind.i64.wrap ((t : Int) - (x : Int)) = i := by rw [IntWalk.i64_in _ (by omega)]; omega
              clear hii
              go_wp2_with fail
              (refine wp_region_ext (by kernel_rfl) (by kernel_rfl) ?_; (repeat (first | ((with_reducible refine ext_step (fun K hK => ?_)); go_simp; first | (refine hK _ ?_; clear hK K) | (apply Exists.intro; refine ⟨fun _ _ => ?_, hK _ ?_⟩; (go_at_call 52; first | with_reducible exact extOf (HC1.out _ (HI.out.below (by repeat (first | exact Below.refl _ _ | refine Below.drew ?_ | refine below_drewN ?_ _ | refine Below.alloc ?_ (by first | exact Nat.le_refl _ | (simp; done) | (simp; omega) | omega) _ | refine Below.setCell ?_ (by first | exact Nat.le_refl _ | (simp; done) | (simp; omega) | omega) _ | refine bExtW ?_ (by first | exact Nat.le_refl _ | (simp; done) | (simp; omega) | omega) | refine Below.trans ?_ (Below.mono (by assumption) (by first | exact Nat.le_refl _ | (simp; done) | (simp; omega) | omega)))))) | with_reducible exact extOf (HC2.out _ (HI.out.below (by repeat (first | exact Below.refl _ _ | refine Below.drew ?_ | refine below_drewN ?_ _ | refine Below.alloc ?_ (by first | exact Nat.le_refl _ | (simp; done) | (simp; omega) | omega) _ | refine Below.setCell ?_ (by first | exact Nat.le_refl _ | (simp; done) | (simp; omega) | omega) _ | refine bExtW ?_ (by first | exact Nat.le_refl _ | (simp; done) | (simp; omega) | omega) | refine Below.trans ?_ (Below.mono (by assumption) (by first | exact Nat.le_refl _ | (simp; done) | (simp; omega) | omega))))))); clear hK K)))); refine wpQuiet_nil ?_; intro E d)
              go_wp2
              go_ret
              exact ⟨by rw [HV.out]; rfl, (by repeat (first | exact Below.refl _ _ | refine Below.drew ?_ | refine below_drewN ?_ _ | refine Below.alloc ?_ (by first | exact Nat.le_refl _ | (simp; done) | (simp; omega) | omega) _ | refine Below.setCell ?_ (by first | exact Nat.le_refl _ | (simp; done) | (simp; omega) | omega) _ | refine bExtW ?_ (by first | exact Nat.le_refl _ | (simp; done) | (simp; omega) | omega) | refine Below.trans ?_ (Below.mono (by assumption) (by first | exact Nat.le_refl _ | (simp; done) | (simp; omega) | omega))))⟩
            · have s1 : IntKind.i64.wrap ((t : Int) + (x : Int)) = (t : Int) + (x : Int) := IntWalk.i64_in _ (by omega)
              have s4 : IntKind.i64.wrap ((t : Int) - (x : Int)) = i := by rw [IntWalk.i64_in _ (by omega)]; omega
              have s2 : IntKind.i64.wrap ((H : Int) - 1) = (H : Int) - 1 := IntWalk.i64_in _ (by omega)
              have s3 : IntKind.i64.wrap ((H : Int) - 1 - (y : Int)) = (k : Int) := by rw [IntWalk.i64_in _ (by omega)]; omega
              clear hii hkk
              go_wp2_with fail
              (refine wp_region_ext (by kernel_rfl) (by kernel_rfl) ?_; (repeat (first | ((with_reducible refine ext_step (fun K hK => ?_)); go_simp; first | (refine hK _ ?_; clear hK K) | (apply Exists.intro; refine ⟨fun _ _ => ?_, hK _ ?_⟩; (go_at_call 52; first | with_reducible exact extOf (HC1.out _ (HI.out.below (by repeat (first | exact Below.refl _ _ | refine Below.drew ?_ | refine below_drewN ?_ _ | refine Below.alloc ?_ (by first | exact Nat.le_refl _ | (simp; done) | (simp; omega) | omega) _ | refine Below.setCell ?_ (by first | exact Nat.le_refl _ | (simp; done) | (simp; omega) | omega) _ | refine bExtW ?_ (by first | exact Nat.le_refl _ | (simp; done) | (simp; omega) | omega) | refine Below.trans ?_ (Below.mono (by assumption) (by first | exact Nat.le_refl _ | (simp; done) | (simp; omega) | omega)))))) | with_reducible exact extOf (HC2.out _ (HI.out.below (by repeat (first | exact Below.refl _ _ | refine Below.drew ?_ | refine below_drewN ?_ _ | refine Below.alloc ?_ (by first | exact Nat.le_refl _ | (simp; done) | (simp; omega) | omega) _ | refine Below.setCell ?_ (by first | exact Nat.le_refl _ | (simp; done) | (simp; omega) | omega) _ | refine bExtW ?_ (by first | exact Nat.le_refl _ | (simp; done) | (simp; omega) | omega) | refine Below.trans ?_ (Below.mono (by assumption) (by first | exact Nat.le_refl _ | (simp; done) | (simp; omega) | omega))))))); clear hK K)))); refine wpQuiet_nil ?_; intro E d)
              go_wp2
              go_ret
              exact ⟨by rw [HV.out]; rfl, (by repeat (first | exact Below.refl _ _ | refine Below.drew ?_ | refine below_drewN ?_ _ | refine Below.alloc ?_ (by first | exact Nat.le_refl _ | (simp; done) | (simp; omega) | omega) _ | refine Below.setCell ?_ (by first | exact Nat.le_refl _ | (simp; done) | (simp; omega) | omega) _ | refine bExtW ?_ (by first | exact Nat.le_refl _ | (simp; done) | (simp; omega) | omega) | refine Below.trans ?_ (Below.mono (by assumption) (by first | exact Nat.le_refl _ | (simp; done) | (simp; omega) | omega))))⟩
        · obtain rfl : x = W := by omega
          have dx : decide ((x : Int) < (x : Int)) = false := by simp
          have HN : Hid (∀ v, v < y + 1 → ∀ u, u < x → cB x cs (u : Int) v = cB x cs (bxZ back t u) (byN H over v)) := Lib.hid fun v hv => by
            by_cases e2 : v = y
            · subst e2; exact HX.out
            · exact HY.out v (by omega)
          clear HX HY HF HT HCE
          go_wp2
          go_roundw
          case rel => exact ⟨y + 1, _, _, by omega, by go_num, HN, rfl⟩
          case measure => simp [intOf]; omega
    · obtain rfl : y = H := by omega
      have dy : decide ((y : Int) < (y : Int)) = false := by simp
      have HV := Lib.hid (HT.out HY.out)
      clear HY HF HT HCE
      go_wp2
      go_ret
      exact ⟨by rw [HV.out]; rfl, (by repeat (first | exact Below.refl _ _ | refine Below.drew ?_ | refine below_drewN ?_ _ | refine Below.alloc ?_ (by first | exact Nat.le_refl _ | (simp; done) | (simp; omega) | omega) _ | refine Below.setCell ?_ (by first | exact Nat.le_refl _ | (simp; done) | (simp; omega) | omega) _ | refine bExtW ?_ (by first | exact Nat.le_refl _ | (simp; done) | (simp; omega) | omega) | refine Below.trans ?_ (Below.mono (by assumption) (by first | exact Nat.le_refl _ | (simp; done) | (simp; omega) | omega))))⟩
end Go.Proofs.Ytooilennejakhaa
