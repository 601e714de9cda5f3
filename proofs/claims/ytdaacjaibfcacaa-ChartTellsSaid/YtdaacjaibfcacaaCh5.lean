/- Charts: what ref2.Print writes. -/
import Derived.Test.YtdaacjaibfcacaaCh4
import Derived.Test.YtdaacjaibfcacaaRegX
namespace Go.Proofs.Ytdaacjaibfcacaa
open Go.RowKit
set_option linter.unusedVariables false
set_option linter.unusedSimpArgs false
/-- The colour of a cell within. -/
def colK (W : Nat) (cs : List Int) (y x : Nat) : Nat := (cs.getD (y * W + x) 0).toNat
/-- A row as bytes, as far as x. -/
def rowB (W : Nat) (cs : List Int) (y : Nat) : Nat → ByteArray
  | 0 => ⟨#[]⟩
  | x + 1 => rowB W cs y x ++ sigS (colK W cs y x)
/-- The lowest y rows. -/
def botB (W : Nat) (cs : List Int) : Nat → ByteArray
  | 0 => ⟨#[]⟩
  | y + 1 => (rowB W cs y W ++ ⟨#[10]⟩) ++ botB W cs y
def hdB (G : Nat) : ByteArray := if G = 4 then ⟨#[226, 150, 161, 10]⟩ else ⟨#[226, 150, 179, 10]⟩
def printB (G W H : Nat) (cs : List Int) : ByteArray := hdB G ++ botB W cs H
theorem sigs_at {q n : Nat} (h : q < n) : (sigs n)[q]? = some (.string (sigS q)) := by
  unfold sigs
  rw [List.getElem?_map, List.getElem?_range h]; rfl
theorem cell_col {W H n x y : Nat} {cs : List Int} (hx : x < W) (hy : y < H) (hC : ∀ x ∈ cs, 0 ≤ x ∧ x < 62) (hl : cs.length = n) (hn : n = W * H) : cellAt W H cs x y = (colK W cs y x : Int) ∧ colK W cs y x < 62 := by
  have hp : y * W + x < cs.length := by
    have h1 : (y + 1) * W ≤ H * W := Nat.mul_le_mul_right W (by omega)
    have h2 : (y + 1) * W = y * W + W := Nat.succ_mul y W
    rw [hl, hn, Nat.mul_comm W H]; omega
  have h3 := hC _ (List.getElem_mem hp)
  have h4 : cs.getD (y * W + x) 0 = cs[y * W + x] := by rw [List.getD_eq_getElem?_getD, List.getElem?_eq_getElem hp]; rfl
  unfold cellAt colK
  rw [Int.emod_eq_of_lt (by omega) (by omega), Int.emod_eq_of_lt (by omega) (by omega), Int.toNat_natCast, Int.toNat_natCast, h4]
  omega
theorem sigS_size : ∀ c : Fin 62, (sigS c).size ≤ 3 := by decide +kernel
theorem rowB_size {W : Nat} {cs : List Int} {y : Nat} (h : ∀ x, x < W → colK W cs y x < 62) : ∀ x, x ≤ W → (rowB W cs y x).size ≤ 3 * x
  | 0, _ => by simp [rowB, ByteArray.size]
  | x + 1, hx => by
    have ih := rowB_size h x (by omega)
    have h1 := sigS_size ⟨_, h x (by omega)⟩
    simp only [rowB, ByteArray.size_append]
    simp only at h1
    omega
theorem botB_size {W : Nat} {cs : List Int} {H : Nat} (h : ∀ y x, y < H → x < W → colK W cs y x < 62) : ∀ y, y ≤ H → (botB W cs y).size ≤ (3 * W + 1) * y
  | 0, _ => by simp [botB, ByteArray.size]
  | y + 1, hy => by
    have ih := botB_size h y (by omega)
    have h1 := rowB_size (h y · (by omega)) W (Nat.le_refl _)
    have h2 : (⟨#[10]⟩ : ByteArray).size = 1 := rfl
    simp only [botB, ByteArray.size_append, h2]
    rw [Nat.mul_succ]
    omega
set_option maxRecDepth 100000 in
set_option maxHeartbeats 8000000 in
theorem r2Print_bad (G W H : Int) (a : Option Addr) (n c : Nat) (cs : List Int) (w : World) (hI : IsInts w a n cs) (h0 : (-9223372036854775808 ≤ G ∧ G ≤ 9223372036854775807)) (h1 : (-9223372036854775808 ≤ W ∧ W ≤ 9223372036854775807)) (h2 : (-9223372036854775808 ≤ H ∧ H ≤ 9223372036854775807)) (h3 : n ≤ 9223372036854775807) (he : chE G W H n cs ≠ 0) :
    Calls Try.prog 23 #[.agg #[.int .i64 (G), .int .i64 (W), .int .i64 (H), .slice a n c]] w fun e w' => e = .returned (.tuple #[.string ⟨#[]⟩, .int .i64 (chE G W H n cs)]) ∧ Below w.heap.size w w' := by
  have hb : (chE G W H n cs != 0) = true := by simpa using he
  have HT := Lib.hid (fun w hI => r2Wrong_any G W H a n c cs w hI h0 h1 h2 h3)
  have HI := Lib.hid hI
  clear he hI
  generalize chE G W H n cs = q at *
  go_enter Try.func23, Try.ntmps23
  (go_wp2_with fail; refine (HT.out _ (HI.out.below (by repeat (first | exact Below.refl _ _ | refine Below.drew ?_ | refine below_drewN ?_ _ | refine Below.alloc ?_ (by first | exact Nat.le_refl _ | (simp; done) | (simp; omega) | omega) _ | refine Below.setCell ?_ (by first | exact Nat.le_refl _ | (simp; done) | (simp; omega) | omega) _ | refine bExtW ?_ (by first | exact Nat.le_refl _ | (simp; done) | (simp; omega) | omega) | refine Below.trans ?_ (Below.mono (by assumption) (by first | exact Nat.le_refl _ | (simp; done) | (simp; omega) | omega)))))).mono ?_; rintro r w1 ⟨rfl, hb⟩; obtain ⟨E, d, rfl⟩ := bExt hb; clear hb)
  go_wp2
  go_ret2
  exact ⟨rfl, (by repeat (first | exact Below.refl _ _ | refine Below.drew ?_ | refine below_drewN ?_ _ | refine Below.alloc ?_ (by first | exact Nat.le_refl _ | (simp; done) | (simp; omega) | omega) _ | refine Below.setCell ?_ (by first | exact Nat.le_refl _ | (simp; done) | (simp; omega) | omega) _ | refine bExtW ?_ (by first | exact Nat.le_refl _ | (simp; done) | (simp; omega) | omega) | refine Below.trans ?_ (Below.mono (by assumption) (by first | exact Nat.le_refl _ | (simp; done) | (simp; omega) | omega))))⟩
set_option maxRecDepth 100000 in
set_option maxHeartbeats 8000000 in
theorem r2Print_ok (G W H n : Nat) (a : Option Addr) (c : Nat) (cs : List Int) (w : World) (hI : IsInts w a n cs) (hG : G = 4 ∨ G = 6) (hW1 : 0 < W) (hW : W ≤ 64) (hH1 : 0 < H) (hH : H ≤ 64) (hn : n = W * H) (hCR : ∀ x ∈ cs, 0 ≤ x ∧ x < 62) :
    Calls Try.prog 23 #[.agg #[.int .i64 (G), .int .i64 (W), .int .i64 (H), .slice a n c]] w fun e w' => e = .returned (.tuple #[.string (printB G W H cs), .int .i64 (0)]) ∧ Below w.heap.size w w' := by
  have hn4 : n ≤ 4096 := by rw [hn]; exact Nat.mul_le_mul hW hH
  have he : chE G W H n cs = 0 := chE_ok (by omega) (by omega) hW (by omega) hH hn hCR
  have HR := Lib.hid (fun w hI => r2Wrong_any G W H a n c cs w hI (by omega) (by omega) (by omega) (by omega))
  rw [he] at HR
  have HC := Lib.hid (fun (x y : Nat) w hI => Cell_ok G W H n a c cs x y w hI hW1 hW hH1 hH hn)
  have HL := Lib.hid (fun (x y : Nat) (hx : x < W) (hy : y < H) => cell_col hx hy hCR hI.1 hn)
  have HI := Lib.hid hI
  clear hI he hn hCR
  go_enter Try.func23, Try.ntmps23
  (go_wp2_with fail; refine (HR.out _ (HI.out.below (by repeat (first | exact Below.refl _ _ | refine Below.drew ?_ | refine below_drewN ?_ _ | refine Below.alloc ?_ (by first | exact Nat.le_refl _ | (simp; done) | (simp; omega) | omega) _ | refine Below.setCell ?_ (by first | exact Nat.le_refl _ | (simp; done) | (simp; omega) | omega) _ | refine bExtW ?_ (by first | exact Nat.le_refl _ | (simp; done) | (simp; omega) | omega) | refine Below.trans ?_ (Below.mono (by assumption) (by first | exact Nat.le_refl _ | (simp; done) | (simp; omega) | omega)))))).mono ?_; rintro r w1 ⟨rfl, hb⟩; obtain ⟨E, d, rfl⟩ := bExt hb; clear hb)
  have HI2 := Lib.hid (HI.out.below (w' := extW (w.alloc (.cells #[.int .i64 (G : Int), .int .i64 (W : Int), .int .i64 (H : Int), .slice a n c] 36)) E d) (by repeat (first | exact Below.refl _ _ | refine Below.drew ?_ | refine below_drewN ?_ _ | refine Below.alloc ?_ (by first | exact Nat.le_refl _ | (simp; done) | (simp; omega) | omega) _ | refine Below.setCell ?_ (by first | exact Nat.le_refl _ | (simp; done) | (simp; omega) | omega) _ | refine bExtW ?_ (by first | exact Nat.le_refl _ | (simp; done) | (simp; omega) | omega) | refine Below.trans ?_ (Below.mono (by assumption) (by first | exact Nat.le_refl _ | (simp; done) | (simp; omega) | omega)))))
  clear HI2 HR
  go_wp2
  go_loopw [5, 6] (fun s y wr => ∃ (k : Nat) (E : Array Obj) (d : Nat), k ≤ H ∧ s = .string (botB W cs k) ∧ y = .int .i64 k ∧ wr = extW (w.alloc (.cells #[.int .i64 (G : Int), .int .i64 (W : Int), .int .i64 (H : Int), .slice a n c] 36)) E d) (fun _ y _ => H - (intOf y).toNat)
  case atStart => exact ⟨0, E, d, by omega, rfl, rfl, rfl⟩
  case round =>
    obtain ⟨y, E1, d1, hy, rfl, rfl, rfl⟩ := hrel
    by_cases hyH : y < H
    · have vy : IntKind.i64.wrap ((y : Int) + 1) = (y : Int) + 1 := IntWalk.i64_in _ (by omega)
      have dy : decide ((y : Int) < (H : Int)) = true := by simpa using hyH
      go_wp2
      go_loopw [7, 8] (fun s x wr => ∃ (k : Nat) (E : Array Obj) (d : Nat), k ≤ W ∧ s = .string (rowB W cs y k) ∧ x = .int .i64 k ∧ wr = extW (w.alloc (.cells #[.int .i64 (G : Int), .int .i64 (W : Int), .int .i64 (H : Int), .slice a n c] 36)) E d) (fun _ x _ => W - (intOf x).toNat)
      case atStart => exact ⟨0, E1, d1, by omega, rfl, rfl, rfl⟩
      case round =>
        obtain ⟨x, E2, d2, hx, rfl, rfl, rfl⟩ := hrel
        by_cases hxW : x < W
        · have vx : IntKind.i64.wrap ((x : Int) + 1) = (x : Int) + 1 := IntWalk.i64_in _ (by omega)
          have dx : decide ((x : Int) < (W : Int)) = true := by simpa using hxW
          obtain ⟨hq, hq2⟩ := HL.out x y hxW hyH
          have HCk := Lib.hid (fun w hI => HC.out x y w hI (by omega) (by omega))
          rw [hq] at HCk
          have HS1 := Lib.hid (sigS_size ⟨_, hq2⟩)
          have hrs : (rowB W cs y x).size ≤ 192 := Nat.le_trans (rowB_size (fun x hx => (HL.out x y hx hyH).2) x hx) (by omega)
          have HE : Hid (rowB W cs y (x + 1) = rowB W cs y x ++ sigS (colK W cs y x)) := Lib.hid rfl
          clear hq HC HL
          generalize colK W cs y x = q at *
          generalize rowB W cs y x = rb at *
          go_wp2_with fail
          refine wp_region_E (by kernel_rfl) ?_
          (refine wpE_take (i := 0) rfl (by kernel_rfl) (fun _ _ _ _ h => h) (fun K hK => ?_); go_simp; first | (refine hK _ ?_; clear hK K) | (apply Exists.intro; refine ⟨fun _ _ => ?_, hK _ ?_⟩; fail; clear hK K)); (refine wpE_take (i := 2) rfl (by kernel_rfl) (fun _ _ _ _ h => h) (fun K hK => ?_); go_simp; first | (refine hK _ ?_; clear hK K) | (apply Exists.intro; refine ⟨fun _ _ => ?_, hK _ ?_⟩; fail; clear hK K)); (refine wpE_take (i := 3) rfl (by kernel_rfl) (fun _ _ _ _ h => h) (fun K hK => ?_); go_simp; first | (refine hK _ ?_; clear hK K) | (apply Exists.intro; refine ⟨fun _ _ => ?_, hK _ ?_⟩; fail; clear hK K)); (refine wpE_take (i := 4) rfl (by kernel_rfl) (fun _ _ _ _ h => h) (fun K hK => ?_); go_simp; first | (refine hK _ ?_; clear hK K) | (apply Exists.intro; refine ⟨fun _ _ => ?_, hK _ ?_⟩; fail; clear hK K))
          (refine wpE_step (i := 1) rfl (by kernel_rfl) (fun E d K hK => ?_)); go_simp
          refine (Signs_ok _).mono ?_
          rintro r w4 ⟨A, c4, rfl, how, hb4⟩
          refine hK _ _ (bExt hb4) ?_
          clear hK K
          have HB4 : Hid (Below w.heap.size w w4) := Lib.hid (by
            have h2 : Below (w.heap.size) w (extW (extW (w.alloc (.cells #[.int .i64 (G : Int), .int .i64 (W : Int), .int .i64 (H : Int), .slice a n c] 36)) E2 d2) E d) := (by repeat (first | exact Below.refl _ _ | refine Below.drew ?_ | refine below_drewN ?_ _ | refine Below.alloc ?_ (by first | exact Nat.le_refl _ | (simp; done) | (simp; omega) | omega) _ | refine Below.setCell ?_ (by first | exact Nat.le_refl _ | (simp; done) | (simp; omega) | omega) _ | refine bExtW ?_ (by first | exact Nat.le_refl _ | (simp; done) | (simp; omega) | omega) | refine Below.trans ?_ (Below.mono (by assumption) (by first | exact Nat.le_refl _ | (simp; done) | (simp; omega) | omega))))
            exact h2.trans (hb4.mono h2.size))
          have cq : w4.cell? ⟨A, q, none⟩ = some (.string (sigS q)) := by
            rw [(own_cell how hq2).1, sigs_at hq2]
          have lA : LtW A w4 := own_lt how
          have hsz : ¬ 9223372036854775807 < rb.size + (sigS q).size := by have := HS1.out; omega
          have dq : (q : Int) < 62 := by omega
          obtain ⟨F4, e4, hw4⟩ := bExt hb4
          have HW4 := Lib.hid hw4
          clear how hb4 hw4
          (refine wpE_take (i := 5) rfl (by kernel_rfl) (fun _ _ _ _ h => h) (fun K hK => ?_); go_simp; first | (refine hK _ ?_; clear hK K) | (apply Exists.intro; refine ⟨fun _ _ => ?_, hK _ ?_⟩; (go_at_call 73; exact vOf (HCk.out _ (HI.out.below (bExtW HB4.out HB4.out.size)))); clear hK K))
          (refine wpE_take (i := 6) rfl (by kernel_rfl) (fun _ _ _ _ h => h) (fun K hK => ?_); go_simp; first | (refine hK _ ?_; clear hK K) | (apply Exists.intro; refine ⟨fun _ _ => ?_, hK _ ?_⟩; fail; clear hK K)); (refine wpE_take (i := 7) rfl (by kernel_rfl) (fun _ _ _ _ h => h) (fun K hK => ?_); go_simp; first | (refine hK _ ?_; clear hK K) | (apply Exists.intro; refine ⟨fun _ _ => ?_, hK _ ?_⟩; fail; clear hK K)); (refine wpE_take (i := 8) rfl (by kernel_rfl) (fun _ _ _ _ h => h) (fun K hK => ?_); go_simp; first | (refine hK _ ?_; clear hK K) | (apply Exists.intro; refine ⟨fun _ _ => ?_, hK _ ?_⟩; fail; clear hK K)); (refine wpE_take (i := 9) rfl (by kernel_rfl) (fun _ _ _ _ h => h) (fun K hK => ?_); go_simp; first | (refine hK _ ?_; clear hK K) | (apply Exists.intro; refine ⟨fun _ _ => ?_, hK _ ?_⟩; fail; clear hK K))
          refine wpE_done (by kernel_rfl) (fun E d => ?_)
          go_wp2
          go_roundw
          case rel => exact ⟨x + 1, _, _, by omega, by rw [HE.out], by push_cast; rfl, by rw [HW4.out, extW_extW, extW_extW, extW_extW]⟩
          case measure => simp [intOf]; omega
        · obtain rfl : x = W := by omega
          have dx : decide ((x : Int) < (x : Int)) = false := by simp
          have hrs : (rowB x cs y x).size ≤ 192 := Nat.le_trans (rowB_size (fun z hz => (HL.out z y hz hyH).2) x (Nat.le_refl _)) (by omega)
          have hbs : (botB x cs y).size ≤ 200 * 64 := Nat.le_trans (botB_size (fun z x hz hx => (HL.out x z hx hz).2) y hy) (by
            have h1 : (3 * x + 1) * y ≤ 200 * 64 := Nat.mul_le_mul (by omega) (by omega)
            exact h1)
          have HE : Hid (botB x cs (y + 1) = (rowB x cs y x ++ ⟨#[10]⟩) ++ botB x cs y) := Lib.hid rfl
          have e1 : (rowB x cs y x ++ ⟨#[10]⟩).size = (rowB x cs y x).size + 1 := by rw [ByteArray.size_append]; rfl
          clear HL HC
          generalize rowB x cs y x = rb at *
          generalize botB x cs y = bb at *
          have e2 : (⟨#[10]⟩ : ByteArray).size = 1 := rfl
          have hz1 : ¬ 9223372036854775807 < rb.size + (⟨#[10]⟩ : ByteArray).size := by rw [e2]; omega
          have hz2 : ¬ 9223372036854775807 < (rb ++ ⟨#[10]⟩).size + bb.size := by rw [e1]; omega
          go_wp2
          go_roundw
          case rel => exact ⟨y + 1, _, _, by omega, by rw [HE.out], by push_cast; rfl, rfl⟩
          case measure => simp [intOf]; omega
    · obtain rfl : y = H := by omega
      have dy : decide ((y : Int) < (y : Int)) = false := by simp
      have hbs : (botB W cs y).size ≤ 200 * 64 := Nat.le_trans (botB_size (fun z x hz hx => (HL.out x z hx hz).2) y hy) (by
        have h1 : (3 * W + 1) * y ≤ 200 * 64 := Nat.mul_le_mul (by omega) (by omega)
        exact h1)
      have HE : Hid (printB G W y cs = hdB G ++ botB W cs y) := Lib.hid rfl
      clear HL HC
      generalize botB W cs y = bb at *
      rcases hG with rfl | rfl
      · have e2 : (⟨#[226, 150, 161, 10]⟩ : ByteArray).size = 4 := rfl
        have hz2 : ¬ 9223372036854775807 < (⟨#[226, 150, 161, 10]⟩ : ByteArray).size + bb.size := by rw [e2]; omega
        go_wp2
        go_ret2
        exact ⟨by rw [HE.out]; rfl, (by repeat (first | exact Below.refl _ _ | refine Below.drew ?_ | refine below_drewN ?_ _ | refine Below.alloc ?_ (by first | exact Nat.le_refl _ | (simp; done) | (simp; omega) | omega) _ | refine Below.setCell ?_ (by first | exact Nat.le_refl _ | (simp; done) | (simp; omega) | omega) _ | refine bExtW ?_ (by first | exact Nat.le_refl _ | (simp; done) | (simp; omega) | omega) | refine Below.trans ?_ (Below.mono (by assumption) (by first | exact Nat.le_refl _ | (simp; done) | (simp; omega) | omega))))⟩
      · have e2 : (⟨#[226, 150, 179, 10]⟩ : ByteArray).size = 4 := rfl
        have hz2 : ¬ 9223372036854775807 < (⟨#[226, 150, 179, 10]⟩ : ByteArray).size + bb.size := by rw [e2]; omega
        go_wp2
        go_ret2
        exact ⟨by rw [HE.out]; rfl, (by repeat (first | exact Below.refl _ _ | refine Below.drew ?_ | refine below_drewN ?_ _ | refine Below.alloc ?_ (by first | exact Nat.le_refl _ | (simp; done) | (simp; omega) | omega) _ | refine Below.setCell ?_ (by first | exact Nat.le_refl _ | (simp; done) | (simp; omega) | omega) _ | refine bExtW ?_ (by first | exact Nat.le_refl _ | (simp; done) | (simp; omega) | omega) | refine Below.trans ?_ (Below.mono (by assumption) (by first | exact Nat.le_refl _ | (simp; done) | (simp; omega) | omega))))⟩
end Go.Proofs.Ytdaacjaibfcacaa
