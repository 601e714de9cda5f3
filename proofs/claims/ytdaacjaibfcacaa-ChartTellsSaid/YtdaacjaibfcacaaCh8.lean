/- Charts: what chart.Print writes. -/
import Derived.Test.YtdaacjaibfcacaaCh7
namespace Go.Proofs.Ytdaacjaibfcacaa
open Go.RowKit
set_option linter.unusedVariables false
set_option linter.unusedSimpArgs false
set_option maxRecDepth 100000 in
set_option maxHeartbeats 8000000 in
theorem chPrint_bad (G W H : Int) (a : Option Addr) (n c : Nat) (cs : List Int) (w : World) (hI : IsInts w a n cs) (h0 : (-9223372036854775808 ≤ G ∧ G ≤ 9223372036854775807)) (h1 : (-9223372036854775808 ≤ W ∧ W ≤ 9223372036854775807)) (h2 : (-9223372036854775808 ≤ H ∧ H ≤ 9223372036854775807)) (h3 : n ≤ 9223372036854775807) (he : chE G W H n cs ≠ 0) :
    Calls Try.prog 22 #[.agg #[.int .i64 (G), .int .i64 (W), .int .i64 (H), .slice a n c]] w fun e w' => e = .returned (.tuple #[.string ⟨#[]⟩, .int .i64 (chE G W H n cs)]) ∧ Below w.heap.size w w' := by
  have hb : (chE G W H n cs != 0) = true := by simpa using he
  have HT := Lib.hid (fun w hI => chWrong_any G W H a n c cs w hI h0 h1 h2 h3)
  have HI := Lib.hid hI
  clear he hI
  generalize chE G W H n cs = q at *
  go_enter Try.func22, Try.ntmps22
  (go_wp2_with fail; refine (HT.out _ (HI.out.below (by repeat (first | exact Below.refl _ _ | refine Below.drew ?_ | refine below_drewN ?_ _ | refine Below.alloc ?_ (by first | exact Nat.le_refl _ | (simp; done) | (simp; omega) | omega) _ | refine Below.setCell ?_ (by first | exact Nat.le_refl _ | (simp; done) | (simp; omega) | omega) _ | refine bExtW ?_ (by first | exact Nat.le_refl _ | (simp; done) | (simp; omega) | omega) | refine Below.trans ?_ (Below.mono (by assumption) (by first | exact Nat.le_refl _ | (simp; done) | (simp; omega) | omega)))))).mono ?_; rintro r w1 ⟨rfl, hb⟩; obtain ⟨E, d, rfl⟩ := bExt hb; clear hb)
  go_wp2
  go_ret2
  exact ⟨rfl, (by repeat (first | exact Below.refl _ _ | refine Below.drew ?_ | refine below_drewN ?_ _ | refine Below.alloc ?_ (by first | exact Nat.le_refl _ | (simp; done) | (simp; omega) | omega) _ | refine Below.setCell ?_ (by first | exact Nat.le_refl _ | (simp; done) | (simp; omega) | omega) _ | refine bExtW ?_ (by first | exact Nat.le_refl _ | (simp; done) | (simp; omega) | omega) | refine Below.trans ?_ (Below.mono (by assumption) (by first | exact Nat.le_refl _ | (simp; done) | (simp; omega) | omega))))⟩
/-- Bytes of a row, as far as x. -/
def rowU (W : Nat) (cs : List Int) (y : Nat) : Nat → List UInt8
  | 0 => []
  | x + 1 => rowU W cs y x ++ Lib.encodeRune (signK (colK W cs y x))
/-- The rows from the k-th highest on up: what stands behind k rows. -/
def topL (W H : Nat) (cs : List Int) : Nat → List UInt8
  | 0 => []
  | k + 1 => topL W H cs k ++ rowU W cs (H - 1 - k) W ++ [10]
def hdL (G : Nat) : List UInt8 := if G = 4 then [226, 150, 161, 10] else [226, 150, 179, 10]
theorem rowB_L {W : Nat} {cs : List Int} {y : Nat} (h : ∀ x, x < W → colK W cs y x < 62) : ∀ x, x ≤ W → (rowB W cs y x).data.toList = rowU W cs y x
  | 0, _ => rfl
  | x + 1, hx => by
    have h1 := sigS_bytes ⟨_, h x (by omega)⟩
    simp only [rowB, rowU, ByteArray.data_append, Array.toList_append, rowB_L h x (by omega)]
    rw [h1]
theorem botB_L {W H : Nat} {cs : List Int} (h : ∀ y x, y < H → x < W → colK W cs y x < 62) : ∀ k, k ≤ H → topL W H cs k ++ (botB W cs (H - k)).data.toList = (botB W cs H).data.toList
  | 0, _ => by simp [topL]
  | k + 1, hk => by
    rw [← botB_L h k (by omega)]
    obtain ⟨m, hm⟩ : ∃ m, H - k = m + 1 := ⟨H - k - 1, by omega⟩
    rw [show H - (k + 1) = m by omega, hm]
    simp only [topL, botB, ByteArray.data_append, Array.toList_append, List.append_assoc]
    rw [show H - 1 - k = m by omega, rowB_L (h m · (by omega)) W (Nat.le_refl _)]
theorem print_L {G W H : Nat} {cs : List Int} (h : ∀ y x, y < H → x < W → colK W cs y x < 62) : (printB G W H cs).data.toList = hdL G ++ topL W H cs H := by
  have h1 := botB_L h H (Nat.le_refl _)
  rw [Nat.sub_self] at h1
  unfold printB hdL hdB
  rw [ByteArray.data_append, Array.toList_append, ← h1]
  split <;> simp [botB]
theorem rowU_len {W : Nat} {cs : List Int} {y : Nat} : ∀ x, (rowU W cs y x).length ≤ 4 * x
  | 0 => by simp [rowU]
  | x + 1 => by
    have h1 := rowU_len (W := W) (cs := cs) (y := y) x
    have h2 := Lib.runeCells_le (signK (colK W cs y x))
    rw [Lib.runeCells_length] at h2
    simp only [rowU, List.length_append]
    omega
theorem topL_len {W H : Nat} {cs : List Int} : ∀ k, (topL W H cs k).length ≤ (4 * W + 1) * k
  | 0 => by simp [topL]
  | k + 1 => by
    have h1 := topL_len (W := W) (H := H) (cs := cs) k
    have h2 := rowU_len (W := W) (cs := cs) (y := H - 1 - k) W
    simp only [topL, List.length_append, List.length_singleton]
    rw [Nat.mul_succ]; omega
theorem sign_lt {c : Nat} (h : c < 62) : signK c < 55296 := by
  unfold signK skipK
  split
  · omega
  · split
    · omega
    · split
      · omega
      · split
        · split <;> omega
        · omega
end Go.Proofs.Ytdaacjaibfcacaa
