/- Lemmas and contracts of functions (what each call returns, and that it changes nothing that was there) that the proof of a law of this seat uses; each lemma states its own conditions. -/
import Derived.Test.YtkffljkgblcgdaaSm
import Derived.Test.YtkffljkgblcgdaaNat
namespace Go.Proofs.Ytkffljkgblcgdaa
open Go.RowKit
set_option linter.unusedVariables false
set_option linter.unusedSimpArgs false
/-- Slices of truths, each of W. -/
structure RowsAt (w : World) (a : Option Addr) (n W : Nat) (rs : List (List Bool)) : Prop where
  len : rs.length = n
  rows : 0 < n → ∃ b o, a = some ⟨b, o, none⟩ ∧ b < w.heap.size ∧ ∀ j, j < n → ∃ A c, w.cell? ⟨b, o + j, none⟩ = some (.slice A W c) ∧ IsBools w A W (rs.getD j [])
theorem RowsAt.below {w w' : World} {a : Option Addr} {n W : Nat} {rs : List (List Bool)} (h : RowsAt w a n W rs) (hb : Below w.heap.size w w') : RowsAt w' a n W rs := by
  refine ⟨h.len, fun hn => ?_⟩
  obtain ⟨b, o, h1, h2, h3⟩ := h.rows hn
  refine ⟨b, o, h1, Nat.lt_of_lt_of_le h2 hb.size, fun j hj => ?_⟩
  obtain ⟨A, c, h4, h5⟩ := h3 j hj
  exact ⟨A, c, bCs hb h4, h5.below hb⟩
/-- The first place at which a row stands; their number, if it is none of them. -/
def fIdx (rs : List (List Bool)) (r : List Bool) : Nat := rs.findIdx fun l => decide (l = r)
theorem fIdx_at {rs : List (List Bool)} {r : List Bool} {k : Nat} (hk : k < rs.length) (h1 : ∀ j, j < k → rs.getD j [] ≠ r) (h2 : rs.getD k [] = r) : fIdx rs r = k := by
  unfold fIdx
  rw [List.findIdx_eq hk]
  refine ⟨?_, fun j hj => ?_⟩
  · rw [List.getD_eq_getElem?_getD, List.getElem?_eq_getElem hk] at h2
    simpa using h2
  · have := h1 j hj
    rw [List.getD_eq_getElem?_getD, List.getElem?_eq_getElem (by omega)] at this
    simpa using this
theorem fIdx_none {rs : List (List Bool)} {r : List Bool} (h1 : ∀ j, j < rs.length → rs.getD j [] ≠ r) : fIdx rs r = rs.length := by
  unfold fIdx
  rw [List.findIdx_eq_length]
  intro x hx
  obtain ⟨j, hj, rfl⟩ := List.getElem_of_mem hx
  have := h1 j hj
  rw [List.getD_eq_getElem?_getD, List.getElem?_eq_getElem hj] at this
  simpa using this
/-- What Go's search tells. -/
def idxV (n i : Nat) : Int := if i < n then i else -1
theorem fIdx_le (rs : List (List Bool)) (r : List Bool) : fIdx rs r ≤ rs.length := List.findIdx_le_length
set_option maxRecDepth 100000 in
set_option maxHeartbeats 8000000 in
theorem same1_any (A : Option Addr) (W c : Nat) (b1 : List Bool) (B : Nat) (A2 : Option Addr) (W2 c2 : Nat) (b2 : List Bool) (w : World) (hi : IsBools w A W b1) (hc : w.cell? ⟨B, 0, none⟩ = some (.slice A2 W2 c2)) (hj : IsBools w A2 W2 b2) (m1 : W ≤ 9223372036854775807) (m2 : W2 ≤ 9223372036854775807) :
    Calls Try.prog 94 #[.slice A W c, .pointer (some ⟨B, 0, none⟩)] w fun e w' => e = .returned (.bool (decide (b1 = b2))) ∧ Below w.heap.size w w' := by
  have HE := Lib.hid (Equal_any A W c b1 A2 W2 c2 b2 w hi hj m1 m2)
  clear hi hj
  go_enter Try.func94, Try.ntmps94
  (go_wp2_with fail; refine (HE.out).mono ?_; rintro r w1 ⟨rfl, hb⟩; obtain ⟨E, d, rfl⟩ := bExt hb; clear hb)
  go_wp2
  go_ret
  exact ⟨rfl, (by repeat (first | exact Below.refl _ _ | refine Below.drew ?_ | refine below_drewN ?_ _ | refine Below.alloc ?_ (by first | exact Nat.le_refl _ | (simp; done) | (simp; omega) | omega) _ | refine Below.setCell ?_ (by first | exact Nat.le_refl _ | (simp; done) | (simp; omega) | omega) _ | refine bExtW ?_ (by first | exact Nat.le_refl _ | (simp; done) | (simp; omega) | omega) | refine Below.trans ?_ (Below.mono (by assumption) (by first | exact Nat.le_refl _ | (simp; done) | (simp; omega) | omega))))⟩
set_option maxRecDepth 100000 in
set_option maxHeartbeats 8000000 in
theorem index_any (a : Option Addr) (n c W : Nat) (rs : List (List Bool)) (B : Nat) (A2 : Option Addr) (c2 : Nat) (r : List Bool) (w : World) (hr : RowsAt w a n W rs) (hc : w.cell? ⟨B, 0, none⟩ = some (.slice A2 W c2)) (hj : IsBools w A2 W r) (m1 : W ≤ 9223372036854775807) (m2 : n ≤ 1000000) :
    Calls Try.prog 93 #[.slice a n c, .func (.func 94) #[] #[.pointer (some ⟨B, 0, none⟩)]] w fun e w' => e = .returned (.int .i64 (idxV n (fIdx rs r))) ∧ Below w.heap.size w w' := by
  have HR := Lib.hid hr
  have HC := Lib.hid hc
  have HJ := Lib.hid hj
  clear hr hc hj
  go_enter Try.func93, Try.ntmps93
  go_wp2_with fail
  go_loopw [8] (fun i wr => ∃ k : Nat, k ≤ n ∧ i = .int .i64 k ∧ Hid (∀ j, j < k → rs.getD j [] ≠ r) ∧ Below w.heap.size w wr) (fun i _ => n - (intOf i).toNat)
  case atStart => exact ⟨0, Nat.zero_le _, rfl, Lib.hid (by omega), Below.refl _ _⟩
  case round =>
    obtain ⟨k, hk, rfl, HK, hb⟩ := hrel
    by_cases hkn : k < n
    · obtain ⟨b, o, rfl, hbl, hx⟩ := HR.out.rows (by omega)
      obtain ⟨A, cc, h4, h5⟩ := hx k hkn
      have k1 := bCs hb h4
      have HS := Lib.hid (same1_any A W cc _ B A2 W c2 r wr (h5.below hb) (bCs hb HC.out) (HJ.out.below hb) m1 m1)
      have HL := Lib.hid HR.out.len
      generalize hrow : rs.getD k [] = row at *
      have HROW := Lib.hid hrow
      have HB := Lib.hid hb
      clear hx h4 h5 hrow hbl hb
      by_cases he : row = r
      · have HI : Hid (fIdx rs r = k) := Lib.hid (fIdx_at (by rw [HL.out]; exact hkn) HK.out (by rw [HROW.out]; exact he))
        have HD : Hid (decide (row = r) = true) := Lib.hid (decide_eq_true he)
        generalize decide (row = r) = D at *
        clear he
        go_wp2_with fail
        refine (HS.out).mono ?_
        rintro e w2 ⟨rfl, hb2⟩
        rw [HD.out]
        have HB2 := Lib.hid (HB.out.trans (hb2.mono HB.out.size))
        clear hb2
        go_wp2
        go_ret
        exact ⟨by rw [HI.out, show idxV n k = k from if_pos hkn]; rfl, HB2.out⟩
      · have HK1 : Hid (∀ j, j < k + 1 → rs.getD j [] ≠ r) := Lib.hid (by
          intro j hj
          by_cases e : j = k
          · subst e; rw [HROW.out]; exact he
          · exact HK.out j (by omega))
        have HD : Hid (decide (row = r) = false) := Lib.hid (decide_eq_false he)
        generalize decide (row = r) = D at *
        clear he
        go_wp2_with fail
        refine (HS.out).mono ?_
        rintro e w2 ⟨rfl, hb2⟩
        rw [HD.out]
        have HB2 := Lib.hid (HB.out.trans (hb2.mono HB.out.size))
        clear hb2
        go_wp2
        go_roundw
        case rel => exact ⟨k + 1, by omega, by go_num, HK1, HB2.out⟩
        case measure => simp [intOf]; omega
    · obtain rfl : k = n := by omega
      have HI : Hid (fIdx rs r = k) := Lib.hid (by rw [fIdx_none (by rw [HR.out.len]; exact HK.out), HR.out.len])
      go_wp2
      go_ret
      exact ⟨by rw [HI.out, show idxV k k = -1 from if_neg (by omega)]; rfl, hb⟩
end Go.Proofs.Ytkffljkgblcgdaa
