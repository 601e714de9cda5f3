/- Lemmas and contracts of functions (what each call returns, and that it changes nothing that was there) that the proof of a law of this seat uses; each lemma states its own conditions. -/
import Derived.Test.YtdaacjaibfcacaaB46
import Derived.Test.YtdaacjaibfcacaaB33
namespace Go.Proofs.Ytdaacjaibfcacaa
open Go.RowKit
set_option linter.unusedVariables false
set_option linter.unusedSimpArgs false
open Z (torN place pnt Mv To lin okT nrm keepB colP idm md redM movdL both inv)
def mvG (t : Int) (f : Bool) (x y : Int) : Nat → Value := fun j => if j = 0 then .int .i64 t else if j = 1 then .bool f else if j = 2 then .int .i64 x else .int .i64 y
theorem mvG_alloc (w : World) (t : Int) (f : Bool) (x y : Int) : (w.alloc (.cells #[.int .i64 (t), .bool f, .int .i64 x, .int .i64 y] 53)).rowIs w.heap.size 53 4 (mvG t f x y) := by
  refine World.rowIs_alloc w #[.int .i64 t, .bool f, .int .i64 x, .int .i64 y] 53 _ ?_
  intro i hi
  have hi3 : i = 0 ∨ i = 1 ∨ i = 2 ∨ i = 3 := by simp at hi; omega
  rcases hi3 with rfl | rfl | rfl | rfl <;> rfl
set_option maxRecDepth 100000 in
set_option maxHeartbeats 8000000 in
theorem gmoved_bad (G W H : Int) (a : Option Addr) (n c : Nat) (cs : List Int) (t : Int) (f : Bool) (ox oy : Int) (w : World) (hI : IsInts w a n cs) (e : Int) (he : e ≠ 0)
    (h3 : ∀ w, IsInts w a n cs → Calls Try.prog 45 #[.agg #[.int .i64 (G), .int .i64 (W), .int .i64 (H), .slice a n c], .agg #[.int .i64 (t), .bool (f), .int .i64 (ox), .int .i64 (oy)]] w (MdPost 0 0 0 0 [] e w)) :
    Calls Try.prog 11 #[.agg #[.int .i64 (G), .int .i64 (W), .int .i64 (H), .slice a n c], .agg #[.int .i64 (t), .bool (f), .int .i64 (ox), .int .i64 (oy)]] w fun r w' => r = .returned (.bool true) ∧ Below w.heap.size w w' := by
  have hb : (e != 0) = true := by simpa using he
  have HI := Lib.hid hI
  have H3 := Lib.hid h3
  unfold MdPost at H3
  clear hI h3
  go_enter Try.func11, Try.ntmps11
  (go_wp2_with fail; refine (alive3_any _).mono ?_; rintro r w1 ⟨rfl, hb⟩; obtain ⟨E, d, rfl⟩ := bExt hb; clear hb)
  go_wp2_with fail
  refine (H3.out _ (HI.out.below (by repeat (first | exact Below.refl _ _ | refine Below.drew ?_ | refine below_drewN ?_ _ | refine Below.alloc ?_ (by first | exact Nat.le_refl _ | (simp; done) | (simp; omega) | omega) _ | refine Below.setCell ?_ (by first | exact Nat.le_refl _ | (simp; done) | (simp; omega) | omega) _ | refine bExtW ?_ (by first | exact Nat.le_refl _ | (simp; done) | (simp; omega) | omega) | refine Below.trans ?_ (Below.mono (by assumption) (by first | exact Nat.le_refl _ | (simp; done) | (simp; omega) | omega)))))).mono ?_
  rintro r w2 ⟨⟨A, C, rfl, hA⟩, hb2⟩
  obtain ⟨E, d, rfl⟩ := bExt hb2
  clear hA hb2
  go_wp2
  go_ret
  exact ⟨rfl, (by repeat (first | exact Below.refl _ _ | refine Below.drew ?_ | refine below_drewN ?_ _ | refine Below.alloc ?_ (by first | exact Nat.le_refl _ | (simp; done) | (simp; omega) | omega) _ | refine Below.setCell ?_ (by first | exact Nat.le_refl _ | (simp; done) | (simp; omega) | omega) _ | refine bExtW ?_ (by first | exact Nat.le_refl _ | (simp; done) | (simp; omega) | omega) | refine Below.trans ?_ (Below.mono (by assumption) (by first | exact Nat.le_refl _ | (simp; done) | (simp; omega) | omega))))⟩
set_option maxRecDepth 100000 in
set_option maxHeartbeats 8000000 in
theorem gmoved_inv (G W H n N t M : Nat) (f : Bool) (ox oy : Int) (a : Option Addr) (c : Nat) (cs : List Int) (w : World) (hI : IsInts w a n cs) (h : ChOk G W H n cs) (hN : torN W H = N) (h24 : N ≤ 24) (h0 : 0 < N) (hM : N * N = M) (hx : (-9223372036854775808 ≤ ox ∧ ox ≤ 9223372036854775807)) (hy : (-9223372036854775808 ≤ oy ∧ oy ≤ 9223372036854775807)) (he : wE G t ox oy = 0) (e : Int) (hne : e ≠ 0) (hin : inV G t f ox oy = .tuple #[.agg #[.int .i64 (0), .bool (false), .int .i64 (0), .int .i64 (0)], .int .i64 (e)]) :
    Calls Try.prog 11 #[.agg #[.int .i64 (G), .int .i64 (W), .int .i64 (H), .slice a n c], .agg #[.int .i64 (t), .bool (f), .int .i64 (ox), .int .i64 (oy)]] w fun r w' => r = .returned (.bool true) ∧ Below w.heap.size w w' := by
  obtain ⟨_, hs, n', hn', htl⟩ := wE_zero he
  have hb : (e != 0) = true := by simpa using hne
  have HM := Lib.hid (fun w hI => Moved_ok G W H n N t M f ox oy a c cs w hI h hN h24 h0 hM hx hy he)
  have HIN := Lib.hid (fun w => Inverse_any G t ox oy f w (by have := h.g; omega) (by have := h.g; omega) hx hy)
  rw [hin] at HIN
  have HI := Lib.hid hI
  unfold MdPost at HM
  clear hI h hN he hn' htl hs hin
  go_enter Try.func11, Try.ntmps11
  (go_wp2_with fail; refine (alive3_any _).mono ?_; rintro r w1 ⟨rfl, hb⟩; obtain ⟨E, d, rfl⟩ := bExt hb; clear hb)
  go_wp2_with fail
  refine (HM.out _ (HI.out.below (by repeat (first | exact Below.refl _ _ | refine Below.drew ?_ | refine below_drewN ?_ _ | refine Below.alloc ?_ (by first | exact Nat.le_refl _ | (simp; done) | (simp; omega) | omega) _ | refine Below.setCell ?_ (by first | exact Nat.le_refl _ | (simp; done) | (simp; omega) | omega) _ | refine bExtW ?_ (by first | exact Nat.le_refl _ | (simp; done) | (simp; omega) | omega) | refine Below.trans ?_ (Below.mono (by assumption) (by first | exact Nat.le_refl _ | (simp; done) | (simp; omega) | omega)))))).mono ?_
  rintro r w2 ⟨⟨A, C, rfl, hA⟩, hb2⟩
  obtain ⟨E, d, rfl⟩ := bExt hb2
  clear hA hb2
  (go_wp2_with fail; refine (HIN.out _).mono ?_; rintro r w1 ⟨rfl, hb⟩; obtain ⟨E, d, rfl⟩ := bExt hb; clear hb)
  go_wp2
  go_ret
  exact ⟨rfl, (by repeat (first | exact Below.refl _ _ | refine Below.drew ?_ | refine below_drewN ?_ _ | refine Below.alloc ?_ (by first | exact Nat.le_refl _ | (simp; done) | (simp; omega) | omega) _ | refine Below.setCell ?_ (by first | exact Nat.le_refl _ | (simp; done) | (simp; omega) | omega) _ | refine bExtW ?_ (by first | exact Nat.le_refl _ | (simp; done) | (simp; omega) | omega) | refine Below.trans ?_ (Below.mono (by assumption) (by first | exact Nat.le_refl _ | (simp; done) | (simp; omega) | omega))))⟩
end Go.Proofs.Ytdaacjaibfcacaa

namespace Go.Proofs.Ytdaacjaibfcacaa
open Go.RowKit
set_option linter.unusedVariables false
set_option linter.unusedSimpArgs false
open Z (torN place pnt Mv To lin okT nrm keepB colP idm md redM movdL both inv movd)
/-- The chart that is made is a right one. -/
theorem ChOk.moved {G W H n N M : Nat} {cs : List Int} (h : ChOk G W H n cs) (h24 : N ≤ 24) (h0 : 0 < N) (hM : N * N = M) (m : Mv) : ChOk G N N M (movdL W H cs G N m M) :=
  ⟨h.g, h0, by omega, h0, by omega, hM.symm, Z.movdL_mem (P := fun x => 0 ≤ x ∧ x < 62) (by omega) h.cr M⟩
theorem moved_col {G W H n N M : Nat} {cs : List Int} (h : ChOk G W H n cs) (hN : torN W H = N) (h0 : 0 < N) (hM : N * N = M) {m : Mv} (hm : okT (G : Int) m) : colP N N (movdL W H cs G N m M) = movd G m (colP W H cs) := by
  have hd := Z.torN_dvd W H
  rw [hN] at hd
  rw [← hM]
  exact Z.movd_col (by have := h.g; show (G : Int) = 4 ∨ (G : Int) = 6; omega) h0 hd.1 hd.2 hm
theorem moved_back {G W H n N M : Nat} {cs : List Int} (h : ChOk G W H n cs) (hN : torN W H = N) (h24 : N ≤ 24) (h0 : 0 < N) (hM : N * N = M) {m : Mv} (hm : okT (G : Int) m) : colP N N (movdL N N (movdL W H cs G N m M) G N (inv G m) M) = colP W H cs := by
  have hg : Z.G (G : Int) := by have := h.g; show (G : Int) = 4 ∨ (G : Int) = 6; omega
  rw [moved_col (h.moved h24 h0 hM m) (Z.torN_self h0) h0 hM (Z.inv_ok hg hm), moved_col h hN h0 hM hm]
  funext z
  exact Z.movd_back hg hm z
/-- As many moves. -/
theorem moved_len {G W H n N M : Nat} {cs : List Int} (h : ChOk G W H n cs) (hN : torN W H = N) (h24 : N ≤ 24) (h0 : 0 < N) (hM : N * N = M) {m : Mv} (hm : okT (G : Int) m) : (Z.movesL N N (movdL W H cs G N m M) G N).length = (Z.movesL W H cs G N).length := by
  have hg : Z.G (G : Int) := by have := h.g; show (G : Int) = 4 ∨ (G : Int) = 6; omega
  obtain ⟨g1, p1, _, _⟩ := moves_facts h hN h24 h0
  obtain ⟨g2, _, _, _⟩ := moves_facts (h.moved h24 h0 hM m) (Z.torN_self h0) h24 h0
  rw [moved_col h hN h0 hM hm] at g2
  exact (Z.moved_length hg h0 p1 hm g1 g2).symm
/-- And those. -/
theorem moved_keep {G W H n N M : Nat} {cs : List Int} (h : ChOk G W H n cs) (hN : torN W H = N) (h24 : N ≤ 24) (h0 : 0 < N) (hM : N * N = M) {m k : Mv} (hm : okT (G : Int) m) (hk : k ∈ Z.movesL W H cs G N) : keepB N N (movdL W H cs G N m M) G N (both G (both G m k) (inv G m)) = true := by
  have hg : Z.G (G : Int) := by have := h.g; show (G : Int) = 4 ∨ (G : Int) = 6; omega
  obtain ⟨g1, _, _, _⟩ := moves_facts h hN h24 h0
  refine (Z.keepB_iff h0 (Nat.dvd_refl N) (Nat.dvd_refl N)).2 ?_
  rw [moved_col h hN h0 hM hm]
  exact Z.keep_conj hg hm (g1.ok hk) (g1.keep hk)
end Go.Proofs.Ytdaacjaibfcacaa
