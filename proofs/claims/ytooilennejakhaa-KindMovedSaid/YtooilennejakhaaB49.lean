/- Lemmas and contracts of functions (what each call returns, and that it changes nothing that was there) that the proof of a law of this seat uses; each lemma states its own conditions. -/
import Derived.Test.YtooilennejakhaaB48
import Derived.Test.YtooilennejakhaaB45
import Derived.Test.YtooilennejakhaaB37
import Derived.Test.YtooilennejakhaaB42
namespace Go.Proofs.Ytooilennejakhaa
open Go.RowKit
set_option linter.unusedVariables false
set_option linter.unusedSimpArgs false
open Z (torN place pnt Mv To lin okT nrm keepB colP idm md redM movdL both inv movd)
/-- The chart that is made is a right one. -/
theorem ChOk.moved {G W H n N M : Nat} {cs : List Int} (h : ChOk G W H n cs) (h24 : N ≤ 24) (h0 : 0 < N) (hM : N * N = M) (m : Mv) : ChOk G N N M (movdL W H cs G N m M) :=
  ⟨h.g, h0, by omega, h0, by omega, hM.symm, Z.movdL_mem (P := fun x => 0 ≤ x ∧ x < 62) (by omega) h.cr M⟩
theorem moved_col {G W H n N M : Nat} {cs : List Int} (h : ChOk G W H n cs) (hN : torN W H = N) (h0 : 0 < N) (hM : N * N = M) {m : Mv} (hm : okT (G : Int) m) : colP N N (movdL W H cs G N m M) = movd G m (colP W H cs) := by
  have hd := Z.torN_dvd W H
  rw [hN] at hd
  rw [← hM]
  exact Z.movd_col (by have := h.g; show (G : Int) = 4 ∨ (G : Int) = 6; omega) h0 hd.1 hd.2 hm
theorem moved_back {G W H n N M : Nat} {cs : List Int} (h : ChOk G W H n cs) (hN : torN W H = N) (h24 : N ≤ 24) (h0 : 0 < N) (hM : N * N = M) {m : Mv} (hm : okT (G : Int) m) : colP N N (movdL N N (movdL W H cs G N m M) G N (inv G m) M) = colP W H cs := by
  have hg : Z.G (G : Int) := by have := h.g; show (G : Int) = 4 ∨ (G : Int) = 6; omega
  rw [moved_col (h.moved h24 h0 hM m) (Z.torN_self h0) h0 hM (Z.inv_ok hg hm), moved_col h hN h0 hM hm]
  funext z
  exact Z.movd_back hg hm z
/-- As many moves. -/
theorem moved_len {G W H n N M : Nat} {cs : List Int} (h : ChOk G W H n cs) (hN : torN W H = N) (h24 : N ≤ 24) (h0 : 0 < N) (hM : N * N = M) {m : Mv} (hm : okT (G : Int) m) : (Z.movesL N N (movdL W H cs G N m M) G N).length = (Z.movesL W H cs G N).length := by
  have hg : Z.G (G : Int) := by have := h.g; show (G : Int) = 4 ∨ (G : Int) = 6; omega
  obtain ⟨g1, p1, _, _⟩ := moves_facts h hN h24 h0
  obtain ⟨g2, _, _, _⟩ := moves_facts (h.moved h24 h0 hM m) (Z.torN_self h0) h24 h0
  rw [moved_col h hN h0 hM hm] at g2
  exact (Z.moved_length hg h0 p1 hm g1 g2).symm
/-- And those. -/
theorem moved_keep {G W H n N M : Nat} {cs : List Int} (h : ChOk G W H n cs) (hN : torN W H = N) (h24 : N ≤ 24) (h0 : 0 < N) (hM : N * N = M) {m k : Mv} (hm : okT (G : Int) m) (hk : k ∈ Z.movesL W H cs G N) : keepB N N (movdL W H cs G N m M) G N (both G (both G m k) (inv G m)) = true := by
  have hg : Z.G (G : Int) := by have := h.g; show (G : Int) = 4 ∨ (G : Int) = 6; omega
  obtain ⟨g1, _, _, _⟩ := moves_facts h hN h24 h0
  refine (Z.keepB_iff h0 (Nat.dvd_refl N) (Nat.dvd_refl N)).2 ?_
  rw [moved_col h hN h0 hM hm]
  exact Z.keep_conj hg hm (g1.ok hk) (g1.keep hk)
end Go.Proofs.Ytooilennejakhaa

namespace Go.Proofs.Ytooilennejakhaa
open Go.RowKit
set_option linter.unusedVariables false
set_option linter.unusedSimpArgs false
open Z (torN place pnt Mv To lin okT nrm keepB colP idm md redM both inv stK Sid Upw movesL turnsF waysF kindP alongB movd movdL SameSig)
/-- The chart is of this kind. -/
def KindIs (G W H : Nat) (cs : List Int) (K : Int) : Prop :=
  ∃ N sa uc ub, torN W H = N ∧ N ≤ 24 ∧ 0 < N ∧ Sid (stK W H cs G N) N sa ∧ Upw (stK W H cs G N) N sa uc ub ∧ kindP (turnsF (movesL W H cs G N)).length (alongB G sa ub uc (waysF G sa ub uc (movesL W H cs G N))) (waysF G sa ub uc (movesL W H cs G N)) = K
theorem Kind_is {G W H n : Nat} {a : Option Addr} {c : Nat} {cs : List Int} {K : Int} {w : World} (hI : IsInts w a n cs) (h : ChOk G W H n cs) (hK : KindIs G W H cs K) :
    Calls Try.prog 8 #[.agg #[.int .i64 (G), .int .i64 (W), .int .i64 (H), .slice a n c]] w fun r w' => r = .returned (.tuple #[.int .i64 (K), .int .i64 (0)]) ∧ Below w.heap.size w w' := by
  obtain ⟨N, sa, uc, ub, hN, h24, h0, hS, hU, rfl⟩ := hK
  exact Kind_ok G W H n N sa uc ub a c cs w hI h hN h24 h0 hS hU
theorem KindIs.ex {G W H n : Nat} {cs : List Int} (h : ChOk G W H n cs) (h24 : torN W H ≤ 24) : ∃ K, KindIs G W H cs K := by
  have hd := Z.torN_dvd W H
  obtain ⟨sa, uc, ub, hS, hU⟩ := Z.fine_ex (cs := cs) (g := (G : Int)) h.tpos hd.1 hd.2
  exact ⟨_, _, sa, uc, ub, rfl, h24, h.tpos, hS, hU, rfl⟩
/-- Charts alike in all that matters are of the same kind. -/
theorem KindIs.same {G W H n W' H' n' : Nat} {cs cs' : List Int} {K : Int} (hK : KindIs G W H cs K) (h : ChOk G W H n cs) (h' : ChOk G W' H' n' cs') (h24' : torN W' H' ≤ 24) (hs : SameSig G (colP W H cs) (colP W' H' cs')) : KindIs G W' H' cs' K := by
  obtain ⟨N, sa, uc, ub, hN, h24, h0, hS, hU, rfl⟩ := hK
  have hg : Z.G (G : Int) := by have := h.g; show (G : Int) = 4 ∨ (G : Int) = 6; omega
  have hd := Z.torN_dvd W H
  have hd' := Z.torN_dvd W' H'
  have h0' := h'.tpos
  rw [hN] at hd
  obtain ⟨sa', uc', ub', hS', hU'⟩ := Z.fine_ex (cs := cs') (g := (G : Int)) h0' hd'.1 hd'.2
  refine ⟨_, sa', uc', ub', rfl, h24', h0', hS', hU', ?_⟩
  have a1 := hS.an
  have a2 := hS'.an
  exact (Z.kind_same (Z.movesL_grp h0 hd.1 hd.2) (Z.movesL_grp h0' hd'.1 hd'.2) hg h0 h0' (Z.colP_per cs hd.1 hd.2) (Z.colP_per cs' hd'.1 hd'.2) (Z.fine_of h0 hd.1 hd.2 hS hU) (Z.fine_of h0' hd'.1 hd'.2 hS' hU') (by omega) (by omega) hs).symm
theorem KindIs.bd {G W H n : Nat} {cs : List Int} {K : Int} (hK : KindIs G W H cs K) (h : ChOk G W H n cs) : 1 ≤ K ∧ K ≤ 17 := by
  obtain ⟨N, sa, uc, ub, hN, h24, h0, hS, hU, rfl⟩ := hK
  have hg : Z.G (G : Int) := by have := h.g; show (G : Int) = 4 ∨ (G : Int) = 6; omega
  have hd := Z.torN_dvd W H
  rw [hN] at hd
  have := Z.counts_ok hg h0 hd.1 hd.2 (Z.fine_of h0 hd.1 hd.2 hS hU) (alongB G sa ub uc (waysF G sa ub uc (movesL W H cs G N))) rfl
  exact ⟨this.1, this.2.1⟩
theorem torBad_much {G W H n : Nat} {cs : List Int} {a : Option Addr} {c : Nat} (h : ChOk G W H n cs) (hm : 24 < torN W H) : TorBad 4 (.agg #[.int .i64 (G), .int .i64 (W), .int .i64 (H), .slice a n c]) a n cs := by
  have hv : torV (torN W H) = .tuple #[.int .i64 (0), .int .i64 (4)] := by unfold torV; rw [if_pos hm]
  exact ⟨by omega, fun w hI => by rw [← hv]; exact Torus_ok G W H n a c cs w hI h, fun w hI => by rw [← hv]; exact rTorus_ok G W H n a c cs w hI h⟩
/-- Either it is of a kind, or there is too much of it. -/
theorem Kind_or {G W H n : Nat} {a : Option Addr} {c : Nat} {cs : List Int} (h : ChOk G W H n cs) {K : Int} (hK : torN W H ≤ 24 → KindIs G W H cs K) :
    ∃ k e : Int, (e = 4 ∨ e = 0 ∧ k = K) ∧ ∀ w, IsInts w a n cs → Calls Try.prog 8 #[.agg #[.int .i64 (G), .int .i64 (W), .int .i64 (H), .slice a n c]] w fun r w' => r = .returned (.tuple #[.int .i64 (k), .int .i64 (e)]) ∧ Below w.heap.size w w' := by
  by_cases hm : 24 < torN W H
  · exact ⟨0, 4, .inl rfl, fun w hI => Kind_bad G W H a n c cs w hI 4 (torBad_much h hm)⟩
  · exact ⟨K, 0, .inr ⟨rfl, rfl⟩, fun w hI => Kind_is hI h (hK (by omega))⟩
end Go.Proofs.Ytooilennejakhaa

namespace Go.Proofs.Ytooilennejakhaa
open Go.RowKit
set_option linter.unusedVariables false
set_option linter.unusedSimpArgs false
open Z (torN place pnt Mv To lin okT nrm keepB colP idm md redM both inv movd movdL SameSig dyeL layL pieceL)
set_option maxRecDepth 100000 in
set_option maxHeartbeats 8000000 in
theorem kmov_bad (G W H : Int) (a : Option Addr) (n c : Nat) (cs : List Int) (t : Int) (f : Bool) (ox oy add wide high : Int) (w : World) (hI : IsInts w a n cs) (e : Int) (hT : TorBad e (.agg #[.int .i64 (G), .int .i64 (W), .int .i64 (H), .slice a n c]) a n cs) :
    Calls Try.prog 6 #[.agg #[.int .i64 (G), .int .i64 (W), .int .i64 (H), .slice a n c], .agg #[.int .i64 (t), .bool (f), .int .i64 (ox), .int .i64 (oy)], .int .i64 (add), .int .i64 (wide), .int .i64 (high)] w fun r w' => r = .returned (.bool true) ∧ Below w.heap.size w w' := by
  have hb : (e != 0) = true := by simpa using hT.1
  have HK := Lib.hid (fun w hI => Kind_bad G W H a n c cs w hI e hT)
  have HI := Lib.hid hI
  clear hI hT
  go_enter Try.func6, Try.ntmps6
  (go_wp2_with fail; refine (alive4_any _).mono ?_; rintro r w1 ⟨rfl, hb⟩; obtain ⟨E, d, rfl⟩ := bExt hb; clear hb)
  (go_wp2_with fail; refine (HK.out _ (HI.out.below (by repeat (first | exact Below.refl _ _ | refine Below.drew ?_ | refine below_drewN ?_ _ | refine Below.alloc ?_ (by first | exact Nat.le_refl _ | (simp; done) | (simp; omega) | omega) _ | refine Below.setCell ?_ (by first | exact Nat.le_refl _ | (simp; done) | (simp; omega) | omega) _ | refine bExtW ?_ (by first | exact Nat.le_refl _ | (simp; done) | (simp; omega) | omega) | refine Below.trans ?_ (Below.mono (by assumption) (by first | exact Nat.le_refl _ | (simp; done) | (simp; omega) | omega)))))).mono ?_; rintro r w1 ⟨rfl, hb⟩; obtain ⟨E, d, rfl⟩ := bExt hb; clear hb)
  go_wp2
  go_ret
  exact ⟨rfl, (by repeat (first | exact Below.refl _ _ | refine Below.drew ?_ | refine below_drewN ?_ _ | refine Below.alloc ?_ (by first | exact Nat.le_refl _ | (simp; done) | (simp; omega) | omega) _ | refine Below.setCell ?_ (by first | exact Nat.le_refl _ | (simp; done) | (simp; omega) | omega) _ | refine bExtW ?_ (by first | exact Nat.le_refl _ | (simp; done) | (simp; omega) | omega) | refine Below.trans ?_ (Below.mono (by assumption) (by first | exact Nat.le_refl _ | (simp; done) | (simp; omega) | omega))))⟩
set_option maxRecDepth 100000 in
set_option maxHeartbeats 8000000 in
theorem Moved_wrong1 (G W H n N : Nat) (a : Option Addr) (c : Nat) (cs : List Int) (t : Int) (f : Bool) (ox oy : Int) (w : World) (hI : IsInts w a n cs) (h : ChOk G W H n cs) (hN : torN W H = N) (h24 : N ≤ 24) (ht : (-9223372036854775808 ≤ t ∧ t ≤ 9223372036854775807)) (h0 : (-9223372036854775808 ≤ ox ∧ ox ≤ 9223372036854775807)) (h1 : (-9223372036854775808 ≤ oy ∧ oy ≤ 9223372036854775807)) (he : wE G t ox oy ≠ 0) :
    Calls Try.prog 18 #[.agg #[.int .i64 (G), .int .i64 (W), .int .i64 (H), .slice a n c], .agg #[.int .i64 (t), .bool (f), .int .i64 (ox), .int .i64 (oy)]] w (MdPost 0 0 0 0 [] (wE G t ox oy) w) := by
  obtain ⟨M, hM⟩ : ∃ M, N * N = M := ⟨_, rfl⟩
  have hgw : (-9223372036854775808 ≤ (G : Int) ∧ (G : Int) ≤ 9223372036854775807) := by have := h.g; omega
  have HL := Lib.hid (fun w hI => laid_ok G W H n N M a c cs w hI h hN h24 hM)
  have HW := Lib.hid (fun w => Wrong_any G t ox oy f w hgw ht h0 h1)
  have hb : (wE G t ox oy != 0) = true := by simpa using he
  have HI := Lib.hid hI
  generalize wE G t ox oy = e at *
  clear hI hN hM h he ht h0 h1 hgw
  go_enter Try.func18, Try.ntmps18
  go_wp2_with fail
  refine (HL.out _ (HI.out.below (by repeat (first | exact Below.refl _ _ | refine Below.drew ?_ | refine below_drewN ?_ _ | refine Below.alloc ?_ (by first | exact Nat.le_refl _ | (simp; done) | (simp; omega) | omega) _ | refine Below.setCell ?_ (by first | exact Nat.le_refl _ | (simp; done) | (simp; omega) | omega) _ | refine bExtW ?_ (by first | exact Nat.le_refl _ | (simp; done) | (simp; omega) | omega) | refine Below.trans ?_ (Below.mono (by assumption) (by first | exact Nat.le_refl _ | (simp; done) | (simp; omega) | omega)))))).mono ?_
  rintro r w2 ⟨⟨A, C, rfl, hA⟩, hb2⟩
  obtain ⟨E, d, rfl⟩ := bExt hb2
  clear hA hb2
  (go_wp2_with fail; refine (HW.out _).mono ?_; rintro r w1 ⟨rfl, hb⟩; obtain ⟨E, d, rfl⟩ := bExt hb; clear hb)
  go_wp2
  refine bodyPost_ret (v := .tuple #[.agg #[.int .i64 (0), .int .i64 (0), .int .i64 (0), .slice none 0 0], .int .i64 (e)]) (by simp [results, Try.results18, go_sem]) rfl ⟨⟨none, 0, rfl, ints_nil _⟩, (by repeat (first | exact Below.refl _ _ | refine Below.drew ?_ | refine below_drewN ?_ _ | refine Below.alloc ?_ (by first | exact Nat.le_refl _ | (simp; done) | (simp; omega) | omega) _ | refine Below.setCell ?_ (by first | exact Nat.le_refl _ | (simp; done) | (simp; omega) | omega) _ | refine bExtW ?_ (by first | exact Nat.le_refl _ | (simp; done) | (simp; omega) | omega) | refine Below.trans ?_ (Below.mono (by assumption) (by first | exact Nat.le_refl _ | (simp; done) | (simp; omega) | omega))))⟩
/-- What is moved is of the same kind. -/
theorem mov_kind (G W H n : Nat) (a : Option Addr) (c : Nat) (cs : List Int) (t : Int) (f : Bool) (ox oy : Int) (h : ChOk G W H n cs) (h24 : torN W H ≤ 24) (ht : (-9223372036854775808 ≤ t ∧ t ≤ 9223372036854775807)) (hx : (-9223372036854775808 ≤ ox ∧ ox ≤ 9223372036854775807)) (hy : (-9223372036854775808 ≤ oy ∧ oy ≤ 9223372036854775807)) {K : Int} (hK : KindIs G W H cs K) :
    ∃ (G' N' M' : Int) (m : Nat) (L : List Int) (e : Int), (∀ w, IsInts w a n cs → Calls Try.prog 18 #[.agg #[.int .i64 (G), .int .i64 (W), .int .i64 (H), .slice a n c], .agg #[.int .i64 (t), .bool (f), .int .i64 (ox), .int .i64 (oy)]] w (MdPost G' N' M' m L e w)) ∧
      (e ≠ 0 ∨ e = 0 ∧ ∀ A C w, IsInts w A m L → Calls Try.prog 8 #[.agg #[.int .i64 (G'), .int .i64 (N'), .int .i64 (M'), .slice A m C]] w fun r w' => r = .returned (.tuple #[.int .i64 (K), .int .i64 (0)]) ∧ Below w.heap.size w w') := by
  have h0 := h.tpos
  by_cases he : wE G t ox oy = 0
  · obtain ⟨_, hs, n', rfl, htl⟩ := wE_zero he
    have hm : okT (G : Int) ⟨n', f, (ox, oy)⟩ := by unfold okT; simp only; omega
    have hg : Z.G (G : Int) := by have := h.g; show (G : Int) = 4 ∨ (G : Int) = 6; omega
    obtain ⟨N, hN⟩ : ∃ N, torN W H = N := ⟨_, rfl⟩
    obtain ⟨M, hM⟩ : ∃ M, N * N = M := ⟨_, rfl⟩
    rw [hN] at h24 h0
    have h' := h.moved h24 h0 hM ⟨n', f, (ox, oy)⟩
    refine ⟨G, N, N, M, movdL W H cs G N ⟨n', f, (ox, oy)⟩ M, 0, fun w hI => Moved_ok G W H n N n' M f ox oy a c cs w hI h hN h24 h0 hM hx hy he, .inr ⟨rfl, fun A C w hI => Kind_is hI h' (hK.same h h' (by rw [Z.torN_self h0]; exact h24) ?_)⟩⟩
    rw [moved_col h hN h0 hM hm]
    exact Z.sig_moved hg hm
  · exact ⟨0, 0, 0, 0, [], wE G t ox oy, fun w hI => Moved_wrong1 G W H n _ a c cs t f ox oy w hI h rfl h24 ht hx hy he, .inl he⟩
end Go.Proofs.Ytooilennejakhaa
