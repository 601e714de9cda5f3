/- Lemmas and contracts of functions (what each call returns, and that it changes nothing that was there) that the proof of a law of this seat uses; each lemma states its own conditions. -/
import Derived.Test.YtdaacjaibfcacaaB28
namespace Go.Proofs.Ytdaacjaibfcacaa
open Go.RowKit
set_option linter.unusedVariables false
set_option linter.unusedSimpArgs false
open Z (torN place pnt Mv To lin okT nrm keepB colP idm)
/-- What is wrong, both ways. -/
def TorBad (e : Int) (V : Value) (a : Option Addr) (n : Nat) (cs : List Int) : Prop :=
  e ≠ 0 ∧ (∀ w, IsInts w a n cs → Calls Try.prog 28 #[V] w fun r w' => r = .returned (.tuple #[.int .i64 (0), .int .i64 (e)]) ∧ Below w.heap.size w w') ∧ (∀ w, IsInts w a n cs → Calls Try.prog 38 #[V] w fun r w' => r = .returned (.tuple #[.int .i64 (0), .int .i64 (e)]) ∧ Below w.heap.size w w')
theorem chart_cases (G W H : Int) (a : Option Addr) (n c : Nat) (cs : List Int) (h0 : (-9223372036854775808 ≤ G ∧ G ≤ 9223372036854775807)) (h1 : (-9223372036854775808 ≤ W ∧ W ≤ 9223372036854775807)) (h2 : (-9223372036854775808 ≤ H ∧ H ≤ 9223372036854775807)) (h3 : n ≤ 9223372036854775807) :
    (∃ e : Int, TorBad e (.agg #[.int .i64 (G), .int .i64 (W), .int .i64 (H), .slice a n c]) a n cs) ∨ (∃ G' W' H' N : Nat, G = G' ∧ W = W' ∧ H = H' ∧ ChOk G' W' H' n cs ∧ torN W' H' = N ∧ 0 < N ∧ N ≤ 24) := by
  by_cases he : chE G W H n cs = 0
  · obtain ⟨G', W', H', rfl, rfl, rfl, h⟩ := ChOk.of he
    by_cases hN : 24 < torN W' H'
    · have hv : torV (torN W' H') = .tuple #[.int .i64 (0), .int .i64 (4)] := by unfold torV; rw [if_pos hN]
      exact .inl ⟨4, by omega, fun w hI => by rw [← hv]; exact Torus_ok G' W' H' n a c cs w hI h, fun w hI => by rw [← hv]; exact rTorus_ok G' W' H' n a c cs w hI h⟩
    · exact .inr ⟨G', W', H', _, rfl, rfl, rfl, h, rfl, h.tpos, by omega⟩
  · exact .inl ⟨_, he, fun w hI => Torus_bad G W H a n c cs w hI h0 h1 h2 h3 he, fun w hI => rTorus_bad G W H a n c cs w hI h0 h1 h2 h3 he⟩
theorem torOk {G W H n N : Nat} {a : Option Addr} {c : Nat} {cs : List Int} (h : ChOk G W H n cs) (hN : torN W H = N) (h24 : N ≤ 24) :
    (∀ w, IsInts w a n cs → Calls Try.prog 28 #[.agg #[.int .i64 (G), .int .i64 (W), .int .i64 (H), .slice a n c]] w fun r w' => r = .returned (.tuple #[.int .i64 (N), .int .i64 (0)]) ∧ Below w.heap.size w w') ∧
    (∀ w, IsInts w a n cs → Calls Try.prog 38 #[.agg #[.int .i64 (G), .int .i64 (W), .int .i64 (H), .slice a n c]] w fun r w' => r = .returned (.tuple #[.int .i64 (N), .int .i64 (0)]) ∧ Below w.heap.size w w') := by
  have hv : torV (torN W H) = .tuple #[.int .i64 (N), .int .i64 (0)] := by unfold torV; rw [hN, if_neg (by omega)]
  exact ⟨fun w hI => by rw [← hv]; exact Torus_ok G W H n a c cs w hI h, fun w hI => by rw [← hv]; exact rTorus_ok G W H n a c cs w hI h⟩
/-- A list of moves and what is wrong. -/
def MvPost (L : List Mv) (e : Int) (w : World) (r : Ending) (w' : World) : Prop := (∃ A C, r = .returned (.tuple #[.slice A L.length C, .int .i64 (e)]) ∧ OwnM w' w.heap.size A L.length C L) ∧ Below w.heap.size w w'
theorem OwnM.none (w : World) (b : Nat) : OwnM w b none 0 0 [] := ⟨rfl, World.ownsRow_nil _ _ _ _⟩
set_option maxRecDepth 100000 in
set_option maxHeartbeats 8000000 in
theorem Moves_bad (G W H : Int) (a : Option Addr) (n c : Nat) (cs : List Int) (w : World) (hI : IsInts w a n cs) (e : Int) (hT : TorBad e (.agg #[.int .i64 (G), .int .i64 (W), .int .i64 (H), .slice a n c]) a n cs) :
    Calls Try.prog 27 #[.agg #[.int .i64 (G), .int .i64 (W), .int .i64 (H), .slice a n c]] w (MvPost [] e w) := by
  have hb : (e != 0) = true := by simpa using hT.1
  have HL := Lib.hid (fun w hI => laid_bad G W H a n c cs w hI e hT.1 hT.2.1)
  have HI := Lib.hid hI
  clear hI hT
  go_enter Try.func27, Try.ntmps27
  (go_wp2_with fail; refine (HL.out _ (HI.out.below (by repeat (first | exact Below.refl _ _ | refine Below.drew ?_ | refine below_drewN ?_ _ | refine Below.alloc ?_ (by first | exact Nat.le_refl _ | (simp; done) | (simp; omega) | omega) _ | refine Below.setCell ?_ (by first | exact Nat.le_refl _ | (simp; done) | (simp; omega) | omega) _ | refine bExtW ?_ (by first | exact Nat.le_refl _ | (simp; done) | (simp; omega) | omega) | refine Below.trans ?_ (Below.mono (by assumption) (by first | exact Nat.le_refl _ | (simp; done) | (simp; omega) | omega)))))).mono ?_; rintro r w1 ⟨rfl, hb⟩; obtain ⟨E, d, rfl⟩ := bExt hb; clear hb)
  go_wp2
  go_ret2
  exact ⟨⟨none, 0, rfl, OwnM.none _ _⟩, (by repeat (first | exact Below.refl _ _ | refine Below.drew ?_ | refine below_drewN ?_ _ | refine Below.alloc ?_ (by first | exact Nat.le_refl _ | (simp; done) | (simp; omega) | omega) _ | refine Below.setCell ?_ (by first | exact Nat.le_refl _ | (simp; done) | (simp; omega) | omega) _ | refine bExtW ?_ (by first | exact Nat.le_refl _ | (simp; done) | (simp; omega) | omega) | refine Below.trans ?_ (Below.mono (by assumption) (by first | exact Nat.le_refl _ | (simp; done) | (simp; omega) | omega))))⟩
set_option maxRecDepth 100000 in
set_option maxHeartbeats 8000000 in
theorem rMoves_bad (G W H : Int) (a : Option Addr) (n c : Nat) (cs : List Int) (w : World) (hI : IsInts w a n cs) (e : Int) (hT : TorBad e (.agg #[.int .i64 (G), .int .i64 (W), .int .i64 (H), .slice a n c]) a n cs) :
    Calls Try.prog 39 #[.agg #[.int .i64 (G), .int .i64 (W), .int .i64 (H), .slice a n c]] w (MvPost [] e w) := by
  have hb : (e != 0) = true := by simpa using hT.1
  have HL := Lib.hid hT.2.2
  have HI := Lib.hid hI
  clear hI hT
  go_enter Try.func39, Try.ntmps39
  (go_wp2_with fail; refine (HL.out _ (HI.out.below (by repeat (first | exact Below.refl _ _ | refine Below.drew ?_ | refine below_drewN ?_ _ | refine Below.alloc ?_ (by first | exact Nat.le_refl _ | (simp; done) | (simp; omega) | omega) _ | refine Below.setCell ?_ (by first | exact Nat.le_refl _ | (simp; done) | (simp; omega) | omega) _ | refine bExtW ?_ (by first | exact Nat.le_refl _ | (simp; done) | (simp; omega) | omega) | refine Below.trans ?_ (Below.mono (by assumption) (by first | exact Nat.le_refl _ | (simp; done) | (simp; omega) | omega)))))).mono ?_; rintro r w1 ⟨rfl, hb⟩; obtain ⟨E, d, rfl⟩ := bExt hb; clear hb)
  go_wp2
  go_ret2
  exact ⟨⟨none, 0, rfl, OwnM.none _ _⟩, (by repeat (first | exact Below.refl _ _ | refine Below.drew ?_ | refine below_drewN ?_ _ | refine Below.alloc ?_ (by first | exact Nat.le_refl _ | (simp; done) | (simp; omega) | omega) _ | refine Below.setCell ?_ (by first | exact Nat.le_refl _ | (simp; done) | (simp; omega) | omega) _ | refine bExtW ?_ (by first | exact Nat.le_refl _ | (simp; done) | (simp; omega) | omega) | refine Below.trans ?_ (Below.mono (by assumption) (by first | exact Nat.le_refl _ | (simp; done) | (simp; omega) | omega))))⟩
theorem OwnM.base {w : World} {base base' n C : Nat} {A : Option Addr} {L : List Mv} (h : OwnM w base A n C L) (hb : base' ≤ base) : OwnM w base' A n C L := ⟨h.1, own_baseV h.2 hb⟩
set_option maxRecDepth 100000 in
set_option maxHeartbeats 8000000 in
theorem Moves_ok (G W H n N : Nat) (a : Option Addr) (c : Nat) (cs : List Int) (w : World) (hI : IsInts w a n cs) (h : ChOk G W H n cs) (hN : torN W H = N) (h24 : N ≤ 24) (h0 : 0 < N) :
    Calls Try.prog 27 #[.agg #[.int .i64 (G), .int .i64 (W), .int .i64 (H), .slice a n c]] w (MvPost (Z.movesL W H cs G N) 0 w) := by
  obtain ⟨M, hM⟩ : ∃ M, N * N = M := ⟨_, rfl⟩
  have HL := Lib.hid (fun w hI => laid_ok G W H n N M a c cs w hI h hN h24 hM)
  have hd := Z.torN_dvd W H
  rw [hN] at hd
  have HA := Lib.hid (fun a c w hI => all_ok G W H N M a c cs w hI h.g h0 h24 hM hd.1 hd.2)
  have HI := Lib.hid hI
  clear hI hN hM h hd
  go_enter Try.func27, Try.ntmps27
  go_wp2_with fail
  refine (HL.out _ (HI.out.below (by repeat (first | exact Below.refl _ _ | refine Below.drew ?_ | refine below_drewN ?_ _ | refine Below.alloc ?_ (by first | exact Nat.le_refl _ | (simp; done) | (simp; omega) | omega) _ | refine Below.setCell ?_ (by first | exact Nat.le_refl _ | (simp; done) | (simp; omega) | omega) _ | refine bExtW ?_ (by first | exact Nat.le_refl _ | (simp; done) | (simp; omega) | omega) | refine Below.trans ?_ (Below.mono (by assumption) (by first | exact Nat.le_refl _ | (simp; done) | (simp; omega) | omega)))))).mono ?_
  rintro r w2 ⟨⟨A, C, rfl, hA⟩, hb2⟩
  have HB2 : Hid (Below w.heap.size w w2) := Lib.hid (((Below.refl _ _).alloc (Nat.le_refl _) _).trans (hb2.mono (by simp)))
  have HA2 := Lib.hid hA.ints
  have hs2 : w.heap.size < w2.heap.size := by have := hb2.size; simp at this; omega
  clear hA hb2
  go_wp2_with fail
  refine (HA.out A C _ (HA2.out.below ((Below.refl _ _).alloc (Nat.le_refl _) _))).mono ?_
  rintro r w3 ⟨⟨B, D, rfl, hB⟩, hb3⟩
  have HB3 : Hid (Below w.heap.size w w3) := Lib.hid ((HB2.out.alloc (Nat.le_of_lt hs2) _).trans (hb3.mono (by simp; omega)))
  have HM := Lib.hid (hB.base (base' := w.heap.size) (by simp; omega))
  clear hB hb3
  go_wp2
  go_ret2
  exact ⟨⟨B, D, rfl, HM.out⟩, HB3.out⟩
set_option maxRecDepth 100000 in
set_option maxHeartbeats 8000000 in
theorem rMoves_ok (G W H n N : Nat) (a : Option Addr) (c : Nat) (cs : List Int) (w : World) (hI : IsInts w a n cs) (h : ChOk G W H n cs) (hN : torN W H = N) (h24 : N ≤ 24) :
    Calls Try.prog 39 #[.agg #[.int .i64 (G), .int .i64 (W), .int .i64 (H), .slice a n c]] w (MvPost (Z.movesL W H cs G N) 0 w) := by
  have HL := Lib.hid (torOk (a := a) (c := c) h hN h24).2
  have HA := Lib.hid (fun w hI => rAll_ok G W H n N a c cs w hI h h24)
  have HI := Lib.hid hI
  clear hI hN h
  go_enter Try.func39, Try.ntmps39
  (go_wp2_with fail; refine (HL.out _ (HI.out.below (by repeat (first | exact Below.refl _ _ | refine Below.drew ?_ | refine below_drewN ?_ _ | refine Below.alloc ?_ (by first | exact Nat.le_refl _ | (simp; done) | (simp; omega) | omega) _ | refine Below.setCell ?_ (by first | exact Nat.le_refl _ | (simp; done) | (simp; omega) | omega) _ | refine bExtW ?_ (by first | exact Nat.le_refl _ | (simp; done) | (simp; omega) | omega) | refine Below.trans ?_ (Below.mono (by assumption) (by first | exact Nat.le_refl _ | (simp; done) | (simp; omega) | omega)))))).mono ?_; rintro r w1 ⟨rfl, hb⟩; obtain ⟨E, d, rfl⟩ := bExt hb; clear hb)
  go_wp2_with fail
  refine (HA.out _ (HI.out.below (by repeat (first | exact Below.refl _ _ | refine Below.drew ?_ | refine below_drewN ?_ _ | refine Below.alloc ?_ (by first | exact Nat.le_refl _ | (simp; done) | (simp; omega) | omega) _ | refine Below.setCell ?_ (by first | exact Nat.le_refl _ | (simp; done) | (simp; omega) | omega) _ | refine bExtW ?_ (by first | exact Nat.le_refl _ | (simp; done) | (simp; omega) | omega) | refine Below.trans ?_ (Below.mono (by assumption) (by first | exact Nat.le_refl _ | (simp; done) | (simp; omega) | omega)))))).mono ?_
  rintro r w3 ⟨⟨B, D, rfl, hB⟩, hb3⟩
  have hsz : w.heap.size ≤ (extW (w.alloc (.cells #[.int .i64 (G : Int), .int .i64 (W : Int), .int .i64 (H : Int), .slice a n c] 36)) E d).heap.size := by simp; omega
  have HB3 : Hid (Below w.heap.size w w3) := Lib.hid (Below.trans (show Below w.heap.size w (extW (w.alloc (.cells #[.int .i64 (G : Int), .int .i64 (W : Int), .int .i64 (H : Int), .slice a n c] 36)) E d) from (by repeat (first | exact Below.refl _ _ | refine Below.drew ?_ | refine below_drewN ?_ _ | refine Below.alloc ?_ (by first | exact Nat.le_refl _ | (simp; done) | (simp; omega) | omega) _ | refine Below.setCell ?_ (by first | exact Nat.le_refl _ | (simp; done) | (simp; omega) | omega) _ | refine bExtW ?_ (by first | exact Nat.le_refl _ | (simp; done) | (simp; omega) | omega) | refine Below.trans ?_ (Below.mono (by assumption) (by first | exact Nat.le_refl _ | (simp; done) | (simp; omega) | omega))))) (hb3.mono hsz))
  have HM := Lib.hid (hB.base hsz)
  clear hB hb3 hsz
  go_wp2
  go_ret2
  exact ⟨⟨B, D, rfl, HM.out⟩, HB3.out⟩
set_option maxRecDepth 100000 in
set_option maxHeartbeats 8000000 in
theorem Keeps_bad (G W H : Int) (a : Option Addr) (n c : Nat) (cs : List Int) (t : Int) (f : Bool) (ox oy : Int) (w : World) (hI : IsInts w a n cs) (e : Int) (hT : TorBad e (.agg #[.int .i64 (G), .int .i64 (W), .int .i64 (H), .slice a n c]) a n cs) :
    Calls Try.prog 33 #[.agg #[.int .i64 (G), .int .i64 (W), .int .i64 (H), .slice a n c], .agg #[.int .i64 (t), .bool (f), .int .i64 (ox), .int .i64 (oy)]] w (fun r w' => r = .returned (.tuple #[.bool (false), .int .i64 (e)]) ∧ Below w.heap.size w w') ∧ Calls Try.prog 44 #[.agg #[.int .i64 (G), .int .i64 (W), .int .i64 (H), .slice a n c], .agg #[.int .i64 (t), .bool (f), .int .i64 (ox), .int .i64 (oy)]] w (fun r w' => r = .returned (.tuple #[.bool (false), .int .i64 (e)]) ∧ Below w.heap.size w w') := by
  have hb : (e != 0) = true := by simpa using hT.1
  have HL := Lib.hid (fun w hI => laid_bad G W H a n c cs w hI e hT.1 hT.2.1)
  have HR := Lib.hid hT.2.2
  have HI := Lib.hid hI
  clear hI hT
  constructor
  · go_enter Try.func33, Try.ntmps33
    (go_wp2_with fail; refine (HL.out _ (HI.out.below (by repeat (first | exact Below.refl _ _ | refine Below.drew ?_ | refine below_drewN ?_ _ | refine Below.alloc ?_ (by first | exact Nat.le_refl _ | (simp; done) | (simp; omega) | omega) _ | refine Below.setCell ?_ (by first | exact Nat.le_refl _ | (simp; done) | (simp; omega) | omega) _ | refine bExtW ?_ (by first | exact Nat.le_refl _ | (simp; done) | (simp; omega) | omega) | refine Below.trans ?_ (Below.mono (by assumption) (by first | exact Nat.le_refl _ | (simp; done) | (simp; omega) | omega)))))).mono ?_; rintro r w1 ⟨rfl, hb⟩; obtain ⟨E, d, rfl⟩ := bExt hb; clear hb)
    go_wp2
    go_ret2
    exact ⟨rfl, (by repeat (first | exact Below.refl _ _ | refine Below.drew ?_ | refine below_drewN ?_ _ | refine Below.alloc ?_ (by first | exact Nat.le_refl _ | (simp; done) | (simp; omega) | omega) _ | refine Below.setCell ?_ (by first | exact Nat.le_refl _ | (simp; done) | (simp; omega) | omega) _ | refine bExtW ?_ (by first | exact Nat.le_refl _ | (simp; done) | (simp; omega) | omega) | refine Below.trans ?_ (Below.mono (by assumption) (by first | exact Nat.le_refl _ | (simp; done) | (simp; omega) | omega))))⟩
  · go_enter Try.func44, Try.ntmps44
    (go_wp2_with fail; refine (HR.out _ (HI.out.below (by repeat (first | exact Below.refl _ _ | refine Below.drew ?_ | refine below_drewN ?_ _ | refine Below.alloc ?_ (by first | exact Nat.le_refl _ | (simp; done) | (simp; omega) | omega) _ | refine Below.setCell ?_ (by first | exact Nat.le_refl _ | (simp; done) | (simp; omega) | omega) _ | refine bExtW ?_ (by first | exact Nat.le_refl _ | (simp; done) | (simp; omega) | omega) | refine Below.trans ?_ (Below.mono (by assumption) (by first | exact Nat.le_refl _ | (simp; done) | (simp; omega) | omega)))))).mono ?_; rintro r w1 ⟨rfl, hb⟩; obtain ⟨E, d, rfl⟩ := bExt hb; clear hb)
    go_wp2
    go_ret2
    exact ⟨rfl, (by repeat (first | exact Below.refl _ _ | refine Below.drew ?_ | refine below_drewN ?_ _ | refine Below.alloc ?_ (by first | exact Nat.le_refl _ | (simp; done) | (simp; omega) | omega) _ | refine Below.setCell ?_ (by first | exact Nat.le_refl _ | (simp; done) | (simp; omega) | omega) _ | refine bExtW ?_ (by first | exact Nat.le_refl _ | (simp; done) | (simp; omega) | omega) | refine Below.trans ?_ (Below.mono (by assumption) (by first | exact Nat.le_refl _ | (simp; done) | (simp; omega) | omega))))⟩
set_option maxRecDepth 100000 in
set_option maxHeartbeats 8000000 in
theorem Keeps_wrong (G W H n N : Nat) (a : Option Addr) (c : Nat) (cs : List Int) (t : Int) (f : Bool) (ox oy : Int) (w : World) (hI : IsInts w a n cs) (h : ChOk G W H n cs) (hN : torN W H = N) (h24 : N ≤ 24) (ht : (-9223372036854775808 ≤ t ∧ t ≤ 9223372036854775807)) (h0 : (-9223372036854775808 ≤ ox ∧ ox ≤ 9223372036854775807)) (h1 : (-9223372036854775808 ≤ oy ∧ oy ≤ 9223372036854775807)) (he : wE G t ox oy ≠ 0) :
    Calls Try.prog 33 #[.agg #[.int .i64 (G), .int .i64 (W), .int .i64 (H), .slice a n c], .agg #[.int .i64 (t), .bool (f), .int .i64 (ox), .int .i64 (oy)]] w (fun r w' => r = .returned (.tuple #[.bool (false), .int .i64 (wE G t ox oy)]) ∧ Below w.heap.size w w') ∧ Calls Try.prog 44 #[.agg #[.int .i64 (G), .int .i64 (W), .int .i64 (H), .slice a n c], .agg #[.int .i64 (t), .bool (f), .int .i64 (ox), .int .i64 (oy)]] w (fun r w' => r = .returned (.tuple #[.bool (false), .int .i64 (wE G t ox oy)]) ∧ Below w.heap.size w w') := by
  obtain ⟨M, hM⟩ : ∃ M, N * N = M := ⟨_, rfl⟩
  have hgw : (-9223372036854775808 ≤ (G : Int) ∧ (G : Int) ≤ 9223372036854775807) := by have := h.g; omega
  have HL := Lib.hid (fun w hI => laid_ok G W H n N M a c cs w hI h hN h24 hM)
  have HT := Lib.hid (torOk (a := a) (c := c) h hN h24).2
  have HW := Lib.hid (fun w => Wrong_any G t ox oy f w hgw ht h0 h1)
  have HWR := Lib.hid (fun w => rWrong_any G t ox oy f w hgw ht h0 h1)
  have hb : (wE G t ox oy != 0) = true := by simpa using he
  have HI := Lib.hid hI
  generalize wE G t ox oy = e at *
  clear hI hN hM h he ht h0 h1 hgw
  constructor
  · go_enter Try.func33, Try.ntmps33
    go_wp2_with fail
    refine (HL.out _ (HI.out.below (by repeat (first | exact Below.refl _ _ | refine Below.drew ?_ | refine below_drewN ?_ _ | refine Below.alloc ?_ (by first | exact Nat.le_refl _ | (simp; done) | (simp; omega) | omega) _ | refine Below.setCell ?_ (by first | exact Nat.le_refl _ | (simp; done) | (simp; omega) | omega) _ | refine bExtW ?_ (by first | exact Nat.le_refl _ | (simp; done) | (simp; omega) | omega) | refine Below.trans ?_ (Below.mono (by assumption) (by first | exact Nat.le_refl _ | (simp; done) | (simp; omega) | omega)))))).mono ?_
    rintro r w2 ⟨⟨A, C, rfl, hA⟩, hb2⟩
    obtain ⟨E, d, rfl⟩ := bExt hb2
    clear hA hb2
    (go_wp2_with fail; refine (HW.out _).mono ?_; rintro r w1 ⟨rfl, hb⟩; obtain ⟨E, d, rfl⟩ := bExt hb; clear hb)
    go_wp2
    go_ret2
    exact ⟨rfl, (by repeat (first | exact Below.refl _ _ | refine Below.drew ?_ | refine below_drewN ?_ _ | refine Below.alloc ?_ (by first | exact Nat.le_refl _ | (simp; done) | (simp; omega) | omega) _ | refine Below.setCell ?_ (by first | exact Nat.le_refl _ | (simp; done) | (simp; omega) | omega) _ | refine bExtW ?_ (by first | exact Nat.le_refl _ | (simp; done) | (simp; omega) | omega) | refine Below.trans ?_ (Below.mono (by assumption) (by first | exact Nat.le_refl _ | (simp; done) | (simp; omega) | omega))))⟩
  · go_enter Try.func44, Try.ntmps44
    (go_wp2_with fail; refine (HT.out _ (HI.out.below (by repeat (first | exact Below.refl _ _ | refine Below.drew ?_ | refine below_drewN ?_ _ | refine Below.alloc ?_ (by first | exact Nat.le_refl _ | (simp; done) | (simp; omega) | omega) _ | refine Below.setCell ?_ (by first | exact Nat.le_refl _ | (simp; done) | (simp; omega) | omega) _ | refine bExtW ?_ (by first | exact Nat.le_refl _ | (simp; done) | (simp; omega) | omega) | refine Below.trans ?_ (Below.mono (by assumption) (by first | exact Nat.le_refl _ | (simp; done) | (simp; omega) | omega)))))).mono ?_; rintro r w1 ⟨rfl, hb⟩; obtain ⟨E, d, rfl⟩ := bExt hb; clear hb)
    (go_wp2_with fail; refine (HWR.out _).mono ?_; rintro r w1 ⟨rfl, hb⟩; obtain ⟨E, d, rfl⟩ := bExt hb; clear hb)
    go_wp2
    go_ret2
    exact ⟨rfl, (by repeat (first | exact Below.refl _ _ | refine Below.drew ?_ | refine below_drewN ?_ _ | refine Below.alloc ?_ (by first | exact Nat.le_refl _ | (simp; done) | (simp; omega) | omega) _ | refine Below.setCell ?_ (by first | exact Nat.le_refl _ | (simp; done) | (simp; omega) | omega) _ | refine bExtW ?_ (by first | exact Nat.le_refl _ | (simp; done) | (simp; omega) | omega) | refine Below.trans ?_ (Below.mono (by assumption) (by first | exact Nat.le_refl _ | (simp; done) | (simp; omega) | omega))))⟩
set_option maxRecDepth 100000 in
set_option maxHeartbeats 8000000 in
theorem rKeeps_ok (G W H n N t : Nat) (f : Bool) (ox oy : Int) (a : Option Addr) (c : Nat) (cs : List Int) (w : World) (hI : IsInts w a n cs) (h : ChOk G W H n cs) (hN : torN W H = N) (h24 : N ≤ 24) (h0 : (-9223372036854775808 ≤ ox ∧ ox ≤ 9223372036854775807)) (h1 : (-9223372036854775808 ≤ oy ∧ oy ≤ 9223372036854775807)) (he : wE G t ox oy = 0) :
    Calls Try.prog 44 #[.agg #[.int .i64 (G), .int .i64 (W), .int .i64 (H), .slice a n c], .agg #[.int .i64 (t), .bool (f), .int .i64 (ox), .int .i64 (oy)]] w (fun r w' => r = .returned (.tuple #[.bool (keepB W H cs G N ⟨t, f, (ox, oy)⟩), .int .i64 (0)]) ∧ Below w.heap.size w w') := by
  have hgw : (-9223372036854775808 ≤ (G : Int) ∧ (G : Int) ≤ 9223372036854775807) := by have := h.g; omega
  obtain ⟨_, hs, n', hn', htl⟩ := wE_zero he
  have htG : t < G := by omega
  have HT := Lib.hid (torOk (a := a) (c := c) h hN h24).2
  have HWR := Lib.hid (fun w => rWrong_any G t ox oy f w hgw (by have := h.g; omega) h0 h1)
  rw [he] at HWR
  have HK := Lib.hid (fun w hI => Kept_ok G W H n N t f ox oy a c cs w hI h h24 htG (by omega) (by omega))
  have HI := Lib.hid hI
  generalize keepB W H cs G N ⟨t, f, (ox, oy)⟩ = kb at *
  clear hI hN h he h0 h1 hgw hs hn' htl
  go_enter Try.func44, Try.ntmps44
  (go_wp2_with fail; refine (HT.out _ (HI.out.below (by repeat (first | exact Below.refl _ _ | refine Below.drew ?_ | refine below_drewN ?_ _ | refine Below.alloc ?_ (by first | exact Nat.le_refl _ | (simp; done) | (simp; omega) | omega) _ | refine Below.setCell ?_ (by first | exact Nat.le_refl _ | (simp; done) | (simp; omega) | omega) _ | refine bExtW ?_ (by first | exact Nat.le_refl _ | (simp; done) | (simp; omega) | omega) | refine Below.trans ?_ (Below.mono (by assumption) (by first | exact Nat.le_refl _ | (simp; done) | (simp; omega) | omega)))))).mono ?_; rintro r w1 ⟨rfl, hb⟩; obtain ⟨E, d, rfl⟩ := bExt hb; clear hb)
  (go_wp2_with fail; refine (HWR.out _).mono ?_; rintro r w1 ⟨rfl, hb⟩; obtain ⟨E, d, rfl⟩ := bExt hb; clear hb)
  (go_wp2_with fail; refine (HK.out _ (HI.out.below (by repeat (first | exact Below.refl _ _ | refine Below.drew ?_ | refine below_drewN ?_ _ | refine Below.alloc ?_ (by first | exact Nat.le_refl _ | (simp; done) | (simp; omega) | omega) _ | refine Below.setCell ?_ (by first | exact Nat.le_refl _ | (simp; done) | (simp; omega) | omega) _ | refine bExtW ?_ (by first | exact Nat.le_refl _ | (simp; done) | (simp; omega) | omega) | refine Below.trans ?_ (Below.mono (by assumption) (by first | exact Nat.le_refl _ | (simp; done) | (simp; omega) | omega)))))).mono ?_; rintro r w1 ⟨rfl, hb⟩; obtain ⟨E, d, rfl⟩ := bExt hb; clear hb)
  go_wp2
  go_ret2
  exact ⟨rfl, (by repeat (first | exact Below.refl _ _ | refine Below.drew ?_ | refine below_drewN ?_ _ | refine Below.alloc ?_ (by first | exact Nat.le_refl _ | (simp; done) | (simp; omega) | omega) _ | refine Below.setCell ?_ (by first | exact Nat.le_refl _ | (simp; done) | (simp; omega) | omega) _ | refine bExtW ?_ (by first | exact Nat.le_refl _ | (simp; done) | (simp; omega) | omega) | refine Below.trans ?_ (Below.mono (by assumption) (by first | exact Nat.le_refl _ | (simp; done) | (simp; omega) | omega))))⟩
set_option maxRecDepth 100000 in
set_option maxHeartbeats 8000000 in
theorem Keeps_ok (G W H n N t : Nat) (f : Bool) (ox oy : Int) (a : Option Addr) (c : Nat) (cs : List Int) (w : World) (hI : IsInts w a n cs) (h : ChOk G W H n cs) (hN : torN W H = N) (h24 : N ≤ 24) (hp : 0 < N) (h0 : (-9223372036854775808 ≤ ox ∧ ox ≤ 9223372036854775807)) (h1 : (-9223372036854775808 ≤ oy ∧ oy ≤ 9223372036854775807)) (he : wE G t ox oy = 0) :
    Calls Try.prog 33 #[.agg #[.int .i64 (G), .int .i64 (W), .int .i64 (H), .slice a n c], .agg #[.int .i64 (t), .bool (f), .int .i64 (ox), .int .i64 (oy)]] w (fun r w' => r = .returned (.tuple #[.bool (keepB W H cs G N ⟨t, f, (ox, oy)⟩), .int .i64 (0)]) ∧ Below w.heap.size w w') := by
  have hgw : (-9223372036854775808 ≤ (G : Int) ∧ (G : Int) ≤ 9223372036854775807) := by have := h.g; omega
  obtain ⟨_, hs, n', hn', htl⟩ := wE_zero he
  have htG : t < G := by omega
  obtain ⟨M, hM⟩ : ∃ M, N * N = M := ⟨_, rfl⟩
  have hd := Z.torN_dvd W H
  rw [hN] at hd
  have HL := Lib.hid (fun w hI => laid_ok G W H n N M a c cs w hI h hN h24 hM)
  have HW := Lib.hid (fun w => Wrong_any G t ox oy f w hgw (by have := h.g; omega) h0 h1)
  rw [he] at HW
  have HIM := Lib.hid (fun a c w => image_ok G N M t f a c w (by have := h.g; omega) (by omega) hp h24 hM)
  have HK := Lib.hid (fun a c ta tc w hI hT => keepsM_ok G W H N M t f a ta c tc cs ox oy w hp h24 hM hd.1 hd.2 hI hT (by omega) (by omega))
  have HI := Lib.hid hI
  generalize keepB W H cs G N ⟨t, f, (ox, oy)⟩ = kb at *
  clear hI hN h he h0 h1 hgw hs hn' htl hM hd
  go_enter Try.func33, Try.ntmps33
  go_wp2_with fail
  refine (HL.out _ (HI.out.below (by repeat (first | exact Below.refl _ _ | refine Below.drew ?_ | refine below_drewN ?_ _ | refine Below.alloc ?_ (by first | exact Nat.le_refl _ | (simp; done) | (simp; omega) | omega) _ | refine Below.setCell ?_ (by first | exact Nat.le_refl _ | (simp; done) | (simp; omega) | omega) _ | refine bExtW ?_ (by first | exact Nat.le_refl _ | (simp; done) | (simp; omega) | omega) | refine Below.trans ?_ (Below.mono (by assumption) (by first | exact Nat.le_refl _ | (simp; done) | (simp; omega) | omega)))))).mono ?_
  rintro r w2 ⟨⟨A, C, rfl, hA⟩, hb2⟩
  have HA := Lib.hid hA.ints
  obtain ⟨E, d, rfl⟩ := bExt hb2
  clear hA hb2
  (go_wp2_with fail; refine (HW.out _).mono ?_; rintro r w1 ⟨rfl, hb⟩; obtain ⟨E, d, rfl⟩ := bExt hb; clear hb)
  go_wp2_with fail
  refine wp_region_E (by kernel_rfl) ?_
  (refine wpE_take (i := 0) rfl (by kernel_rfl) (fun _ _ _ _ h => h) (fun K hK => ?_); go_simp; first | (refine hK _ ?_; clear hK K) | (apply Exists.intro; refine ⟨fun _ _ => ?_, hK _ ?_⟩; fail; clear hK K)); (refine wpE_take (i := 1) rfl (by kernel_rfl) (fun _ _ _ _ h => h) (fun K hK => ?_); go_simp; first | (refine hK _ ?_; clear hK K) | (apply Exists.intro; refine ⟨fun _ _ => ?_, hK _ ?_⟩; fail; clear hK K)); (refine wpE_take (i := 2) rfl (by kernel_rfl) (fun _ _ _ _ h => h) (fun K hK => ?_); go_simp; first | (refine hK _ ?_; clear hK K) | (apply Exists.intro; refine ⟨fun _ _ => ?_, hK _ ?_⟩; fail; clear hK K)); (refine wpE_take (i := 3) rfl (by kernel_rfl) (fun _ _ _ _ h => h) (fun K hK => ?_); go_simp; first | (refine hK _ ?_; clear hK K) | (apply Exists.intro; refine ⟨fun _ _ => ?_, hK _ ?_⟩; fail; clear hK K)); (refine wpE_take (i := 4) rfl (by kernel_rfl) (fun _ _ _ _ h => h) (fun K hK => ?_); go_simp; first | (refine hK _ ?_; clear hK K) | (apply Exists.intro; refine ⟨fun _ _ => ?_, hK _ ?_⟩; fail; clear hK K)); (refine wpE_take (i := 5) rfl (by kernel_rfl) (fun _ _ _ _ h => h) (fun K hK => ?_); go_simp; first | (refine hK _ ?_; clear hK K) | (apply Exists.intro; refine ⟨fun _ _ => ?_, hK _ ?_⟩; fail; clear hK K)); (refine wpE_take (i := 6) rfl (by kernel_rfl) (fun _ _ _ _ h => h) (fun K hK => ?_); go_simp; first | (refine hK _ ?_; clear hK K) | (apply Exists.intro; refine ⟨fun _ _ => ?_, hK _ ?_⟩; fail; clear hK K)); (refine wpE_take (i := 8) rfl (by kernel_rfl) (fun _ _ _ _ h => h) (fun K hK => ?_); go_simp; first | (refine hK _ ?_; clear hK K) | (apply Exists.intro; refine ⟨fun _ _ => ?_, hK _ ?_⟩; fail; clear hK K)); (refine wpE_take (i := 9) rfl (by kernel_rfl) (fun _ _ _ _ h => h) (fun K hK => ?_); go_simp; first | (refine hK _ ?_; clear hK K) | (apply Exists.intro; refine ⟨fun _ _ => ?_, hK _ ?_⟩; fail; clear hK K))
  (refine wpE_step (i := 7) rfl (by kernel_rfl) (fun E d K hK => ?_)); go_simp
  refine (HIM.out A C _).mono ?_
  rintro r w4 ⟨⟨TA, TC, rfl, hTA⟩, hb4⟩
  refine hK _ _ (bExt hb4) ?_
  clear hK K
  have HT4 := Lib.hid hTA.ints
  have HA4 := Lib.hid (HA.out.below (w' := w4) (by repeat (first | exact Below.refl _ _ | refine Below.drew ?_ | refine below_drewN ?_ _ | refine Below.alloc ?_ (by first | exact Nat.le_refl _ | (simp; done) | (simp; omega) | omega) _ | refine Below.setCell ?_ (by first | exact Nat.le_refl _ | (simp; done) | (simp; omega) | omega) _ | refine bExtW ?_ (by first | exact Nat.le_refl _ | (simp; done) | (simp; omega) | omega) | refine Below.trans ?_ (Below.mono (by assumption) (by first | exact Nat.le_refl _ | (simp; done) | (simp; omega) | omega)))))
  have HB4 : Hid (Below w.heap.size w w4) := Lib.hid (by repeat (first | exact Below.refl _ _ | refine Below.drew ?_ | refine below_drewN ?_ _ | refine Below.alloc ?_ (by first | exact Nat.le_refl _ | (simp; done) | (simp; omega) | omega) _ | refine Below.setCell ?_ (by first | exact Nat.le_refl _ | (simp; done) | (simp; omega) | omega) _ | refine bExtW ?_ (by first | exact Nat.le_refl _ | (simp; done) | (simp; omega) | omega) | refine Below.trans ?_ (Below.mono (by assumption) (by first | exact Nat.le_refl _ | (simp; done) | (simp; omega) | omega))))
  clear hTA hb4
  (refine wpE_take (i := 10) rfl (by kernel_rfl) (fun _ _ _ _ h => h) (fun K hK => ?_); go_simp; first | (refine hK _ ?_; clear hK K) | (apply Exists.intro; refine ⟨fun _ _ => ?_, hK _ ?_⟩; (go_at_call 84; exact vOf (HK.out A C TA TC _ (HA4.out.below (bExtW (Below.refl _ _) (Nat.le_refl _))) (HT4.out.below (bExtW (Below.refl _ _) (Nat.le_refl _))))); clear hK K))
  (refine wpE_take (i := 11) rfl (by kernel_rfl) (fun _ _ _ _ h => h) (fun K hK => ?_); go_simp; first | (refine hK _ ?_; clear hK K) | (apply Exists.intro; refine ⟨fun _ _ => ?_, hK _ ?_⟩; fail; clear hK K)); (refine wpE_take (i := 12) rfl (by kernel_rfl) (fun _ _ _ _ h => h) (fun K hK => ?_); go_simp; first | (refine hK _ ?_; clear hK K) | (apply Exists.intro; refine ⟨fun _ _ => ?_, hK _ ?_⟩; fail; clear hK K))
  refine wpE_done (by kernel_rfl) (fun E d => ?_)
  go_wp2
  go_ret2
  exact ⟨rfl, bExtW HB4.out HB4.out.size⟩
end Go.Proofs.Ytdaacjaibfcacaa
