/- Lemmas and contracts of functions (what each call returns, and that it changes nothing that was there) that the proof of a law of this seat uses; each lemma states its own conditions. -/
import Derived.Test.YticplgjpflaelaaEf2
import Derived.Test.YticplgjpflaelaaCh1
import Derived.Test.YticplgjpflaelaaRegN
namespace Go.Proofs.Yticplgjpflaelaa
open Go.RowKit
set_option linter.unusedVariables false
set_option linter.unusedSimpArgs false
open Ef
set_option maxRecDepth 100000 in
set_option maxHeartbeats 8000000 in
theorem eStr_bad (G W H : Int) (a : Option Addr) (n c : Nat) (cs : List Int) (w : World) (hI : IsInts w a n cs) (h0 : (-9223372036854775808 ≤ G ∧ G ≤ 9223372036854775807)) (h1 : (-9223372036854775808 ≤ W ∧ W ≤ 9223372036854775807)) (h2 : (-9223372036854775808 ≤ H ∧ H ≤ 9223372036854775807)) (h3 : n ≤ 9223372036854775807) (he : chE G W H n cs ≠ 0) :
    Calls Try.prog 28 #[.agg #[.int .i64 (G), .int .i64 (W), .int .i64 (H), .slice a n c]] w fun e w' => e = .returned (.tuple #[.agg #[.slice none 0 0, .slice none 0 0], .int .i64 (chE G W H n cs)]) ∧ Below w.heap.size w w' := by
  have hb : (chE G W H n cs != 0) = true := by simpa using he
  have HT := Lib.hid (fun w hI => chWrong_any G W H a n c cs w hI h0 h1 h2 h3)
  have HI := Lib.hid hI
  clear he hI
  generalize chE G W H n cs = q at *
  go_enter Try.func28, Try.ntmps28
  (go_wp2_with fail; refine (HT.out _ (HI.out.below (by repeat (first | exact Below.refl _ _ | refine Below.drew ?_ | refine below_drewN ?_ _ | refine Below.alloc ?_ (by first | exact Nat.le_refl _ | (simp; done) | (simp; omega) | omega) _ | refine Below.setCell ?_ (by first | exact Nat.le_refl _ | (simp; done) | (simp; omega) | omega) _ | refine bExtW ?_ (by first | exact Nat.le_refl _ | (simp; done) | (simp; omega) | omega) | refine Below.trans ?_ (Below.mono (by assumption) (by first | exact Nat.le_refl _ | (simp; done) | (simp; omega) | omega)))))).mono ?_; rintro r w1 ⟨rfl, hb⟩; obtain ⟨E, d, rfl⟩ := bExt hb; clear hb)
  go_wp2
  refine bodyPost_ret (v := .tuple #[.agg #[.slice none 0 0, .slice none 0 0], .int .i64 (q)]) (by simp [results, Try.results28, go_sem]) rfl ⟨rfl, (by repeat (first | exact Below.refl _ _ | refine Below.drew ?_ | refine below_drewN ?_ _ | refine Below.alloc ?_ (by first | exact Nat.le_refl _ | (simp; done) | (simp; omega) | omega) _ | refine Below.setCell ?_ (by first | exact Nat.le_refl _ | (simp; done) | (simp; omega) | omega) _ | refine bExtW ?_ (by first | exact Nat.le_refl _ | (simp; done) | (simp; omega) | omega) | refine Below.trans ?_ (Below.mono (by assumption) (by first | exact Nat.le_refl _ | (simp; done) | (simp; omega) | omega))))⟩
set_option maxRecDepth 100000 in
set_option maxHeartbeats 8000000 in
theorem eStr_hex (W H : Int) (a : Option Addr) (n c : Nat) (cs : List Int) (w : World) (hI : IsInts w a n cs) (h1 : (-9223372036854775808 ≤ W ∧ W ≤ 9223372036854775807)) (h2 : (-9223372036854775808 ≤ H ∧ H ≤ 9223372036854775807)) (h3 : n ≤ 9223372036854775807) (he : chE 6 W H n cs = 0) :
    Calls Try.prog 28 #[.agg #[.int .i64 (6), .int .i64 (W), .int .i64 (H), .slice a n c]] w fun e w' => e = .returned (.tuple #[.agg #[.slice none 0 0, .slice none 0 0], .int .i64 (8)]) ∧ Below w.heap.size w w' := by
  have HT := Lib.hid (fun w hI => chWrong_any 6 W H a n c cs w hI (by omega) h1 h2 h3)
  rw [he] at HT
  have HI := Lib.hid hI
  clear he hI
  go_enter Try.func28, Try.ntmps28
  (go_wp2_with fail; refine (HT.out _ (HI.out.below (by repeat (first | exact Below.refl _ _ | refine Below.drew ?_ | refine below_drewN ?_ _ | refine Below.alloc ?_ (by first | exact Nat.le_refl _ | (simp; done) | (simp; omega) | omega) _ | refine Below.setCell ?_ (by first | exact Nat.le_refl _ | (simp; done) | (simp; omega) | omega) _ | refine bExtW ?_ (by first | exact Nat.le_refl _ | (simp; done) | (simp; omega) | omega) | refine Below.trans ?_ (Below.mono (by assumption) (by first | exact Nat.le_refl _ | (simp; done) | (simp; omega) | omega)))))).mono ?_; rintro r w1 ⟨rfl, hb⟩; obtain ⟨E, d, rfl⟩ := bExt hb; clear hb)
  go_wp2
  refine bodyPost_ret (v := .tuple #[.agg #[.slice none 0 0, .slice none 0 0], .int .i64 (8)]) (by simp [results, Try.results28, go_sem]) rfl ⟨rfl, (by repeat (first | exact Below.refl _ _ | refine Below.drew ?_ | refine below_drewN ?_ _ | refine Below.alloc ?_ (by first | exact Nat.le_refl _ | (simp; done) | (simp; omega) | omega) _ | refine Below.setCell ?_ (by first | exact Nat.le_refl _ | (simp; done) | (simp; omega) | omega) _ | refine bExtW ?_ (by first | exact Nat.le_refl _ | (simp; done) | (simp; omega) | omega) | refine Below.trans ?_ (Below.mono (by assumption) (by first | exact Nat.le_refl _ | (simp; done) | (simp; omega) | omega))))⟩
/-- The threads that are told. -/
def StrPostE (W H N : Nat) (cs : List Int) (w : World) (r : Ending) (w' : World) : Prop :=
  ((Stuck W cs N ∧ r = .returned (.tuple #[.agg #[.slice none 0 0, .slice none 0 0], .int .i64 (6)])) ∨ ∃ p A C B D, Str W cs N N p ∧ r = .returned (.tuple #[.agg #[.slice A W C, .slice B H D], .int .i64 (0)]) ∧ IsInts w' A W (p.take W) ∧ IsInts w' B H (p.drop W)) ∧ Below w.heap.size w w'
/-- Where the trying of colours for strand s stands. -/
def KInv (W : Nat) (cs : List Int) (s : Nat) (p : List Int) (k : Nat) (p2 : List Int) : Prop :=
  (p2 = p ∧ (0 ≤ g p s → k = 0) ∧ ∀ j : Nat, j < k → Never W cs (p.set s j)) ∨ (∃ k' : Nat, k = k' + 1 ∧ g p s < 0 ∧ k' < 62 ∧ (∀ j : Nat, j < k' → Never W cs (p.set s j)) ∧ Least W cs (p.set s k') p2)
theorem KInv.exit {W N s k : Nat} {cs p p2 : List Int} (h : KInv W cs s p k p2) (hs : Str W cs N s p) (hsN : s < N) (h0 : 0 ≤ g p2 s) : Str W cs N (s + 1) p2 := by
  rcases h with ⟨rfl, _, _⟩ | ⟨k', _, h1, h2, h3, h4⟩
  · exact .keep hs hsN h0
  · exact .tie hs hsN h1 h2 h3 h4
theorem KInv.open {W N s k : Nat} {cs p p2 : List Int} (h : KInv W cs s p k p2) (hs : Str W cs N s p) (hsN : s < N) (h0 : g p2 s < 0) : p2 = p ∧ ∀ j : Nat, j < k → Never W cs (p.set s j) := by
  rcases h with ⟨rfl, _, h⟩ | ⟨k', _, h1, h2, h3, h4⟩
  · exact ⟨rfl, h⟩
  · have hl := hs.inv.1
    have h5 := h4.1.2 s (by rw [set_len]; omega)
    rw [g_set p s s _ (by omega), if_pos rfl] at h5
    rw [h5 (by omega)] at h0
    omega
structure PB (W H pb : Nat) (ca : Option Addr) (cn cc : Nat) (base : Nat) (W3 : World) (n : Nat) (p : List Int) (v : Value) (w : World) : Prop where
  row : w.rowIs pb 97 5 (picF W H ca cn cc v)
  own : w.ownsRow base 3 1 v n (p.map i64v)
  bel : BelowX base pb W3 w
theorem picF_alloc (w : World) (W H : Nat) (ca : Option Addr) (cn cc : Nat) (v : Value) : (w.alloc (.cells #[.int .i64 4, .int .i64 (W : Int), .int .i64 (H : Int), .slice ca cn cc, v] 97)).rowIs w.heap.size 97 5 (picF W H ca cn cc v) :=
  World.rowIs_alloc w #[.int .i64 4, .int .i64 (W : Int), .int .i64 (H : Int), .slice ca cn cc, v] 97 _ (by
    intro i hi
    have hi5 : i = 0 ∨ i = 1 ∨ i = 2 ∨ i = 3 ∨ i = 4 := by simp at hi; omega
    rcases hi5 with rfl | rfl | rfl | rfl | rfl <;> rfl)
theorem PB.app {W H pb : Nat} {ca : Option Addr} {cn cc base n : Nat} {W3 w w2 : World} {p : List Int} {v v' : Value} {x : Int} (h : PB W H pb ca cn cc base W3 n p v w) (hp : pb < base) (hown : w2.ownsRow base 3 1 v' (n + 1) (p.map i64v ++ [i64v x])) (hb : Below base w w2) :
    PB W H pb ca cn cc base W3 (n + 1) (p ++ [x]) v' (w2.setCell ⟨pb, 4, none⟩ v') := by
  refine ⟨?_, ?_, ?_⟩
  · refine ((rowBelow h.row hb hp).set 4 _).congr fun i hi => ?_
    have hi5 : i = 0 ∨ i = 1 ∨ i = 2 ∨ i = 3 ∨ i = 4 := by omega
    rcases hi5 with rfl | rfl | rfl | rfl | rfl <;> rfl
  · rw [List.map_append]
    exact ownsRow_setCell_below hown (a := ⟨pb, 4, none⟩) hp _
  · exact (h.bel.trans (BelowX.of_below h.bel.size hb)).set 4 _
def chF (W H : Nat) (ca : Option Addr) (cn cc : Nat) : Nat → Value := fun j => if j = 0 then .int .i64 4 else if j = 1 then .int .i64 (W : Int) else if j = 2 then .int .i64 (H : Int) else .slice ca cn cc
theorem slice_3 (tb n W cap : Nat) (h : W ≤ n) (h2 : n ≤ cap) : ∀ w, (Instr.slice 37 (.slice (some ⟨tb, 0, none⟩) n cap) none (some (.int .i64 (W))) (some (.int .i64 (W)))).run Try.prog w = .ok (.slice (some ⟨tb, 0, none⟩) W W) w := by
  intro w
  rw [run_slice_hm (P := Try.prog) w 37 (some ⟨tb, 0, none⟩) n cap (by kernel_rfl) .i64 .i64 (W : Int) (W : Int) (by omega) (by omega) (by omega)]
  have hsz : (sizeOf (Try.prog.elem 37)).run Try.prog w = .ok 1 w := by go_simp
  rw [hsz]
  have e2 : ((W : Int)).toNat = W := by omega
  rw [e2]
  simp [Result.andThen, sliced, Addr.add_lit]
theorem slice_fr (tb n W H cap : Nat) (h : W + H = n) (h1 : 1 ≤ H) (h2 : n ≤ cap) : ∀ w, (Instr.slice 37 (.slice (some ⟨tb, 0, none⟩) n cap) (some (.int .i64 (W))) none none).run Try.prog w = .ok (.slice (some ⟨tb, W, none⟩) H (cap - W)) w := by
  intro w
  rw [run_slice_l (P := Try.prog) w 37 (some ⟨tb, 0, none⟩) n cap (by kernel_rfl) .i64 (W : Int) (by omega) (by omega)]
  have hsz : (sizeOf (Try.prog.elem 37)).run Try.prog w = .ok 1 w := by go_simp
  rw [hsz]
  have e2 : ((W : Int)).toNat = W := by omega
  rw [e2]
  have e3 : n - W = H := by omega
  simp [Result.andThen, sliced, Addr.add_lit, e3]
  omega
theorem ints_from {w : World} {b o n W H : Nat} {l : List Int} (h : IsInts w (some ⟨b, o, none⟩) n l) (hn : W + H = n) : IsInts w (some ⟨b, o + W, none⟩) H (l.drop W) := by
  refine ⟨by rw [List.length_drop, h.1]; omega, fun hH => ?_⟩
  obtain ⟨b', o', e, hlt, hc⟩ := h.2 (by omega)
  cases e
  refine ⟨b, o + W, rfl, hlt, fun j hj => ?_⟩
  rw [Nat.add_assoc, hc (W + j) (by omega)]
  rw [List.getD_eq_getElem?_getD, List.getD_eq_getElem?_getD, List.getElem?_drop]
theorem ints_upto {w : World} {b o n m : Nat} {l : List Int} (h : IsInts w (some ⟨b, o, none⟩) n l) (hm : m ≤ n) : IsInts w (some ⟨b, o, none⟩) m (l.take m) := by
  refine ⟨by rw [List.length_take, h.1]; omega, fun hH => ?_⟩
  obtain ⟨b', o', e, hlt, hc⟩ := h.2 (by omega)
  cases e
  refine ⟨b, o, rfl, hlt, fun j hj => ?_⟩
  rw [hc j (by omega)]
  rw [List.getD_eq_getElem?_getD, List.getD_eq_getElem?_getD, List.getElem?_take_of_lt hj]
theorem belowX7 {w w4 : World} {E : Array Obj} {d : Nat} (h : Below (extW w E d).heap.size (extW w E d) w4) : Below w.heap.size w w4 := by
  have h1 : Below w.heap.size w (extW w E d) := bExtW (Below.refl _ _) (Nat.le_refl _)
  exact h1.trans (h.mono h1.size)
theorem ints_set {w : World} {a : Option Addr} {n q i : Nat} {l : List Int} {v : Value} (h : IsInts w a n l) (hm : ∀ b o, a = some ⟨b, o, none⟩ → b ≠ q) : IsInts (w.setCell ⟨q, i, none⟩ v) a n l := by
  refine ⟨h.1, fun hn => ?_⟩
  obtain ⟨b, o, e, hlt, hc⟩ := h.2 hn
  refine ⟨b, o, e, by rw [World.size_setCell]; exact hlt, fun j hj => ?_⟩
  rw [← hc j hj]
  exact World.cell?_of_block (Below.heap_setCell _ _ _ b (fun e2 => hm b o e (by simpa using e2)))
set_option maxRecDepth 100000 in
set_option maxHeartbeats 8000000 in
theorem eStr_ok (W H n : Nat) (a : Option Addr) (c : Nat) (cs : List Int) (w : World) (hI : IsInts w a n cs) (hW : W ≤ 64) (hH : H ≤ 64) (hW1 : 1 ≤ W) (hH1 : 1 ≤ H) (hn : n = W * H) (hCR : CR cs) :
    Calls Try.prog 28 #[.agg #[.int .i64 (4), .int .i64 (W), .int .i64 (H), .slice a n c]] w (StrPostE W H (W + H) cs w) := by
  have hn4 : n ≤ 4096 := by rw [hn]; exact Nat.mul_le_mul hW hH
  have HT := Lib.hid (fun w hI => chWrong_any 4 W H a n c cs w hI (by omega) (by omega) (by omega) (by omega))
  rw [chE_ok (.inl rfl) hW1 hW hH1 hH hn hCR] at HT
  have HI := Lib.hid hI
  obtain ⟨N, hN⟩ : ∃ N, W + H = N := ⟨_, rfl⟩
  have hNi : (W : Int) + (H : Int) = (N : Int) := by omega
  have HN := Lib.hid hN
  have HTRY : Hid (∀ (pb tb cap base : Nat) (p : List Int) (s k : Nat) (w : World), w.rowIs pb 97 5 (picF W H a n c (.slice (some ⟨tb, 0, none⟩) N cap)) → IsInts w a n cs → w.ownsRow base 3 1 (.slice (some ⟨tb, 0, none⟩) N cap) N (p.map i64v) → pb < base → (∀ b o, a = some ⟨b, o, none⟩ → b < base ∧ b ≠ pb) → p.length = N → Ef.Good p → Ef.Closed W cs p → s < N → g p s < 0 → k < 62 →
      Calls Try.prog 66 #[.pointer (some ⟨pb, 0, none⟩), .int .i64 (s), .int .i64 (k)] w (TryPost W H N pb a n c cs base (p.set s k) p w)) := Lib.hid fun pb tb cap base p s k w h1 h2 h3 h4 h5 h6 h7 h8 h9 h10 h11 =>
    try_any W H N pb tb cap base a n c cs p s k w h1 h2 hn hW hH hN.symm (by omega) h3 h4 h5 hCR h6 h7 h8 h9 h10 h11
  have hN2 : 2 ≤ N := by omega
  have hN128 : N ≤ 128 := by omega
  rw [hN]
  have HNN := Lib.hid hn
  clear hI hn hCR hN
  go_enter Try.func28, Try.ntmps28
  go_wp2_with fail
  refine (HT.out _ (HI.out.below (by repeat (first | exact Below.refl _ _ | refine Below.drew ?_ | refine below_drewN ?_ _ | refine Below.alloc ?_ (by first | exact Nat.le_refl _ | (simp; done) | (simp; omega) | omega) _ | refine Below.setCell ?_ (by first | exact Nat.le_refl _ | (simp; done) | (simp; omega) | omega) _ | refine bExtW ?_ (by first | exact Nat.le_refl _ | (simp; done) | (simp; omega) | omega) | refine Below.trans ?_ (Below.mono (by assumption) (by first | exact Nat.le_refl _ | (simp; done) | (simp; omega) | omega)))))).mono ?_
  rintro r w1 ⟨rfl, hb⟩
  obtain ⟨E1, d1, rfl⟩ := bExt hb
  clear hb
  go_wp2_with fail
  have hC1 : ((w.alloc (.cells #[.int .i64 (4), .int .i64 (W), .int .i64 (H), .slice a n c] 50)).alloc (.cells #[.slice none 0 0, .slice none 0 0] 48)).rowIs w.heap.size 50 4 (chF W H a n c) := (World.rowIs_alloc w #[.int .i64 (4), .int .i64 (W), .int .i64 (H), .slice a n c] 50 (chF W H a n c) (by
    intro i hi
    have hi4 : i = 0 ∨ i = 1 ∨ i = 2 ∨ i = 3 := by simp at hi; omega
    rcases hi4 with rfl | rfl | rfl | rfl <;> rfl)).alloc (.cells #[.slice none 0 0, .slice none 0 0] 48)
  have hS1 : ((w.alloc (.cells #[.int .i64 (4), .int .i64 (W), .int .i64 (H), .slice a n c] 50)).alloc (.cells #[.slice none 0 0, .slice none 0 0] 48)).rowIs (w.alloc (.cells #[.int .i64 (4), .int .i64 (W), .int .i64 (H), .slice a n c] 50)).heap.size 48 2 (fun _ => .slice none 0 0) := World.rowIs_alloc (w.alloc (.cells #[.int .i64 (4), .int .i64 (W), .int .i64 (H), .slice a n c] 50)) #[.slice none 0 0, .slice none 0 0] 48 (fun _ => .slice none 0 0) (by
    intro i hi
    have hi2 : i = 0 ∨ i = 1 := by simp at hi; omega
    rcases hi2 with rfl | rfl <;> rfl)
  rw [World.size_alloc] at hS1
  have hbC : Below (w.heap.size + 2) ((w.alloc (.cells #[.int .i64 (4), .int .i64 (W), .int .i64 (H), .slice a n c] 50)).alloc (.cells #[.slice none 0 0, .slice none 0 0] 48)) (extW ((w.alloc (.cells #[.int .i64 (4), .int .i64 (W), .int .i64 (H), .slice a n c] 50)).alloc (.cells #[.slice none 0 0, .slice none 0 0] 48)) E1 d1) := (by repeat (first | exact Below.refl _ _ | refine Below.drew ?_ | refine below_drewN ?_ _ | refine Below.alloc ?_ (by first | exact Nat.le_refl _ | (simp; done) | (simp; omega) | omega) _ | refine Below.setCell ?_ (by first | exact Nat.le_refl _ | (simp; done) | (simp; omega) | omega) _ | refine bExtW ?_ (by first | exact Nat.le_refl _ | (simp; done) | (simp; omega) | omega) | refine Below.trans ?_ (Below.mono (by assumption) (by first | exact Nat.le_refl _ | (simp; done) | (simp; omega) | omega))))
  have hb0 : Below w.heap.size w (extW ((w.alloc (.cells #[.int .i64 (4), .int .i64 (W), .int .i64 (H), .slice a n c] 50)).alloc (.cells #[.slice none 0 0, .slice none 0 0] 48)) E1 d1) := (by repeat (first | exact Below.refl _ _ | refine Below.drew ?_ | refine below_drewN ?_ _ | refine Below.alloc ?_ (by first | exact Nat.le_refl _ | (simp; done) | (simp; omega) | omega) _ | refine Below.setCell ?_ (by first | exact Nat.le_refl _ | (simp; done) | (simp; omega) | omega) _ | refine bExtW ?_ (by first | exact Nat.le_refl _ | (simp; done) | (simp; omega) | omega) | refine Below.trans ?_ (Below.mono (by assumption) (by first | exact Nat.le_refl _ | (simp; done) | (simp; omega) | omega))))
  have hC2 := rowBelow hC1 hbC (by omega)
  have hS2 := rowBelow hS1 hbC (by omega)
  have hsz : (extW ((w.alloc (.cells #[.int .i64 (4), .int .i64 (W), .int .i64 (H), .slice a n c] 50)).alloc (.cells #[.slice none 0 0, .slice none 0 0] 48)) E1 d1).heap.size = w.heap.size + 1 + 1 + E1.size := by simp
  generalize extW ((w.alloc (.cells #[.int .i64 (4), .int .i64 (W), .int .i64 (H), .slice a n c] 50)).alloc (.cells #[.slice none 0 0, .slice none 0 0] 48)) E1 d1 = wb at *
  have hP := picF_alloc wb W H a n c (.slice none 0 0)
  have hC := hC2.alloc (.cells #[.int .i64 (4), .int .i64 (W), .int .i64 (H), .slice a n c, .slice none 0 0] 97)
  have hS := hS2.alloc (.cells #[.int .i64 (4), .int .i64 (W), .int .i64 (H), .slice a n c, .slice none 0 0] 97)
  have hb3 : Below w.heap.size w (wb.alloc (.cells #[.int .i64 (4), .int .i64 (W), .int .i64 (H), .slice a n c, .slice none 0 0] 97)) := hb0.alloc hb0.size _
  have hsz3 : (wb.alloc (.cells #[.int .i64 (4), .int .i64 (W), .int .i64 (H), .slice a n c, .slice none 0 0] 97)).heap.size = wb.heap.size + 1 := by simp
  generalize wb.alloc (.cells #[.int .i64 (4), .int .i64 (W), .int .i64 (H), .slice a n c, .slice none 0 0] 97) = W3 at *
  rw [hsz] at hP hsz3
  obtain ⟨pb, hpb⟩ : ∃ pb, w.heap.size + 1 + 1 + E1.size = pb := ⟨_, rfl⟩
  obtain ⟨q, hq⟩ : ∃ q, w.heap.size = q := ⟨_, rfl⟩
  rw [hpb] at hP hsz3 ⊢
  have hqp : q + 1 < pb := by omega
  have HQ := Lib.hid hq
  rw [hq] at hC hS ⊢
  obtain ⟨base, hbase⟩ : ∃ b, b = W3.heap.size := ⟨_, rfl⟩
  have hpbb : pb < base := by omega
  have HBS := Lib.hid hbase
  have HC := Lib.hid hC; have HS := Lib.hid hS; have HP := Lib.hid hP
  have HI3 := Lib.hid (HI.out.below hb3)
  have HB3 : Hid (Below q w W3) := Lib.hid (by rw [← hq]; exact hb3)
  have hnp : 0 < n := by have := HNN.out; rw [this]; exact Nat.mul_pos hW1 hH1
  have HCA : Hid (∀ b o, a = some ⟨b, o, none⟩ → b < base ∧ b ≠ pb) := Lib.hid fun b o e => by
    obtain ⟨b', o', e', hlt, _⟩ := HI.out.2 hnp
    rw [e] at e'
    cases e'
    omega
  clear hC1 hS1 hbC hb0 hC2 hS2 hsz hP hC hS hb3 hsz3 hpb hq hbase HI
  go_loopw [26] (fun iv wr => ∃ (k : Nat) (v : Value), k ≤ N ∧ iv = .int .i64 k ∧ PB W H pb a n c base W3 k (List.replicate k (-1)) v wr) (fun iv _ => N - (intOf iv).toNat)
  case atStart => exact ⟨0, _, by omega, rfl, ⟨HP.out, World.ownsRow_nil _ _ _ _, BelowX.refl (by have := HBS.out; omega)⟩⟩
  case round =>
    obtain ⟨k, v, hk, rfl, hpbk⟩ := hrel
    by_cases hkN : k < N
    · have hrw := hpbk.row
      have c4 : wr.cell? ⟨pb, 4, none⟩ = some v := hrw.cell (i := 4) (by omega)
      have f4 := hrw.frozen 4
      have lp : LtW pb wr := hrw.lt
      have hsb := hpbk.bel.size
      have HPB := Lib.hid hpbk
      have HCE : Hid ((wr.alloc (.cells #[.int .i64 (-1)] 3)).cell? ⟨wr.heap.size, 0, none⟩ = some (.int .i64 (-1))) := Lib.hid (by rw [World.cell?_alloc_new]; rfl)
      have HOA := Lib.hid (ownBelow hpbk.own ((Below.refl _ _).alloc (Nat.le_refl _) (.cells #[.int .i64 (-1)] 3)))
      have hsa : base ≤ (wr.alloc (.cells #[.int .i64 (-1)] 3)).heap.size := by simp; omega
      clear hrw hpbk
      go_wp2_with (at_builtin; refine wpAppK okI8 rfl (.tmp 32) (.tmp 33) rfl base v k ((List.replicate k (-1)).map i64v) (.int .i64 (-1)) wr.heap.size rfl HOA.out rfl HCE.out rfl (by omega) (by omega) hsa ?_)
      intro v' w2 hown2 hg2 hat2
      have hb2 : Below base wr w2 := Below.trans ((Below.refl base wr).alloc hsb _) (belowGrown hg2 hsa (fun k hk => (HOA.out.lt k hk).1))
      have c4' : w2.cell? ⟨pb, 4, none⟩ = some v := (hb2.cell (p := ⟨pb, 4, none⟩) hpbb).trans c4
      have f4' : w2.frozen? ⟨pb, 4, none⟩ = false := (hb2.frozen (p := ⟨pb, 4, none⟩) hpbb).trans f4
      obtain ⟨A', cp', rfl⟩ := own_form hown2
      have HNB := Lib.hid (HPB.out.app (x := -1) hpbb (by rw [List.map_replicate]; exact hown2) hb2)
      clear hown2 hg2 hat2 hb2 c4 f4
      go_wp2
      go_roundw
      case rel => exact ⟨k + 1, _, by omega, by go_num, by rw [List.replicate_succ']; exact HNB.out⟩
      case measure => simp [intOf]; omega
    · obtain rfl : k = N := by omega
      obtain ⟨tb, cap, rfl⟩ := own_some hpbk.own (by omega)
      have hrw := hpbk.row
      have c4 : wr.cell? ⟨pb, 4, none⟩ = some (.slice (some ⟨tb, 0, none⟩) k cap) := hrw.cell (i := 4) (by omega)
      have lp : LtW pb wr := hrw.lt
      have HPB := Lib.hid hpbk
      clear hrw hpbk
      go_wp2_with fail
      clear c4 lp
      go_loopw [43] (fun iv wr => ∃ (s : Nat) (tb cap : Nat) (p : List Int), s ≤ k ∧ iv = .int .i64 s ∧ PB W H pb a n c base W3 k p (.slice (some ⟨tb, 0, none⟩) k cap) wr ∧ Str W cs k s p) (fun iv _ => k - (intOf iv).toNat)
      case atStart => exact ⟨0, tb, cap, _, by omega, rfl, HPB.out, .zero⟩
      case round =>
        clear HPB
        obtain ⟨s, tb, cap, p, hs, rfl, hpbk, hstr⟩ := hrel
        have HPB := Lib.hid hpbk; have HSTR := Lib.hid hstr
        clear hpbk hstr
        by_cases hsN : s < k
        · go_wp2_with fail
          go_loopw [7] (fun kv wr => ∃ (kk tb cap : Nat) (p2 : List Int), kk ≤ 62 ∧ kv = .int .i64 kk ∧ PB W H pb a n c base W3 k p2 (.slice (some ⟨tb, 0, none⟩) k cap) wr ∧ KInv W cs s p kk p2) (fun kv _ => 62 - (intOf kv).toNat)
          case atStart => exact ⟨0, tb, cap, p, by omega, rfl, HPB.out, .inl ⟨rfl, fun _ => rfl, fun j h => absurd h (by omega)⟩⟩
          case round =>
            clear HPB
            obtain ⟨kk, tb, cap, p2, hkk, rfl, hpbk, hki⟩ := hrel
            have hlen : p2.length = k := by have := (own_parts hpbk.own).1; simpa using this
            have c4 : wr.cell? ⟨pb, 4, none⟩ = some (.slice (some ⟨tb, 0, none⟩) k cap) := hpbk.row.cell (i := 4) (by omega)
            have ts : wr.cell? ⟨tb, s, none⟩ = some (.int .i64 (g p2 s)) := by rw [(own_cell hpbk.own hsN).1, g_at (by omega)]
            have lp : LtW pb wr := hpbk.row.lt
            have lt : LtW tb wr := own_lt hpbk.own
            have HPB := Lib.hid hpbk; have HKI := Lib.hid hki
            clear hpbk hki hlen
            obtain ⟨gs, hgs⟩ : ∃ gs, g p2 s = gs := ⟨_, rfl⟩
            rw [hgs] at ts
            have HGS := Lib.hid hgs
            clear hgs
            by_cases h0 : 0 ≤ gs
            · have b1 : decide (gs < 0) = false := by simp; omega
              have HST := Lib.hid (HKI.out.exit HSTR.out hsN (by rw [HGS.out]; exact h0))
              go_wp2
              go_roundw
              case rel => exact ⟨s + 1, tb, cap, p2, by omega, by go_num, HPB.out, HST.out⟩
              case measure => simp [intOf]; omega
            · have b1 : decide (gs < 0) = true := by simp; omega
              obtain ⟨hpp, hnv⟩ := HKI.out.open HSTR.out hsN (by rw [HGS.out]; omega)
              subst hpp
              have HNV := Lib.hid hnv
              clear hnv HKI
              by_cases h62 : kk = 62
              · have b2 : (kk == 62) = true := by simp; omega
                have b3 : ((kk : Int) == 62) = true := by simp; omega
                have HSK : Hid (Stuck W cs k) := Lib.hid ⟨s, p2, HSTR.out, hsN, by rw [HGS.out]; omega, fun j hj => HNV.out j (by omega)⟩
                have hSr := HPB.out.bel.rowIs HS.out (by omega) (by omega)
                have s0 : wr.cell? ⟨q + 1, 0, none⟩ = some (.slice none 0 0) := hSr.cell (i := 0) (by omega)
                have s1 : wr.cell? ⟨q + 1, 1, none⟩ = some (.slice none 0 0) := hSr.cell (i := 1) (by omega)
                have f0 := hSr.frozen 0; have f1 := hSr.frozen 1
                have ls : LtW (q + 1) wr := hSr.lt
                have HBW : Hid (Below q w wr) := Lib.hid (HB3.out.trans (HPB.out.bel.below HBS.out.symm (by omega) hpbb))
                clear hSr h62
                go_wp2
                refine bodyPost_ret (v := .tuple #[.agg #[.slice none 0 0, .slice none 0 0], .int .i64 (6)]) (by simp [results, Try.results28, go_sem, s0, s1]) rfl ?_
                unfold StrPostE
                refine ⟨.inl ⟨HSK.out, rfl⟩, ?_⟩
                rw [HQ.out]
                exact (HBW.out.setCell (by show q ≤ q + 1; omega) _).setCell (by show q ≤ q + 1; omega) _
              · have b2 : (kk == 62) = false := by simp; omega
                have b3 : ((kk : Int) == 62) = false := by simp; omega
                have hI := HPB.out.bel.ints HI3.out HCA.out
                have hin := HSTR.out.inv
                go_wp2_with fail
                refine (HTRY.out pb tb cap base p2 s kk wr HPB.out.row hI HPB.out.own hpbb HCA.out hin.1 hin.2.1 hin.2.2.1 hsN (by rw [HGS.out]; omega) (by omega)).mono ?_
                rintro r w5 ⟨tb', cap', ok, p', rfl, hrow', hown', hbx', hok, hno⟩
                have HNB : Hid (PB W H pb a n c base W3 k p' (.slice (some ⟨tb', 0, none⟩) k cap') w5) := Lib.hid ⟨hrow', hown', HPB.out.bel.trans hbx'⟩
                have HKN : Hid (KInv W cs s p2 (kk + 1) p') := Lib.hid (by
                  cases ok with
                  | true => exact .inr ⟨kk, rfl, by rw [HGS.out]; omega, by omega, HNV.out, hok rfl⟩
                  | false =>
                    obtain ⟨e1, e2⟩ := hno rfl
                    refine .inl ⟨e1, fun h => by rw [HGS.out] at h; omega, fun j hj => ?_⟩
                    by_cases e : j = kk
                    · subst e; exact e2
                    · exact HNV.out j (by omega))
                clear hrow' hown' hbx' hok hno hI hin
                go_wp2
                go_roundw
                case rel => exact ⟨kk + 1, tb', cap', p', by omega, by go_num, HNB.out, HKN.out⟩
                case measure => simp [intOf]; omega
        · obtain rfl : s = k := by omega
          have hpbk := HPB.out
          have hin := HSTR.out.inv
          have hwb := HPB.out.bel
          have c4 : wr.cell? ⟨pb, 4, none⟩ = some (.slice (some ⟨tb, 0, none⟩) s cap) := hpbk.row.cell (i := 4) (by omega)
          have lp : LtW pb wr := hpbk.row.lt
          have hCr := hwb.rowIs HC.out (by omega) (by omega)
          have hSr := hwb.rowIs HS.out (by omega) (by omega)
          have c1 : wr.cell? ⟨q, 1, none⟩ = some (.int .i64 (W)) := hCr.cell (i := 1) (by omega)
          have lq : LtW q wr := hCr.lt
          have HSr := Lib.hid hSr
          have hcap := (own_parts hpbk.own).2.2.1
          have htb := (own_parts hpbk.own).2.1
          have hWs : W < s := by have := HN.out; omega
          have hs1 := slice_3 tb s W cap (by omega) (by omega)
          have hs2 := slice_fr tb s W H cap (by have := HN.out; omega) (by omega) (by omega)
          have HCL : Hid (∀ w, Below wr.heap.size wr w → Calls Try.prog 67 #[.slice (some ⟨tb, W, none⟩) H (cap - W)] w (IPost (p.drop W) w)) := Lib.hid fun w hb => clone_any _ H (cap - W) (p.drop W) w (IsInts.below (by have := ints_from (W := W) (H := H) (ints_of_own hpbk.own) (by have := HN.out; omega); rwa [Nat.zero_add] at this) hb) (by omega)
          have HBW : Hid (Below q w wr) := Lib.hid (HB3.out.trans (hwb.below HBS.out.symm (by omega) hpbb))
          have HIT := Lib.hid (ints_upto (ints_of_own hpbk.own) (m := W) (by omega))
          have HLD : Hid ((p.drop W).length = H) := Lib.hid (by rw [List.length_drop, hin.1]; have := HN.out; omega)
          clear hpbk hin hwb hCr hSr
          go_wp2_with fail
          refine wp_region_M 18 (by kernel_rfl) (by kernel_rfl) ?_
          (refine wpM_take (i := 0) rfl (by kernel_rfl) (fun _ _ _ _ h => h) (fun K hK => ?_); go_simp; first | (refine hK _ ?_; clear hK K) | (apply Exists.intro; refine ⟨fun _ _ => ?_, hK _ ?_⟩; fail; clear hK K)); (refine wpM_take (i := 1) rfl (by kernel_rfl) (fun _ _ _ _ h => h) (fun K hK => ?_); go_simp; first | (refine hK _ ?_; clear hK K) | (apply Exists.intro; refine ⟨fun _ _ => ?_, hK _ ?_⟩; fail; clear hK K)); (refine wpM_take (i := 2) rfl (by kernel_rfl) (fun _ _ _ _ h => h) (fun K hK => ?_); go_simp; first | (refine hK _ ?_; clear hK K) | (apply Exists.intro; refine ⟨fun _ _ => ?_, hK _ ?_⟩; fail; clear hK K)); (refine wpM_take (i := 3) rfl (by kernel_rfl) (fun _ _ _ _ h => h) (fun K hK => ?_); go_simp; first | (refine hK _ ?_; clear hK K) | (apply Exists.intro; refine ⟨fun _ _ => ?_, hK _ ?_⟩; fail; clear hK K)); (refine wpM_take (i := 4) rfl (by kernel_rfl) (fun _ _ _ _ h => h) (fun K hK => ?_); go_simp; first | (refine hK _ ?_; clear hK K) | (apply Exists.intro; refine ⟨fun _ _ => ?_, hK _ ?_⟩; fail; clear hK K)); (refine wpM_take (i := 5) rfl (by kernel_rfl) (fun _ _ _ _ h => h) (fun K hK => ?_); go_simp; first | (refine hK _ ?_; clear hK K) | (apply Exists.intro; refine ⟨fun _ _ => ?_, hK _ ?_⟩; fail; clear hK K)); (refine wpM_take (i := 6) rfl (by kernel_rfl) (fun _ _ _ _ h => h) (fun K hK => ?_); go_simp; first | (refine hK _ ?_; clear hK K) | (apply Exists.intro; refine ⟨fun _ _ => ?_, hK _ ?_⟩; fail; clear hK K)); (refine wpM_take (i := 7) rfl (by kernel_rfl) (fun _ _ _ _ h => h) (fun K hK => ?_); go_simp; first | (refine hK _ ?_; clear hK K) | (apply Exists.intro; refine ⟨fun _ _ => ?_, hK _ ?_⟩; fail; clear hK K)); (refine wpM_take (i := 8) rfl (by kernel_rfl) (fun _ _ _ _ h => h) (fun K hK => ?_); go_simp; first | (refine hK _ ?_; clear hK K) | (apply Exists.intro; refine ⟨fun _ _ => ?_, hK _ ?_⟩; fail; clear hK K)); (refine wpM_take (i := 9) rfl (by kernel_rfl) (fun _ _ _ _ h => h) (fun K hK => ?_); go_simp; first | (refine hK _ ?_; clear hK K) | (apply Exists.intro; refine ⟨fun _ _ => ?_, hK _ ?_⟩; fail; clear hK K)); (refine wpM_take (i := 10) rfl (by kernel_rfl) (fun _ _ _ _ h => h) (fun K hK => ?_); go_simp; first | (refine hK _ ?_; clear hK K) | (apply Exists.intro; refine ⟨fun _ _ => ?_, hK _ ?_⟩; fail; clear hK K)); (refine wpM_take (i := 11) rfl (by kernel_rfl) (fun _ _ _ _ h => h) (fun K hK => ?_); go_simp; first | (refine hK _ ?_; clear hK K) | (apply Exists.intro; refine ⟨fun _ _ => ?_, hK _ ?_⟩; fail; clear hK K)); (refine wpM_take (i := 12) rfl (by kernel_rfl) (fun _ _ _ _ h => h) (fun K hK => ?_); go_simp; first | (refine hK _ ?_; clear hK K) | (apply Exists.intro; refine ⟨fun _ _ => ?_, hK _ ?_⟩; fail; clear hK K)); (refine wpM_take (i := 13) rfl (by kernel_rfl) (fun _ _ _ _ h => h) (fun K hK => ?_); go_simp; first | (refine hK _ ?_; clear hK K) | (apply Exists.intro; refine ⟨fun _ _ => ?_, hK _ ?_⟩; fail; clear hK K)); (refine wpM_take (i := 14) rfl (by kernel_rfl) (fun _ _ _ _ h => h) (fun K hK => ?_); go_simp; first | (refine hK _ ?_; clear hK K) | (apply Exists.intro; refine ⟨fun _ _ => ?_, hK _ ?_⟩; fail; clear hK K)); (refine wpM_take (i := 15) rfl (by kernel_rfl) (fun _ _ _ _ h => h) (fun K hK => ?_); go_simp; first | (refine hK _ ?_; clear hK K) | (apply Exists.intro; refine ⟨fun _ _ => ?_, hK _ ?_⟩; fail; clear hK K))
          (refine wpM_step (i := 16) rfl (by kernel_rfl) (fun E d K hK => ?_)); go_simp
          refine (HCL.out _ (by repeat (first | exact Below.refl _ _ | refine Below.drew ?_ | refine below_drewN ?_ _ | refine Below.alloc ?_ (by first | exact Nat.le_refl _ | (simp; done) | (simp; omega) | omega) _ | refine Below.setCell ?_ (by first | exact Nat.le_refl _ | (simp; done) | (simp; omega) | omega) _ | refine bExtW ?_ (by first | exact Nat.le_refl _ | (simp; done) | (simp; omega) | omega) | refine Below.trans ?_ (Below.mono (by assumption) (by first | exact Nat.le_refl _ | (simp; done) | (simp; omega) | omega))))).mono ?_
          rintro r w6 ⟨A6, C6, rfl, ho6, hb6⟩
          rw [HLD.out] at ho6 ⊢
          refine hK _ _ (bExt hb6) ?_
          clear hK K
          have hb7 := belowX7 hb6
          have HO6 := Lib.hid ho6
          clear hb6 ho6
          (refine wpM_take (i := 17) rfl (by kernel_rfl) (fun _ _ _ _ h => h) (fun K hK => ?_); go_simp; first | (refine hK _ ?_; clear hK K) | (apply Exists.intro; refine ⟨fun _ _ => ?_, hK _ ?_⟩; fail; clear hK K))
          refine wpM_tail (by kernel_rfl) (fun E d => ?_); simp only [List.drop_succ_cons, List.drop_zero]
          have hb8 : Below wr.heap.size wr (extW w6 E d) := bExtW hb7 hb7.size
          have hS8 := rowBelow HSr.out hb8 HSr.out.lt
          have s0 : (extW w6 E d).cell? ⟨q + 1, 0, none⟩ = some (.slice none 0 0) := hS8.cell (i := 0) (by omega)
          have s1 : (extW w6 E d).cell? ⟨q + 1, 1, none⟩ = some (.slice none 0 0) := hS8.cell (i := 1) (by omega)
          have f0 := hS8.frozen 0; have f1 := hS8.frozen 1
          have ls : LtW (q + 1) (extW w6 E d) := hS8.lt
          have HB9 : Hid (Below q w (extW w6 E d)) := Lib.hid (HBW.out.trans (hb8.mono (by have := HBW.out.size; have := HQ.out; omega)))
          have HI9 := Lib.hid (HIT.out.below hb8)
          obtain ⟨a6, c6, e6, hi6, _, hg6⟩ := ints_owns (L := p.drop W) (by rw [HLD.out]; exact ownBelow HO6.out (bExtW (Below.refl _ _) (Nat.le_refl _) : Below w6.heap.size w6 (extW w6 E d)))
          rw [HLD.out] at e6 hi6
          injection e6 with e6 _ e7
          subst e6 e7
          have HI6 := Lib.hid hi6; have HG6 := Lib.hid hg6
          have hqs : q + 1 < wr.heap.size := HSr.out.lt
          clear hb8 hS8 hi6 hg6 hb7
          generalize extW w6 E d = wx at *
          go_wp2
          refine bodyPost_ret (v := .tuple #[.agg #[.slice (some ⟨tb, 0, none⟩) W W, .slice A6 H C6], .int .i64 (0)]) (by simp [results, Try.results28, go_sem, s0, s1]) rfl ?_
          unfold StrPostE
          refine ⟨.inr ⟨p, some ⟨tb, 0, none⟩, W, A6, C6, HSTR.out, rfl, ?_, ?_⟩, ?_⟩
          · exact ints_set (ints_set HI9.out fun b o e => by cases e; omega) fun b o e => by cases e; omega
          · exact ints_set (ints_set HI6.out fun b o e => by have := HG6.out b o e; rw [size_extW] at this; omega) fun b o e => by have := HG6.out b o e; rw [size_extW] at this; omega
          · rw [HQ.out]
            exact (HB9.out.setCell (by show q ≤ q + 1; omega) _).setCell (by show q ≤ q + 1; omega) _
end Go.Proofs.Yticplgjpflaelaa
