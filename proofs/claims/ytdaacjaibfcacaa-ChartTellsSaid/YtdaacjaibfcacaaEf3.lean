/- Lemmas and contracts of functions (what each call returns, and that it changes nothing that was there) that the proof of a law of this seat uses; each lemma states its own conditions. -/
import Derived.Test.YtdaacjaibfcacaaEf2
import Derived.Test.YtdaacjaibfcacaaCh1
import Derived.Test.YtdaacjaibfcacaaRegN
namespace Go.Proofs.Ytdaacjaibfcacaa
open Go.RowKit
set_option linter.unusedVariables false
set_option linter.unusedSimpArgs false
open Ef
/-- The threads that are told. -/
def StrPostE (W H N : Nat) (cs : List Int) (w : World) (r : Ending) (w' : World) : Prop :=
  ((Stuck W cs N ∧ r = .returned (.tuple #[.agg #[.slice none 0 0, .slice none 0 0], .int .i64 (6)])) ∨ ∃ p A C B D, Str W cs N N p ∧ r = .returned (.tuple #[.agg #[.slice A W C, .slice B H D], .int .i64 (0)]) ∧ IsInts w' A W (p.take W) ∧ IsInts w' B H (p.drop W)) ∧ Below w.heap.size w w'
/-- Where the trying of colours for strand s stands. -/
def KInv (W : Nat) (cs : List Int) (s : Nat) (p : List Int) (k : Nat) (p2 : List Int) : Prop :=
  (p2 = p ∧ (0 ≤ g p s → k = 0) ∧ ∀ j : Nat, j < k → Never W cs (p.set s j)) ∨ (∃ k' : Nat, k = k' + 1 ∧ g p s < 0 ∧ k' < 62 ∧ (∀ j : Nat, j < k' → Never W cs (p.set s j)) ∧ Least W cs (p.set s k') p2)
theorem KInv.exit {W N s k : Nat} {cs p p2 : List Int} (h : KInv W cs s p k p2) (hs : Str W cs N s p) (hsN : s < N) (h0 : 0 ≤ g p2 s) : Str W cs N (s + 1) p2 := by
  rcases h with ⟨rfl, _, _⟩ | ⟨k', _, h1, h2, h3, h4⟩
  · exact .keep hs hsN h0
  · exact .tie hs hsN h1 h2 h3 h4
theorem KInv.open {W N s k : Nat} {cs p p2 : List Int} (h : KInv W cs s p k p2) (hs : Str W cs N s p) (hsN : s < N) (h0 : g p2 s < 0) : p2 = p ∧ ∀ j : Nat, j < k → Never W cs (p.set s j) := by
  rcases h with ⟨rfl, _, h⟩ | ⟨k', _, h1, h2, h3, h4⟩
  · exact ⟨rfl, h⟩
  · have hl := hs.inv.1
    have h5 := h4.1.2 s (by rw [set_len]; omega)
    rw [g_set p s s _ (by omega), if_pos rfl] at h5
    rw [h5 (by omega)] at h0
    omega
def chF (W H : Nat) (ca : Option Addr) (cn cc : Nat) : Nat → Value := fun j => if j = 0 then .int .i64 4 else if j = 1 then .int .i64 (W : Int) else if j = 2 then .int .i64 (H : Int) else .slice ca cn cc
theorem slice_3 (tb n W cap : Nat) (h : W ≤ n) (h2 : n ≤ cap) : ∀ w, (Instr.slice 34 (.slice (some ⟨tb, 0, none⟩) n cap) none (some (.int .i64 (W))) (some (.int .i64 (W)))).run Try.prog w = .ok (.slice (some ⟨tb, 0, none⟩) W W) w := by
  intro w
  rw [run_slice_hm (P := Try.prog) w 34 (some ⟨tb, 0, none⟩) n cap (by kernel_rfl) .i64 .i64 (W : Int) (W : Int) (by omega) (by omega) (by omega)]
  have hsz : (sizeOf (Try.prog.elem 34)).run Try.prog w = .ok 1 w := by go_simp
  rw [hsz]
  have e2 : ((W : Int)).toNat = W := by omega
  rw [e2]
  simp [Result.andThen, sliced, Addr.add_lit]
theorem slice_fr (tb n W H cap : Nat) (h : W + H = n) (h1 : 1 ≤ H) (h2 : n ≤ cap) : ∀ w, (Instr.slice 34 (.slice (some ⟨tb, 0, none⟩) n cap) (some (.int .i64 (W))) none none).run Try.prog w = .ok (.slice (some ⟨tb, W, none⟩) H (cap - W)) w := by
  intro w
  rw [run_slice_l (P := Try.prog) w 34 (some ⟨tb, 0, none⟩) n cap (by kernel_rfl) .i64 (W : Int) (by omega) (by omega)]
  have hsz : (sizeOf (Try.prog.elem 34)).run Try.prog w = .ok 1 w := by go_simp
  rw [hsz]
  have e2 : ((W : Int)).toNat = W := by omega
  rw [e2]
  have e3 : n - W = H := by omega
  simp [Result.andThen, sliced, Addr.add_lit, e3]
  omega
theorem ints_from {w : World} {b o n W H : Nat} {l : List Int} (h : IsInts w (some ⟨b, o, none⟩) n l) (hn : W + H = n) : IsInts w (some ⟨b, o + W, none⟩) H (l.drop W) := by
  refine ⟨by rw [List.length_drop, h.1]; omega, fun hH => ?_⟩
  obtain ⟨b', o', e, hlt, hc⟩ := h.2 (by omega)
  cases e
  refine ⟨b, o + W, rfl, hlt, fun j hj => ?_⟩
  rw [Nat.add_assoc, hc (W + j) (by omega)]
  rw [List.getD_eq_getElem?_getD, List.getD_eq_getElem?_getD, List.getElem?_drop]
theorem ints_upto {w : World} {b o n m : Nat} {l : List Int} (h : IsInts w (some ⟨b, o, none⟩) n l) (hm : m ≤ n) : IsInts w (some ⟨b, o, none⟩) m (l.take m) := by
  refine ⟨by rw [List.length_take, h.1]; omega, fun hH => ?_⟩
  obtain ⟨b', o', e, hlt, hc⟩ := h.2 (by omega)
  cases e
  refine ⟨b, o, rfl, hlt, fun j hj => ?_⟩
  rw [hc j (by omega)]
  rw [List.getD_eq_getElem?_getD, List.getD_eq_getElem?_getD, List.getElem?_take_of_lt hj]
theorem belowX7 {w w4 : World} {E : Array Obj} {d : Nat} (h : Below (extW w E d).heap.size (extW w E d) w4) : Below w.heap.size w w4 := by
  have h1 : Below w.heap.size w (extW w E d) := bExtW (Below.refl _ _) (Nat.le_refl _)
  exact h1.trans (h.mono h1.size)
theorem ints_set {w : World} {a : Option Addr} {n q i : Nat} {l : List Int} {v : Value} (h : IsInts w a n l) (hm : ∀ b o, a = some ⟨b, o, none⟩ → b ≠ q) : IsInts (w.setCell ⟨q, i, none⟩ v) a n l := by
  refine ⟨h.1, fun hn => ?_⟩
  obtain ⟨b, o, e, hlt, hc⟩ := h.2 hn
  refine ⟨b, o, e, by rw [World.size_setCell]; exact hlt, fun j hj => ?_⟩
  rw [← hc j hj]
  exact World.cell?_of_block (Below.heap_setCell _ _ _ b (fun e2 => hm b o e (by simpa using e2)))
end Go.Proofs.Ytdaacjaibfcacaa
