/- Lemmas and contracts of functions (what each call returns, and that it changes nothing that was there) that the proof of a law of this seat uses; each lemma states its own conditions. -/
import Derived.Test.YtnjheiiohfhckaaMgV
import Derived.Test.YtnjheiiohfhckaaMgG
namespace Go.Proofs.Ytnjheiiohfhckaa
open Go.RowKit
open Mg
/-- The jobs that a plan tells, as they lie in memory. -/
def IsJobs (w : World) (v : Value) (out : List (Int × Int)) : Prop :=
  ∃ a c, v = .slice a out.length c ∧ (0 < out.length → ∃ b, a = some ⟨b, 0, none⟩ ∧ b < w.heap.size ∧ ∀ j, j < out.length → w.cell? ⟨b, j * 2, none⟩ = some (.int .i64 ((out.getD j (0,0)).1)) ∧ w.cell? ⟨b, j * 2 + 1, none⟩ = some (.int .i64 ((out.getD j (0,0)).2)))
theorem jobCells_get (out : List (Int × Int)) (j : Nat) (h : j < out.length) : (jobCells out)[j * 2]? = some (.int .i64 ((out.getD j (0,0)).1)) ∧ (jobCells out)[j * 2 + 1]? = some (.int .i64 ((out.getD j (0,0)).2)) := by
  induction out generalizing j with
  | nil => simp at h
  | cons p l ih =>
    have e : jobCells (p :: l) = .int .i64 (p.1) :: .int .i64 (p.2) :: jobCells l := by simp [jobCells]
    cases j with
    | zero => rw [e]; simp
    | succ j =>
      rw [e, show (j + 1) * 2 = j * 2 + 2 by omega]
      simp only [List.length_cons] at h
      have := ih j (by omega)
      simpa using this
theorem IsJobs.of_owns {w : World} {base : Nat} {v : Value} {n : Nat} {out : List (Int × Int)} (hn : out.length = n) (h : w.ownsRow base 29 2 v n (jobCells out)) : IsJobs w v out := by
  rcases h.2 with ⟨rfl, rfl⟩ | ⟨g, cap, cur, rfl, _⟩
  · exact ⟨none, 0, by rw [hn], fun h => by omega⟩
  · refine ⟨some ⟨g, 0, none⟩, cap, by rw [hn], fun hp => ⟨g, rfl, ?_, fun j hj => ?_⟩⟩
    · have h0 := h.cellAt 0 (by omega)
      have h1 := (jobCells_get out 0 hp).1
      simp only [Nat.zero_mul] at h1
      rw [h1] at h0
      exact World.block_lt_of_cell? w _ h0
    · have h1 := jobCells_get out j hj
      rw [h.cellAt _ (by omega), h.cellAt _ (by omega)]
      exact h1
theorem IsJobs.below {w w' : World} {v : Value} {out : List (Int × Int)} (h : IsJobs w v out) (hb : Below w.heap.size w w') : IsJobs w' v out := by
  obtain ⟨a, c, h1, h2⟩ := h
  refine ⟨a, c, h1, fun hp => ?_⟩
  obtain ⟨b, e1, e2, e3⟩ := h2 hp
  exact ⟨b, e1, Nat.lt_of_lt_of_le e2 hb.size, fun j hj => ⟨bCs hb (e3 j hj).1, bCs hb (e3 j hj).2⟩⟩
set_option maxRecDepth 100000 in
set_option maxHeartbeats 400000 in
theorem alive17_any (w : World) :
    Calls Try.prog 9 #[] w fun r w' => r = .returned (.bool true) ∧ Below w.heap.size w w' := by
  have HP : Hid ((planTo [3,4] 2 2).last = 4) := Lib.hid (by decide)
  go_enter Try.func9, Try.ntmps9
  go_wp2_with fail
  refine (Plan_ok (some ⟨w.heap.size, 0, none⟩) 2 2 [3,4] 2 _ ⟨rfl, fun _ => ⟨w.heap.size, 0, rfl, by simp, ?_⟩⟩ (by decide) (by decide)).mono ?_
  · intro j hj
    have : j = 0 ∨ j = 1 := by omega
    rcases this with rfl | rfl <;> simp
  rintro r w1 ⟨v, rfl, ho, hb⟩
  rw [show [(3:Int),4].length = 2 from rfl, HP.out]
  obtain ⟨a, c, rfl, _⟩ := IsJobs.of_owns rfl ho
  obtain ⟨E, d, rfl⟩ := bExt hb
  clear hb ho
  go_wp2
  go_ret
  exact ⟨rfl, (by repeat (first | exact Below.refl _ _ | refine Below.drew ?_ | refine below_drewN ?_ _ | refine Below.alloc ?_ (by first | exact Nat.le_refl _ | (simp; done) | (simp; omega) | omega) _ | refine Below.setCell ?_ (by first | exact Nat.le_refl _ | (simp; done) | (simp; omega) | omega) _ | refine bExtW ?_ (by first | exact Nat.le_refl _ | (simp; done) | (simp; omega) | omega) | refine Below.trans ?_ (Below.mono (by assumption) (by first | exact Nat.le_refl _ | (simp; done) | (simp; omega) | omega))))⟩
end Go.Proofs.Ytnjheiiohfhckaa
