/- Lemmas and contracts of functions (what each call returns, and that it changes nothing that was there) that the proof of a law of this seat uses; each lemma states its own conditions. -/
import Derived.Test.YtikddfjickkhhaaNat
namespace Go.Proofs.Ytikddfjickkhhaa
open Go.RowKit
set_option linter.unusedVariables false
set_option linter.unusedSimpArgs false
theorem IsBools.setRow {w : World} {a : Option Addr} {n q t k : Nat} {bs : List Bool} {f : Nat → Value} (h : IsBools w a n bs) (hr : w.rowIs q t k f) (hf : ∀ i b, f i ≠ .bool b) (i : Nat) (u : Value) : IsBools (w.setCell ⟨q, i, none⟩ u) a n bs := by
  refine ⟨h.1, fun hn => ?_⟩
  obtain ⟨b, o, h1, h2, h3⟩ := h.2 hn
  refine ⟨b, o, h1, by rw [World.size_setCell]; exact h2, fun j hj => ?_⟩
  have hne : b ≠ q := by
    rintro rfl
    have h4 := h3 j hj
    obtain ⟨c, hb, hc1, hc2⟩ := hr
    by_cases hk : o + j < k
    · have h5 := World.rowIs.cell ⟨c, hb, hc1, hc2⟩ hk
      rw [h5] at h4
      injection h4 with h4
      exact hf _ _ h4
    · simp [World.cell?, hb, Array.getElem?_eq_none (show c.size ≤ o + j by omega)] at h4
  rw [World.cell?_setCell_other]
  · exact h3 j hj
  · intro e
    injection e with e1
    exact hne e1.symm
theorem truthRow_ne (N H : Int) (A : Option Addr) (n c : Nat) : ∀ i b, (fun j : Nat => if j = 0 then Value.int .i64 N else if j = 1 then .int .i64 H else .slice A n c) i ≠ .bool b := by
  intro i b
  simp only
  split
  · intro h; cases h
  · split <;> (intro h; cases h)
/-- The truth stored into block q, cell by cell. -/
theorem storeTruth {w : World} {q : Nat} {t : TypeId} {a : Option Addr} {n : Nat} {bs : List Bool} {N0 H0 : Int} {A0 : Option Addr} {n0 c0 : Nat} (N H : Int) (A : Option Addr) (m c : Nat)
    (hr : w.rowIs q t 3 (fun j => if j = 0 then .int .i64 N0 else if j = 1 then .int .i64 H0 else .slice A0 n0 c0)) (h : IsBools w a n bs) :
    IsBools (((w.setCell ⟨q, 0, none⟩ (.int .i64 N)).setCell ⟨q, 1, none⟩ (.int .i64 H)).setCell ⟨q, 2, none⟩ (.slice A m c)) a n bs ∧
    (((w.setCell ⟨q, 0, none⟩ (.int .i64 N)).setCell ⟨q, 1, none⟩ (.int .i64 H)).setCell ⟨q, 2, none⟩ (.slice A m c)).rowIs q t 3 (fun j => if j = 0 then .int .i64 N else if j = 1 then .int .i64 H else .slice A m c) := by
  have r1 : (w.setCell ⟨q, 0, none⟩ (.int .i64 N)).rowIs q t 3 (fun j => if j = 0 then .int .i64 N else if j = 1 then .int .i64 H0 else .slice A0 n0 c0) := (hr.set 0 (.int .i64 N)).congr fun i hi => by
    by_cases e : i = 0 <;> simp [e]
  have r2 : ((w.setCell ⟨q, 0, none⟩ (.int .i64 N)).setCell ⟨q, 1, none⟩ (.int .i64 H)).rowIs q t 3 (fun j => if j = 0 then .int .i64 N else if j = 1 then .int .i64 H else .slice A0 n0 c0) := (r1.set 1 (.int .i64 H)).congr fun i hi => by
    by_cases e : i = 1 <;> simp [e]
  refine ⟨((h.setRow hr (truthRow_ne _ _ _ _ _) 0 _).setRow r1 (truthRow_ne _ _ _ _ _) 1 _).setRow r2 (truthRow_ne _ _ _ _ _) 2 _, ?_⟩
  refine (r2.set 2 (.slice A m c)).congr fun i hi => ?_
  by_cases e : i = 2
  · simp [e]
  · have : i = 0 ∨ i = 1 := by omega
    rcases this with rfl | rfl <;> simp
end Go.Proofs.Ytikddfjickkhhaa
