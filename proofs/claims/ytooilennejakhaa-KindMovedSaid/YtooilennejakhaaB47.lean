/- Lemmas and contracts of functions (what each call returns, and that it changes nothing that was there) that the proof of a law of this seat uses; each lemma states its own conditions. -/
import Derived.Test.YtooilennejakhaaB46
namespace Go.Proofs.Ytooilennejakhaa
open Go.RowKit
set_option linter.unusedVariables false
set_option linter.unusedSimpArgs false
open Z (torN place pnt Mv To lin okT nrm keepB colP idm md redM movdL)
theorem put_at' {a : Act} {t : Nat} {v : Value} (h : t < a.tmps.size) : (a.put (some t) v).tmps.getD t undef = v := by
  simp [Act.put, Array.getD, h]
theorem put_off' {a : Act} {t u : Nat} {v : Value} (h : t ≠ u) : (a.put (some t) v).tmps.getD u undef = a.tmps.getD u undef := by
  simp only [Act.put, Array.getD_eq_getD_getElem?, Array.getElem?_setIfInBounds, h, if_false]
/-- What the first chain has made. -/
def RA (base M : Nat) (G N : Int) (i : Nat) (b : Act) (w : World) : Prop :=
  (i = 1 → ∃ s, b.tmps.getD 35 undef = .slice (some ⟨s, 0, none⟩) 1 1 ∧ w.cell? ⟨s, 0, none⟩ = some (.int .i64 0)) ∧
  (2 ≤ i → ∃ g, base ≤ g ∧ b.tmps.getD 41 undef = .slice (some ⟨g, 0, none⟩) M M ∧ w.rowIs g 3 M (fun _ => .int .i64 0) ∧ (i = 3 → b.tmps.getD 42 undef = .agg #[.int .i64 (G), .int .i64 (N), .int .i64 (N), .slice (some ⟨g, 0, none⟩) M M]))
/-- What the second. -/
def RB (base : Nat) (j : Nat) (b : Act) (w : World) : Prop := j = 1 → ∃ o, base ≤ o ∧ b.tmps.getD 9 undef = .pointer (some ⟨o, 0, none⟩) ∧ w.rowIs o 24 4 (chtF 0 0 0 (.slice none 0 0))
theorem RA.step {base M i t : Nat} {G N : Int} {b : Act} {w w' : World} {v : Value} (h : RA base M G N i b w) (hb : Below w.heap.size w w') (h1 : t ≠ 35) (h2 : t ≠ 41) (h3 : t ≠ 42) : RA base M G N i (b.put (some t) v) w' := by
  refine ⟨fun e => ?_, fun e => ?_⟩
  · obtain ⟨s, e1, e2⟩ := h.1 e
    exact ⟨s, by rw [put_off' h1]; exact e1, bCs hb e2⟩
  · obtain ⟨g, e0, e1, e2, e3⟩ := h.2 e
    exact ⟨g, e0, by rw [put_off' h2]; exact e1, rowBelow e2 hb e2.lt, fun e5 => by rw [put_off' h3]; exact e3 e5⟩
theorem RB.step {base j t : Nat} {b : Act} {w w' : World} {v : Value} (h : RB base j b w) (hb : Below w.heap.size w w') (h1 : t ≠ 9) : RB base j (b.put (some t) v) w' := by
  intro e
  obtain ⟨o, e0, e1, e2⟩ := h e
  exact ⟨o, e0, by rw [put_off' h1]; exact e1, rowBelow e2 hb e2.lt⟩
theorem MS.fill {ob gb M : Nat} {W0 w : World} {G N : Int} (ho : w.rowIs ob 24 4 (chtF 0 0 0 (.slice none 0 0))) (hg : w.rowIs gb 3 M (fun _ => .int .i64 0)) (hb : Below W0.heap.size W0 w) (h1 : W0.heap.size ≤ ob) (h2 : W0.heap.size ≤ gb) :
    MS ob gb W0 G N M (List.replicate M 0) ((((w.setCell ⟨ob, 0, none⟩ (.int .i64 G)).setCell ⟨ob, 1, none⟩ (.int .i64 N)).setCell ⟨ob, 2, none⟩ (.int .i64 N)).setCell ⟨ob, 3, none⟩ (.slice (some ⟨gb, 0, none⟩) M M)) := by
  have hne : gb ≠ ob := fun e => row_ne ho hg (by decide) e.symm
  have hg' := (((hg.setOther (a := ⟨ob, 0, none⟩) hne (.int .i64 G)).setOther (a := ⟨ob, 1, none⟩) hne (.int .i64 N)).setOther (a := ⟨ob, 2, none⟩) hne (.int .i64 N)).setOther (a := ⟨ob, 3, none⟩) hne (.slice (some ⟨gb, 0, none⟩) M M)
  have ho' := (((ho.set 0 (.int .i64 G)).set 1 (.int .i64 N)).set 2 (.int .i64 N)).set 3 (.slice (some ⟨gb, 0, none⟩) M M)
  have hb' := (((hb.setCell (p := ⟨ob, 0, none⟩) h1 (.int .i64 G)).setCell (p := ⟨ob, 1, none⟩) h1 (.int .i64 N)).setCell (p := ⟨ob, 2, none⟩) h1 (.int .i64 N)).setCell (p := ⟨ob, 3, none⟩) h1 (.slice (some ⟨gb, 0, none⟩) M M)
  refine ⟨ho'.congr fun i hi => ?_, hg'.congr fun i hi => ?_, by simp, h2, hb'⟩
  · have hi3 : i = 0 ∨ i = 1 ∨ i = 2 ∨ i = 3 := by omega
    rcases hi3 with rfl | rfl | rfl | rfl <;> rfl
  · simp [hi]
theorem OwnI.setLow {w : World} {base n C b i : Nat} {A : Option Addr} {L : List Int} {u : Value} (h : OwnI w base A n C L) (hb : b < base) : OwnI (w.setCell ⟨b, i, none⟩ u) base A n C L := by
  obtain ⟨h1, h0, h2⟩ := h
  refine ⟨h1, h0, ?_⟩
  rcases h2 with h2 | ⟨g, cap, cur, e1, hb2, hc, h3⟩
  · exact .inl h2
  · refine .inr ⟨g, cap, cur, e1, hb2, ?_, h3⟩
    rw [Below.heap_setCell _ _ _ g (fun e2 => by simp only at e2; omega)]
    exact hc
theorem place_To {n k : Nat} {g : Int} {t : Nat} {f : Bool} {o : Z.Pt} (hn : 0 < n) (hk : k < n * n) : place n (Z.add (pnt n ((Z.imageL g n t f).getD k 0)) o) = place n (To g ⟨t, f, o⟩ (pnt n k)) := by
  rw [Z.imageL_get hk, Z.pnt_place hn]
  have h := (Z.eqm_md n (lin g t f (pnt n k))).symm.add (Z.Eqm.refl (n : Int) o)
  have h2 : md n (Z.add (md n (lin g t f (pnt n k))) o) = md n (To g ⟨t, f, o⟩ (pnt n k)) := Z.md_eq h
  have h3 : ∀ z : Z.Pt, place n z = place n (md n z) := fun z => by
    unfold place md
    simp only [Int.emod_emod_of_dvd _ (Int.dvd_refl _)]
  rw [h3, h2, ← h3]
end Go.Proofs.Ytooilennejakhaa
