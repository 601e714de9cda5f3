/- Lemmas and contracts of functions (what each call returns, and that it changes nothing that was there) that the proof of a law of this seat uses; each lemma states its own conditions. -/
import Derived.Test.YtpmecoojhjopcaaCd3
import Derived.Test.YtpmecoojhjopcaaCd4
import Derived.Test.YtpmecoojhjopcaaRegN
namespace Go.Proofs.Ytpmecoojhjopcaa
open Go.RowKit
set_option linter.unusedVariables false
set_option linter.unusedSimpArgs false
set_option maxRecDepth 100000 in
set_option maxHeartbeats 8000000 in
theorem rbad_any (q : Nat) (p : Int) (w : World) (hc : w.cell? ⟨q, 0, none⟩ = some (.int .i64 (p))) (hq : q < w.heap.size) :
    Calls Try.prog 29 #[.pointer (some ⟨q, 0, none⟩)] w fun e w' => e = .returned (.tuple #[.agg #[.int .i64 (0), .int .i64 (0), .slice none 0 0], .agg #[.int .i64 (2), .int .i64 (p)]]) ∧ Below w.heap.size w w' := by
  have HC := Lib.hid hc
  have HQ := Lib.hid hq
  clear hc hq
  go_enter Try.func29, Try.ntmps29
  go_wp2_with fail
  have hb1 : Below w.heap.size w ((w.alloc (.cells #[.int .i64 (0), .int .i64 (0), .slice none 0 0] 24)).alloc (.cells #[.int .i64 (0), .int .i64 (0)] 29)) := (by repeat (first | exact Below.refl _ _ | refine Below.drew ?_ | refine below_drewN ?_ _ | refine Below.alloc ?_ (by first | exact Nat.le_refl _ | (simp; done) | (simp; omega) | omega) _ | refine Below.setCell ?_ (by first | exact Nat.le_refl _ | (simp; done) | (simp; omega) | omega) _ | refine bExtW ?_ (by first | exact Nat.le_refl _ | (simp; done) | (simp; omega) | omega) | refine Below.trans ?_ (Below.mono (by assumption) (by first | exact Nat.le_refl _ | (simp; done) | (simp; omega) | omega))))
  have HRB := Lib.hid (rowBelow (tF_alloc w 0 0 (.slice none 0 0) rfl) (Below.alloc (Below.refl _ _) (Nat.le_refl _) (.cells #[.int .i64 (0), .int .i64 (0)] 29)) (by simp))
  have HFB := Lib.hid (fF_alloc (w.alloc (.cells #[.int .i64 (0), .int .i64 (0), .slice none 0 0] 24)) 0 0)
  have hc1 : ((w.alloc (.cells #[.int .i64 (0), .int .i64 (0), .slice none 0 0] 24)).alloc (.cells #[.int .i64 (0), .int .i64 (0)] 29)).cell? ⟨q, 0, none⟩ = some (.int .i64 (p)) := by
    rw [← HC.out]; exact hb1.cell (p := ⟨q, 0, none⟩) HQ.out
  have hsz : ((w.alloc (.cells #[.int .i64 (0), .int .i64 (0), .slice none 0 0] 24)).alloc (.cells #[.int .i64 (0), .int .i64 (0)] 29)).heap.size = w.heap.size + 2 := by simp
  have hfe : (w.alloc (.cells #[.int .i64 (0), .int .i64 (0), .slice none 0 0] 24)).heap.size = w.heap.size + 1 := by simp
  rw [hfe] at HFB
  generalize ((w.alloc (.cells #[.int .i64 (0), .int .i64 (0), .slice none 0 0] 24)).alloc (.cells #[.int .i64 (0), .int .i64 (0)] 29)) = w8 at *
  obtain ⟨m, hm⟩ : ∃ m, w.heap.size = m := ⟨_, rfl⟩
  rw [hm] at HRB HFB hb1 hsz HQ ⊢
  have hr8 := HRB.out; have hf8 := HFB.out
  have r0 : w8.cell? ⟨m, 0, none⟩ = some (.int .i64 (0)) := hr8.cell (i := 0) (by omega)
  have r1 : w8.cell? ⟨m, 1, none⟩ = some (.int .i64 (0)) := hr8.cell (i := 1) (by omega)
  have r2 : w8.cell? ⟨m, 2, none⟩ = some (.slice none 0 0) := hr8.cell (i := 2) (by omega)
  have f0 := hr8.frozen 0; have f1 := hr8.frozen 1; have f2 := hr8.frozen 2
  have s0 : w8.cell? ⟨m + 1, 0, none⟩ = some (.int .i64 (0)) := hf8.cell (i := 0) (by omega)
  have s1 : w8.cell? ⟨m + 1, 1, none⟩ = some (.int .i64 (0)) := hf8.cell (i := 1) (by omega)
  have g0 := hf8.frozen 0; have g1 := hf8.frozen 1
  have lr : LtW m w8 := hr8.lt
  have lf : LtW (m + 1) w8 := hf8.lt
  have hqm := HQ.out
  have hq1 : q ≠ m := by omega
  have hq2 : q ≠ m + 1 := by omega
  clear hr8 hf8
  go_region
  go_wp2
  refine bodyPost_ret (v := .tuple #[.agg #[.int .i64 (0), .int .i64 (0), .slice none 0 0], .agg #[.int .i64 (2), .int .i64 (p)]]) (by simp [results, Try.results29, go_sem, r0, r1, r2, s0, s1]) rfl ⟨rfl, ?_⟩
  rw [hm]
  exact (((((hb1.setCell (by first | exact Nat.le_refl _ | exact Nat.le_succ _) _).setCell (by first | exact Nat.le_refl _ | exact Nat.le_succ _) _).setCell (by first | exact Nat.le_refl _ | exact Nat.le_succ _) _).setCell (by first | exact Nat.le_refl _ | exact Nat.le_succ _) _).setCell (by first | exact Nat.le_refl _ | exact Nat.le_succ _) _).drew
end Go.Proofs.Ytpmecoojhjopcaa
