/- Lemmas and contracts of functions (what each call returns, and that it changes nothing that was there) that the proof of a law of this seat uses; each lemma states its own conditions. -/
import Derived.Test.YtdaacjaibfcacaaEf3
import Derived.Lib.AppendZeros
namespace Go.Proofs.Ytdaacjaibfcacaa
open Go.RowKit
set_option linter.unusedVariables false
set_option linter.unusedSimpArgs false
/-- slices.Grow of nil. -/
def GrowPost (w : World) (r : Ending) (w' : World) : Prop := ∃ C, r = .returned (.slice (some ⟨w.heap.size, 0, none⟩) 0 C) ∧ w'.ownsRow w.heap.size 3 1 (.slice (some ⟨w.heap.size, 0, none⟩) 0 C) 0 [] ∧ Below w.heap.size w w'
theorem own_zeros (w : World) (n : Nat) (hn : n ≤ 1000) : (w.drew.alloc (.cells (Builtin.zeroCells (Value.cells (.int .i64 0)) n ++ Builtin.zeroCells (Value.cells (.int .i64 0)) (grownCap w n 0 3 - n)) 3)).ownsRow w.heap.size 3 1 (.slice (some ⟨w.heap.size, 0, none⟩) 0 (grownCap w n 0 3)) 0 [] := by
  have hge := grownCap_ge w n 0 3
  have hcm := grownCap_le_maxLen w n 0 3 (by unfold maxLen; omega)
  refine own_mk rfl (Nat.le_refl _) (Nat.zero_le _) hcm (heap_alloc_new w.drew _) ?_ rfl
  rw [Array.size_append, size_zeroCells, size_zeroCells]
  show n * 1 + (grownCap w n 0 3 - n) * 1 = _
  omega
theorem slice_nil0 : ∀ w, (Instr.slice 34 (.slice none 0 0) none (some (.int .i64 (0))) none).run Try.prog w = .ok (.slice none 0 0) w := by
  intro w
  rw [run_slice_h (P := Try.prog) w 34 none 0 0 (by kernel_rfl) .i64 0 (by omega) (by omega)]
  have hsz : (sizeOf (Try.prog.elem 34)).run Try.prog w = .ok 1 w := by go_simp
  rw [hsz]
  rfl
theorem slice_to0 (g n c : Nat) : ∀ w, (Instr.slice 34 (.slice (some ⟨g, 0, none⟩) n c) none (some (.int .i64 (0))) none).run Try.prog w = .ok (.slice (some ⟨g, 0, none⟩) 0 c) w := by
  intro w
  rw [run_slice_h (P := Try.prog) w 34 (some ⟨g, 0, none⟩) n c (by kernel_rfl) .i64 0 (by omega) (by omega)]
  have hsz : (sizeOf (Try.prog.elem 34)).run Try.prog w = .ok 1 w := by go_simp
  rw [hsz]
  simp [Result.andThen, sliced, Addr.add_lit]
end Go.Proofs.Ytdaacjaibfcacaa
