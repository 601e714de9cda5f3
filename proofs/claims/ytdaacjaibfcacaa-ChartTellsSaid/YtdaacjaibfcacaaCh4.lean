/- Charts: the list of all signs. -/
import Derived.Test.YtdaacjaibfcacaaCh3
import Derived.Lib.OthersKept
import Derived.Test.YtdaacjaibfcacaaOwnS
namespace Go.Proofs.Ytdaacjaibfcacaa
open Go.RowKit
set_option linter.unusedVariables false
set_option linter.unusedSimpArgs false
set_option maxRecDepth 100000 in
/-- The signs behind the first two, as the text has them. -/
def sigText : ByteArray := { data := ([48, 49, 50, 51, 52, 53, 54, 55, 56, 57, 206, 177, 206, 178, 206, 179, 206, 180, 206, 181, 206, 182, 206, 183, 206, 184, 206, 185, 206, 186, 206, 187, 206, 188, 206, 189, 206, 190, 206, 191, 207, 128].append [207, 129, 207, 131, 207, 132, 207, 133, 207, 134, 207, 135, 207, 136, 207, 137, 97, 98, 99, 100, 101, 102, 103, 104, 105, 106, 107, 108, 109, 110, 111, 112, 113, 114, 115, 116, 117, 118, 119, 120, 121, 122]).toArray }
/-- Where the k-th of them begins. -/
def posK (k : Nat) : Nat := if k ≤ 10 then k else if k ≤ 34 then 2 * k - 10 else k + 24
/-- A sign as bytes. -/
def sigS (c : Nat) : ByteArray := Utf8.encode (signK c)
def sigs (n : Nat) : List Value := (List.range n).map fun c => .string (sigS c)
theorem sigs_succ (n : Nat) : sigs (n + 1) = sigs n ++ [.string (sigS n)] := by unfold sigs; rw [List.range_succ, List.map_append]; rfl
theorem sigs_two : sigs 2 = [Value.string { data := #[194, 183] }, Value.string { data := #[226, 150, 136] }] := by kernel_rfl
set_option maxRecDepth 100000 in
theorem sig_size : sigText.size = 84 := by decide +kernel
set_option maxRecDepth 100000 in
theorem sig_decode : ∀ k : Fin 60, Utf8.decode sigText (posK k) = (signK (k + 2), posK (k + 1) - posK k) := by decide +kernel
theorem pos_lt {k : Nat} (h : k < 60) : posK k < 84 := by unfold posK; split <;> (try split) <;> omega
theorem pos_step {k : Nat} : posK k < posK (k + 1) := by unfold posK; split <;> split <;> (try split) <;> (try split) <;> omega
set_option maxRecDepth 100000 in
theorem sig_at {k : Nat} (h : k < 60) : Utf8.decode sigText (posK k) = (signK (k + 2), posK (k + 1) - posK k) := sig_decode ⟨k, h⟩
set_option maxRecDepth 100000 in
set_option maxHeartbeats 8000000 in
theorem okStrs : ElemOk 105 9 1 16 (.string ⟨#[]⟩) := ⟨rfl, rfl, rfl, by omega⟩
theorem own_iterAt {w : World} {B e size n : Nat} {v : Value} {xs : List Value} {k : Nat} {s : ByteArray} {pos : Nat} (h : w.ownsRow B e size v n xs) (hk : w.heap[k]? = some (.stringIter s pos)) (pos' : Nat) : (w.iterAt k s pos').ownsRow B e size v n xs := by
  refine ⟨h.1, ?_⟩
  rcases h.2 with h0 | ⟨g, cap, cur, hv, hb, hg, rest⟩
  · exact .inl h0
  · refine .inr ⟨g, cap, cur, hv, hb, ?_, rest⟩
    rw [Lib.iterAt_other _ _ _ _ _ (fun e => by subst e; rw [hk] at hg; cases hg)]
    exact hg
theorem own_ne_iter {w : World} {B e size n : Nat} {v : Value} {xs : List Value} {k : Nat} {s : ByteArray} {pos : Nat} (h : w.ownsRow B e size v n xs) (hk : w.heap[k]? = some (.stringIter s pos)) : some k ≠ v.ownBlock := by
  rcases h.2 with ⟨rfl, _⟩ | ⟨g, cap, cur, rfl, hb, hg, rest⟩
  · simp [Value.ownBlock]
  · intro e
    simp only [Value.ownBlock, Option.some.injEq] at e
    subst e
    rw [hk] at hg
    cases hg
theorem iter_grown {w w' : World} {k : Nat} {s : ByteArray} {p : Nat} {g : Option Nat} (h : w.heap[k]? = some (.stringIter s p)) (hg : w.grownBy w' g) (hk : some k ≠ g) : w'.heap[k]? = some (.stringIter s p) := by
  have hlt : k < w.heap.size := (Array.getElem?_eq_some_iff.1 h).1
  rw [hg.block k hlt hk, h]
set_option maxRecDepth 100000 in
set_option maxHeartbeats 8000000 in
theorem Signs_ok (w : World) :
    Calls Try.prog 72 #[] w fun e w' => ∃ A c, e = .returned (.slice (some ⟨A, 0, none⟩) 62 c) ∧ w'.ownsRow w.heap.size 9 1 (.slice (some ⟨A, 0, none⟩) 62 c) 62 (sigs 62) ∧ Below w.heap.size w w' := by
  go_enter Try.func72, Try.ntmps72
  go_wp2
  go_loopw [1] (fun v wr => ∃ (k : Nat), k ≤ 60 ∧ wr.ownsRow w.heap.size 9 1 v (k + 2) (sigs (k + 2)) ∧ wr.heap[w.heap.size + 1]? = some (.stringIter sigText (posK k)) ∧ Below w.heap.size w wr) (fun _ wr => 84 - wr.iterPos (w.heap.size + 1))
  case atStart =>
    refine ⟨0, by omega, ?_, ?_, ?_⟩
    · have hb : Below (w.heap.size + 1) (w.alloc (.cells #[Value.string { data := #[194, 183] }, Value.string { data := #[226, 150, 136] }] 9)) ((w.alloc (.cells #[Value.string { data := #[194, 183] }, Value.string { data := #[226, 150, 136] }] 9)).alloc (.stringIter sigText 0)) := (Below.refl _ _).alloc (by simp) _
      exact own_mk (cur := #[Value.string { data := #[194, 183] }, Value.string { data := #[226, 150, 136] }]) rfl (Nat.le_refl _) (Nat.le_refl _) (by unfold maxLen; omega) ((hb.block _ (by omega)).trans (heap_alloc_new w _)) rfl (by rw [sigs_two]; rfl)
    · have := World.iter_heap (w.alloc (.cells #[Value.string { data := #[194, 183] }, Value.string { data := #[226, 150, 136] }] 9)) sigText 0
      exact (by simpa using this : ((w.alloc (.cells #[Value.string { data := #[194, 183] }, Value.string { data := #[226, 150, 136] }] 9)).iter sigText 0).heap[w.heap.size + 1]? = some (.stringIter sigText 0))
    · exact ((Below.refl _ w).alloc (Nat.le_refl _) _).alloc (by simp) _
  case round =>
    obtain ⟨k, hk, HO, hit, hbw⟩ := hrel
    by_cases hp : k < 60
    · have hnx : ∀ ty, (Instr.next (.pointer (some ⟨w.heap.size + 1, 0, none⟩)) true ty).run Try.prog wr = _ := fun ty => Lib.run_next_any_at wr (w.heap.size + 1) sigText (posK k) ty hit (by rw [sig_size]; exact pos_lt hp)
      rw [sig_at hp] at hnx
      have hst := pos_step (k := k)
      have hpp : posK k + (posK (k + 1) - posK k) = posK (k + 1) := by omega
      simp only [hpp] at hnx
      have hit2 := Lib.iterAt_heap wr (w.heap.size + 1) sigText (posK k) (posK (k + 1)) hit
      have hbw2 := Lib.below_iterAt hbw (k := w.heap.size + 1) (by omega) sigText (posK (k + 1))
      have HO2 := own_iterAt HO hit (posK (k + 1))
      obtain ⟨A, cp, rfl⟩ := own_some HO (by omega)
      have HM := Lib.hid (show wr.iterPos (w.heap.size + 1) = posK k by simp [World.iterPos, hit])
      have hlt : w.heap.size + 1 < wr.heap.size := (Array.getElem?_eq_some_iff.1 hit).1
      have hsz : w.heap.size ≤ (wr.iterAt (w.heap.size + 1) sigText (posK (k + 1))).heap.size := by rw [Lib.iterAt_size]; omega
      have HON := Lib.hid (HO2.alloc (.cells #[Value.string (Utf8.encode (signK (k + 2)))] 9))
      have HIT := Lib.hid hit2
      have HBW := Lib.hid hbw2
      have HNE := Lib.hid (own_ne_iter HO2 hit2)
      clear HO hit hbw hbw2 HO2 hit2
      generalize (wr.iterAt (w.heap.size + 1) sigText (posK (k + 1))) = WI at *
      go_wp2_with (at_builtin; refine wpAppK okStrs rfl (.tmp 9) (.tmp 12) rfl w.heap.size _ _ _ (.string (Utf8.encode (signK (k + 2)))) WI.heap.size rfl HON.out rfl ?_ rfl (by omega) (by omega) ?_ ?_)
      · exact World.cell?_alloc_new _ _ _ _
      · simp; omega
      intro v' w2 hown hg _
      have hb2 : Below w.heap.size WI w2 := ((Below.refl w.heap.size WI).alloc hsz _).trans (belowGrown hg (by simp; omega) fun g hk' => (HON.out.lt g hk').1)
      have hit3 : w2.heap[w.heap.size + 1]? = some (.stringIter sigText (posK (k + 1))) := by
        refine iter_grown (w := WI.alloc (.cells #[Value.string (Utf8.encode (signK (k + 2)))] 9)) ?_ hg HNE.out
        have hlt2 : w.heap.size + 1 < WI.heap.size := (Array.getElem?_eq_some_iff.1 HIT.out).1
        exact (((Below.refl (w.heap.size + 2) WI).alloc (by omega) (.cells #[Value.string (Utf8.encode (signK (k + 2)))] 9)).block _ (by omega)).trans HIT.out
      have hbw3 := HBW.out.trans hb2
      clear hb2 hg HNE HBW HIT HON
      go_wp2
      go_roundw
      case rel => exact ⟨k + 1, by omega, by rw [sigs_succ]; exact hown, hit3, hbw3⟩
      case measure =>
        have e2 : w2.iterPos (w.heap.size + 1) = posK (k + 1) := by simp [World.iterPos, hit3]
        have := pos_lt hp
        rw [e2, HM.out]
        omega
    · have hnx : ∀ ty, (Instr.next (.pointer (some ⟨w.heap.size + 1, 0, none⟩)) true ty).run Try.prog wr = _ := fun ty => Lib.run_next_end_at wr (w.heap.size + 1) sigText (posK k) ty hit (by rw [sig_size]; unfold posK; split <;> (try split) <;> omega)
      obtain rfl : k = 60 := by omega
      obtain ⟨A, cp, rfl⟩ := own_some HO (by omega)
      go_wp2
      go_ret
      exact ⟨A, cp, rfl, HO, hbw⟩
end Go.Proofs.Ytdaacjaibfcacaa
