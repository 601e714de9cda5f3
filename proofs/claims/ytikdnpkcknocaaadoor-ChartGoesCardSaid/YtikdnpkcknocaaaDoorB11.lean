/- Lemmas and contracts of functions (what each call returns, and that it changes nothing that was there) that the proof of a law of this seat uses; each lemma states its own conditions. -/
import Derived.Test.YtikdnpkcknocaaaDoorB10
import Derived.Lib.OthersKept
import Derived.Test.YtikdnpkcknocaaaDoorB08
import Derived.Lib.DecodeN
namespace Go.Proofs.YtikdnpkcknocaaaDoor
open Go.RowKit
set_option linter.unusedVariables false
set_option linter.unusedSimpArgs false
set_option maxRecDepth 100000 in
/-- The signs behind the first two, as the text has them. -/
def sigText : ByteArray := { data := ([48, 49, 50, 51, 52, 53, 54, 55, 56, 57, 206, 177, 206, 178, 206, 179, 206, 180, 206, 181, 206, 182, 206, 183, 206, 184, 206, 185, 206, 186, 206, 187, 206, 188, 206, 189, 206, 190, 206, 191, 207, 128].append [207, 129, 207, 131, 207, 132, 207, 133, 207, 134, 207, 135, 207, 136, 207, 137, 97, 98, 99, 100, 101, 102, 103, 104, 105, 106, 107, 108, 109, 110, 111, 112, 113, 114, 115, 116, 117, 118, 119, 120, 121, 122]).toArray }
/-- Where the k-th of them begins. -/
def posK (k : Nat) : Nat := if k ≤ 10 then k else if k ≤ 34 then 2 * k - 10 else k + 24
/-- A sign as bytes. -/
def sigS (c : Nat) : ByteArray := Utf8.encode (signK c)
def sigs (n : Nat) : List Value := (List.range n).map fun c => .string (sigS c)
theorem sigs_succ (n : Nat) : sigs (n + 1) = sigs n ++ [.string (sigS n)] := by unfold sigs; rw [List.range_succ, List.map_append]; rfl
theorem sigs_two : sigs 2 = [Value.string { data := #[194, 183] }, Value.string { data := #[226, 150, 136] }] := by kernel_rfl
set_option maxRecDepth 100000 in
theorem sig_size : sigText.size = 84 := by decide +kernel
set_option maxRecDepth 100000 in
theorem sig_decode : ∀ k : Fin 60, Utf8.decode sigText (posK k) = (signK (k + 2), posK (k + 1) - posK k) := by decide +kernel
theorem pos_lt {k : Nat} (h : k < 60) : posK k < 84 := by unfold posK; split <;> (try split) <;> omega
theorem pos_step {k : Nat} : posK k < posK (k + 1) := by unfold posK; split <;> split <;> (try split) <;> (try split) <;> omega
set_option maxRecDepth 100000 in
theorem sig_at {k : Nat} (h : k < 60) : Utf8.decode sigText (posK k) = (signK (k + 2), posK (k + 1) - posK k) := sig_decode ⟨k, h⟩
set_option maxRecDepth 100000 in
set_option maxHeartbeats 8000000 in
theorem okStrs : ElemOk 44 9 1 16 (.string ⟨#[]⟩) := ⟨rfl, rfl, rfl, by omega⟩
theorem own_iterAt {w : World} {B e size n : Nat} {v : Value} {xs : List Value} {k : Nat} {s : ByteArray} {pos : Nat} (h : w.ownsRow B e size v n xs) (hk : w.heap[k]? = some (.stringIter s pos)) (pos' : Nat) : (w.iterAt k s pos').ownsRow B e size v n xs := by
  refine ⟨h.1, ?_⟩
  rcases h.2 with h0 | ⟨g, cap, cur, hv, hb, hg, rest⟩
  · exact .inl h0
  · refine .inr ⟨g, cap, cur, hv, hb, ?_, rest⟩
    rw [Lib.iterAt_other _ _ _ _ _ (fun e => by subst e; rw [hk] at hg; cases hg)]
    exact hg
theorem own_ne_iter {w : World} {B e size n : Nat} {v : Value} {xs : List Value} {k : Nat} {s : ByteArray} {pos : Nat} (h : w.ownsRow B e size v n xs) (hk : w.heap[k]? = some (.stringIter s pos)) : some k ≠ v.ownBlock := by
  rcases h.2 with ⟨rfl, _⟩ | ⟨g, cap, cur, rfl, hb, hg, rest⟩
  · simp [Value.ownBlock]
  · intro e
    simp only [Value.ownBlock, Option.some.injEq] at e
    subst e
    rw [hk] at hg
    cases hg
theorem iter_grown {w w' : World} {k : Nat} {s : ByteArray} {p : Nat} {g : Option Nat} (h : w.heap[k]? = some (.stringIter s p)) (hg : w.grownBy w' g) (hk : some k ≠ g) : w'.heap[k]? = some (.stringIter s p) := by
  have hlt : k < w.heap.size := (Array.getElem?_eq_some_iff.1 h).1
  rw [hg.block k hlt hk, h]
set_option maxRecDepth 100000 in
set_option maxHeartbeats 8000000 in
theorem Signs_ok (w : World) :
    Calls Tryd.prog 17 #[] w fun e w' => ∃ A c, e = .returned (.slice (some ⟨A, 0, none⟩) 62 c) ∧ w'.ownsRow w.heap.size 9 1 (.slice (some ⟨A, 0, none⟩) 62 c) 62 (sigs 62) ∧ Below w.heap.size w w' := by
  go_enter Tryd.func17, Tryd.ntmps17
  go_wp2
  go_loopw [1] (fun v wr => ∃ (k : Nat), k ≤ 60 ∧ wr.ownsRow w.heap.size 9 1 v (k + 2) (sigs (k + 2)) ∧ wr.heap[w.heap.size + 1]? = some (.stringIter sigText (posK k)) ∧ Below w.heap.size w wr) (fun _ wr => 84 - wr.iterPos (w.heap.size + 1))
  case atStart =>
    refine ⟨0, by omega, ?_, ?_, ?_⟩
    · have hb : Below (w.heap.size + 1) (w.alloc (.cells #[Value.string { data := #[194, 183] }, Value.string { data := #[226, 150, 136] }] 9)) ((w.alloc (.cells #[Value.string { data := #[194, 183] }, Value.string { data := #[226, 150, 136] }] 9)).alloc (.stringIter sigText 0)) := (Below.refl _ _).alloc (by simp) _
      exact own_mk (cur := #[Value.string { data := #[194, 183] }, Value.string { data := #[226, 150, 136] }]) rfl (Nat.le_refl _) (Nat.le_refl _) (by unfold maxLen; omega) ((hb.block _ (by omega)).trans (heap_alloc_new w _)) rfl (by rw [sigs_two]; rfl)
    · have := World.iter_heap (w.alloc (.cells #[Value.string { data := #[194, 183] }, Value.string { data := #[226, 150, 136] }] 9)) sigText 0
      exact (by simpa using this : ((w.alloc (.cells #[Value.string { data := #[194, 183] }, Value.string { data := #[226, 150, 136] }] 9)).iter sigText 0).heap[w.heap.size + 1]? = some (.stringIter sigText 0))
    · exact ((Below.refl _ w).alloc (Nat.le_refl _) _).alloc (by simp) _
  case round =>
    obtain ⟨k, hk, HO, hit, hbw⟩ := hrel
    by_cases hp : k < 60
    · have hnx : ∀ ty, (Instr.next (.pointer (some ⟨w.heap.size + 1, 0, none⟩)) true ty).run Tryd.prog wr = _ := fun ty => Lib.run_next_any_at wr (w.heap.size + 1) sigText (posK k) ty hit (by rw [sig_size]; exact pos_lt hp)
      rw [sig_at hp] at hnx
      have hst := pos_step (k := k)
      have hpp : posK k + (posK (k + 1) - posK k) = posK (k + 1) := by omega
      simp only [hpp] at hnx
      have hit2 := Lib.iterAt_heap wr (w.heap.size + 1) sigText (posK k) (posK (k + 1)) hit
      have hbw2 := Lib.below_iterAt hbw (k := w.heap.size + 1) (by omega) sigText (posK (k + 1))
      have HO2 := own_iterAt HO hit (posK (k + 1))
      obtain ⟨A, cp, rfl⟩ := own_some HO (by omega)
      have HM := Lib.hid (show wr.iterPos (w.heap.size + 1) = posK k by simp [World.iterPos, hit])
      have hlt : w.heap.size + 1 < wr.heap.size := (Array.getElem?_eq_some_iff.1 hit).1
      have hsz : w.heap.size ≤ (wr.iterAt (w.heap.size + 1) sigText (posK (k + 1))).heap.size := by rw [Lib.iterAt_size]; omega
      have HON := Lib.hid (HO2.alloc (.cells #[Value.string (Utf8.encode (signK (k + 2)))] 9))
      have HIT := Lib.hid hit2
      have HBW := Lib.hid hbw2
      have HNE := Lib.hid (own_ne_iter HO2 hit2)
      clear HO hit hbw hbw2 HO2 hit2
      generalize (wr.iterAt (w.heap.size + 1) sigText (posK (k + 1))) = WI at *
      go_wp2_with (at_builtin; refine wpAppK okStrs rfl (.tmp 9) (.tmp 12) rfl w.heap.size _ _ _ (.string (Utf8.encode (signK (k + 2)))) WI.heap.size rfl HON.out rfl ?_ rfl (by omega) (by omega) ?_ ?_)
      · exact World.cell?_alloc_new _ _ _ _
      · simp; omega
      intro v' w2 hown hg _
      have hb2 : Below w.heap.size WI w2 := ((Below.refl w.heap.size WI).alloc hsz _).trans (belowGrown hg (by simp; omega) fun g hk' => (HON.out.lt g hk').1)
      have hit3 : w2.heap[w.heap.size + 1]? = some (.stringIter sigText (posK (k + 1))) := by
        refine iter_grown (w := WI.alloc (.cells #[Value.string (Utf8.encode (signK (k + 2)))] 9)) ?_ hg HNE.out
        have hlt2 : w.heap.size + 1 < WI.heap.size := (Array.getElem?_eq_some_iff.1 HIT.out).1
        exact (((Below.refl (w.heap.size + 2) WI).alloc (by omega) (.cells #[Value.string (Utf8.encode (signK (k + 2)))] 9)).block _ (by omega)).trans HIT.out
      have hbw3 := HBW.out.trans hb2
      clear hb2 hg HNE HBW HIT HON
      go_wp2
      go_roundw
      case rel => exact ⟨k + 1, by omega, by rw [sigs_succ]; exact hown, hit3, hbw3⟩
      case measure =>
        have e2 : w2.iterPos (w.heap.size + 1) = posK (k + 1) := by simp [World.iterPos, hit3]
        have := pos_lt hp
        rw [e2, HM.out]
        omega
    · have hnx : ∀ ty, (Instr.next (.pointer (some ⟨w.heap.size + 1, 0, none⟩)) true ty).run Tryd.prog wr = _ := fun ty => Lib.run_next_end_at wr (w.heap.size + 1) sigText (posK k) ty hit (by rw [sig_size]; unfold posK; split <;> (try split) <;> omega)
      obtain rfl : k = 60 := by omega
      obtain ⟨A, cp, rfl⟩ := own_some HO (by omega)
      go_wp2
      go_ret
      exact ⟨A, cp, rfl, HO, hbw⟩
end Go.Proofs.YtikdnpkcknocaaaDoor

namespace Go.Proofs.YtikdnpkcknocaaaDoor
open Go.RowKit
set_option linter.unusedVariables false
set_option linter.unusedSimpArgs false
namespace By
/-- The bytes of a string. -/
def bytesOf (s : ByteArray) : List Nat := s.data.toList.map UInt8.toNat
theorem bytesOf_len (s : ByteArray) : (bytesOf s).length = s.size := by
  unfold bytesOf ByteArray.size
  rw [List.length_map, Array.length_toList]
theorem bytesOf_lt (s : ByteArray) : ∀ x ∈ bytesOf s, x < 256 := by
  intro x hx
  simp only [bytesOf, List.mem_map] at hx
  obtain ⟨y, _, rfl⟩ := hx
  exact y.toNat_lt
theorem bytesOf_inj {s t : ByteArray} (h : bytesOf s = bytesOf t) : s = t := by
  unfold bytesOf at h
  have h1 : s.data.toList = t.data.toList := by
    apply List.ext_getElem?
    intro i
    have h2 := congrArg (fun l : List Nat => l[i]?) h
    simp only [List.getElem?_map] at h2
    cases e1 : s.data.toList[i]? with
    | none => cases e2 : t.data.toList[i]? with
      | none => rfl
      | some y => rw [e1, e2] at h2; cases h2
    | some x => cases e2 : t.data.toList[i]? with
      | none => rw [e1, e2] at h2; cases h2
      | some y =>
        rw [e1, e2] at h2
        simp only [Option.map_some, Option.some.injEq] at h2
        rw [UInt8.toNat_inj.1 h2]
  cases s; cases t
  congr 1
  exact Array.ext' h1
theorem bytesOf_extract (s : ByteArray) (a n : Nat) (h : a + n ≤ s.size) : bytesOf (s.extract a (a + n)) = ((bytesOf s).drop a).take n := by
  unfold bytesOf
  rw [ByteArray.data_extract, Array.toList_extract, ← List.map_drop, ← List.map_take]
  congr 1
  simp [List.extract, Nat.add_sub_cancel_left]
theorem bytesOf_get! (s : ByteArray) (k : Nat) : (s.get! k).toNat = (bytesOf s).getD k 0 := by
  by_cases h : k < s.size
  · have hk : k < s.data.toList.length := by rw [Array.length_toList]; exact h
    have hk2 : k < s.data.size := h
    unfold bytesOf
    rw [List.getD_eq_getElem?_getD, List.getElem?_map, List.getElem?_eq_getElem hk]
    show (s.data[k]!).toNat = _
    rw [getElem!_pos s.data k hk2]
    rfl
  · have hk : ¬ k < s.data.toList.length := by rw [Array.length_toList]; exact h
    have hk2 : ¬ k < s.data.size := h
    unfold bytesOf
    rw [List.getD_eq_getElem?_getD, List.getElem?_map, List.getElem?_eq_none (by omega)]
    show (s.data[k]!).toNat = _
    rw [getElem!_neg s.data k hk2]
    rfl
/-- A rune as bytes (up to three). -/
def encN (r : Nat) : List Nat := if r < 128 then [r] else if r < 2048 then [192 + r / 64, 128 + r % 64] else [224 + r / 4096, 128 + r / 64 % 64, 128 + r % 64]
/-- The sign of a colour. -/
def sgL (k : Nat) : List Nat := encN (signK k)
theorem sigS_L : ∀ k : Fin 62, bytesOf (sigS k) = sgL k := by decide +kernel
theorem encN_len (r : Nat) : 1 ≤ (encN r).length ∧ (encN r).length ≤ 3 := by unfold encN; split <;> (try split) <;> simp
/-- The rune that stands at a place, and how many bytes it has. -/
def decL (B : List Nat) (i : Nat) : Nat × Nat := Go.Lib.decodeN (B.length - i) (B.getD i 0) (B.getD (i + 1) 0) (B.getD (i + 2) 0) (B.getD (i + 3) 0)
theorem dec_L (s : ByteArray) (i : Nat) : Utf8.decode s i = decL (bytesOf s) i := by
  rw [Go.Lib.decode_at]
  unfold decL
  rw [bytesOf_len, bytesOf_get!, bytesOf_get!, bytesOf_get!, bytesOf_get!]
/-- These bytes stand at a place. -/
def hasAt (B : List Nat) (i : Nat) (l : List Nat) : Prop := (B.drop i).take l.length = l
instance (B : List Nat) (i : Nat) (l : List Nat) : Decidable (hasAt B i l) := by unfold hasAt; infer_instance
theorem hasAt_iff {B : List Nat} {i : Nat} {l : List Nat} : hasAt B i l ↔ (l = [] ∨ i + l.length ≤ B.length) ∧ ∀ j, j < l.length → B.getD (i + j) 0 = l.getD j 0 := by
  unfold hasAt
  constructor
  · intro h
    have hl := congrArg List.length h
    rw [List.length_take, List.length_drop] at hl
    refine ⟨?_, fun j hj => ?_⟩
    · cases l with
      | nil => exact .inl rfl
      | cons x l => right; have h4 : 0 < (x :: l).length := Nat.succ_pos _; omega
    · have h2 : ((B.drop i).take l.length).getD j 0 = l.getD j 0 := by rw [h]
      rw [← h2, List.getD_eq_getElem?_getD, List.getD_eq_getElem?_getD, List.getElem?_take, if_pos hj, List.getElem?_drop]
  · rintro ⟨h1, h2⟩
    rcases h1 with rfl | h1
    · simp
    · apply List.ext_getElem?
      intro j
      rw [List.getElem?_take]
      by_cases hj : j < l.length
      · rw [if_pos hj, List.getElem?_drop]
        have h3 := h2 j hj
        rw [List.getD_eq_getElem?_getD, List.getD_eq_getElem?_getD, List.getElem?_eq_getElem (by omega), List.getElem?_eq_getElem hj] at h3
        rw [List.getElem?_eq_getElem (by omega), List.getElem?_eq_getElem hj]
        exact congrArg some h3
      · rw [if_neg hj, List.getElem?_eq_none (by omega)]
theorem getD_lt {B : List Nat} (hB : ∀ x ∈ B, x < 256) (i : Nat) : B.getD i 0 < 256 := by
  rw [List.getD_eq_getElem?_getD]
  cases h : B[i]? with
  | none => simp
  | some x => exact hB x (List.mem_of_getElem? h)
set_option maxHeartbeats 4000000 in
theorem decN_iff {n b0 b1 b2 b3 r : Nat} (h0 : b0 < 256) (h1 : b1 < 256) (h2 : b2 < 256) (h3 : b3 < 256) (hr : r < 55296) :
    ((Go.Lib.decodeN n b0 b1 b2 b3).1 = r ↔ if r < 128 then b0 = r else if r < 2048 then 1 < n ∧ b0 = 192 + r / 64 ∧ b1 = 128 + r % 64 else 2 < n ∧ b0 = 224 + r / 4096 ∧ b1 = 128 + r / 64 % 64 ∧ b2 = 128 + r % 64) := by
  unfold Go.Lib.decodeN
  repeat' split
  all_goals first | omega | (simp only; omega) | (simp only; done)
set_option maxHeartbeats 4000000 in
theorem decN_len {n b0 b1 b2 b3 r : Nat} (h0 : b0 < 256) (h1 : b1 < 256) (h2 : b2 < 256) (h3 : b3 < 256) (hr : r < 55296) (h : (Go.Lib.decodeN n b0 b1 b2 b3).1 = r) :
    (Go.Lib.decodeN n b0 b1 b2 b3).2 = if r < 128 then 1 else if r < 2048 then 2 else 3 := by
  have m1 := Nat.mod_lt b0 (show 0 < 32 by omega)
  have m2 := Nat.mod_lt b0 (show 0 < 16 by omega)
  have m4 := Nat.mod_lt b1 (show 0 < 64 by omega)
  have m5 := Nat.mod_lt b2 (show 0 < 64 by omega)
  revert h
  unfold Go.Lib.decodeN
  generalize b0 % 32 = x1 at *
  generalize b0 % 16 = x2 at *
  generalize b1 % 64 = x4 at *
  generalize b2 % 64 = x5 at *
  repeat' split
  all_goals first | omega | (simp only; omega) | (simp only; done)
theorem enc_iff {B : List Nat} {i r : Nat} : hasAt B i (encN r) ↔ i < B.length ∧ (if r < 128 then B.getD i 0 = r else if r < 2048 then 1 < B.length - i ∧ B.getD i 0 = 192 + r / 64 ∧ B.getD (i + 1) 0 = 128 + r % 64 else 2 < B.length - i ∧ B.getD i 0 = 224 + r / 4096 ∧ B.getD (i + 1) 0 = 128 + r / 64 % 64 ∧ B.getD (i + 2) 0 = 128 + r % 64) := by
  rw [hasAt_iff]
  unfold encN
  split
  · constructor
    · rintro ⟨h1, h2⟩
      have := h2 0 (by simp)
      simp at h1 this
      exact ⟨by omega, this⟩
    · rintro ⟨h1, h2⟩
      refine ⟨.inr (by simp; omega), fun j hj => ?_⟩
      simp at hj
      subst hj
      exact h2
  · split
    · constructor
      · rintro ⟨h1, h2⟩
        have a0 := h2 0 (by simp)
        have a1 := h2 1 (by simp)
        simp at h1 a0 a1
        exact ⟨by omega, by omega, a0, a1⟩
      · rintro ⟨h1, h2, h3, h4⟩
        refine ⟨.inr (by simp; omega), fun j hj => ?_⟩
        simp at hj
        have : j = 0 ∨ j = 1 := by omega
        rcases this with rfl | rfl
        · exact h3
        · exact h4
    · constructor
      · rintro ⟨h1, h2⟩
        have a0 := h2 0 (by simp)
        have a1 := h2 1 (by simp)
        have a2 := h2 2 (by simp)
        simp at h1 a0 a1 a2
        exact ⟨by omega, by omega, a0, a1, a2⟩
      · rintro ⟨h1, h2, h3, h4, h5⟩
        refine ⟨.inr (by simp; omega), fun j hj => ?_⟩
        simp at hj
        have : j = 0 ∨ j = 1 ∨ j = 2 := by omega
        rcases this with rfl | rfl | rfl
        · exact h3
        · exact h4
        · exact h5
/-- A sign stands at a place just if its rune is read there. -/
theorem has_dec {B : List Nat} (hB : ∀ x ∈ B, x < 256) {i r : Nat} (hr : r < 55296) : hasAt B i (encN r) ↔ i < B.length ∧ (decL B i).1 = r := by
  rw [enc_iff]
  unfold decL
  rw [decN_iff (getD_lt hB _) (getD_lt hB _) (getD_lt hB _) (getD_lt hB _) hr]
theorem dec_len {B : List Nat} (hB : ∀ x ∈ B, x < 256) {i r : Nat} (hr : r < 55296) (h : (decL B i).1 = r) : (decL B i).2 = (encN r).length := by
  unfold decL at h ⊢
  rw [decN_len (getD_lt hB _) (getD_lt hB _) (getD_lt hB _) (getD_lt hB _) hr h]
  unfold encN
  split <;> (try split) <;> rfl
theorem sign_lt' : ∀ c : Fin 62, signK c < 55296 ∧ signK c ≠ 10 := by decide +kernel
theorem sign_inj : ∀ a b : Fin 62, signK a = signK b → a = b := by decide +kernel
/-- The colour whose sign stands at a place. -/
def colAt (B : List Nat) (i : Nat) : Option Nat := (List.range 62).find? fun k => decide (hasAt B i (sgL k))
theorem colAt_some {B : List Nat} (hB : ∀ x ∈ B, x < 256) {i k : Nat} : colAt B i = some k ↔ k < 62 ∧ hasAt B i (sgL k) := by
  unfold colAt
  constructor
  · intro h
    have h1 := List.find?_some h
    have h2 := List.mem_of_find?_eq_some h
    exact ⟨List.mem_range.1 h2, of_decide_eq_true h1⟩
  · rintro ⟨hk, h⟩
    cases hc : (List.range 62).find? fun k => decide (hasAt B i (sgL k)) with
    | none =>
      have := List.find?_eq_none.1 hc k (List.mem_range.2 hk)
      simp [h] at this
    | some j =>
      have h1' := List.find?_some hc
      have h1 := of_decide_eq_true h1'
      have h2 := List.mem_range.1 (List.mem_of_find?_eq_some hc)
      have e1 := ((has_dec hB (sign_lt' ⟨j, h2⟩).1).1 h1).2
      have e2 := ((has_dec hB (sign_lt' ⟨k, hk⟩).1).1 h).2
      have := sign_inj ⟨j, h2⟩ ⟨k, hk⟩ (e1.symm.trans e2)
      simp only [Fin.mk.injEq] at this
      rw [this]
theorem colAt_none {B : List Nat} {i : Nat} : colAt B i = none ↔ ∀ k, k < 62 → ¬ hasAt B i (sgL k) := by
  unfold colAt
  rw [List.find?_eq_none]
  exact ⟨fun h k hk => by simpa using h k (List.mem_range.2 hk), fun h k hk => by simpa using h k (List.mem_range.1 hk)⟩
end By
end Go.Proofs.YtikdnpkcknocaaaDoor

namespace Go.Proofs.YtikdnpkcknocaaaDoor
open Go.RowKit
set_option linter.unusedVariables false
set_option linter.unusedSimpArgs false
namespace By
theorem hasAt_app {B l l' : List Nat} {i : Nat} (h : hasAt B i l) (h' : hasAt B (i + l.length) l') : hasAt B i (l ++ l') := by
  unfold hasAt at *
  have e : B.drop (i + l.length) = (B.drop i).drop l.length := by rw [List.drop_drop]
  rw [e] at h'
  rw [List.length_append, List.take_add, h, h']
theorem hasAt_left {B l l' : List Nat} {i : Nat} (h : hasAt B i (l ++ l')) : hasAt B i l := by
  unfold hasAt at *
  have h2 := congrArg (List.take l.length) h
  rw [List.take_take, Nat.min_eq_left (by rw [List.length_append]; omega), List.take_left'] at h2
  · exact h2
  · rfl
theorem hasAt_right {B l l' : List Nat} {i : Nat} (h : hasAt B i (l ++ l')) : hasAt B (i + l.length) l' := by
  unfold hasAt at *
  have h2 := congrArg (List.drop l.length) h
  rw [List.drop_take, List.drop_drop, List.length_append, Nat.add_sub_cancel_left, List.drop_left'] at h2
  · exact h2
  · rfl
theorem hasAt_nil (B : List Nat) (i : Nat) : hasAt B i [] := by unfold hasAt; simp
theorem hasAt_one {B : List Nat} {i x : Nat} : hasAt B i [x] ↔ i < B.length ∧ B.getD i 0 = x := by
  rw [hasAt_iff]
  constructor
  · rintro ⟨h1, h2⟩
    have := h2 0 (by simp)
    simp at h1 this
    exact ⟨by omega, this⟩
  · rintro ⟨h1, h2⟩
    refine ⟨.inr (by simp; omega), fun j hj => ?_⟩
    simp at hj
    subst hj
    exact h2
theorem hasAt_bd {B l : List Nat} {i : Nat} (h : hasAt B i l) (hl : l ≠ []) : i + l.length ≤ B.length := by
  rcases (hasAt_iff.1 h).1 with h1 | h1
  · exact absurd h1 hl
  · exact h1
theorem sgL_len (k : Nat) : 1 ≤ (sgL k).length ∧ (sgL k).length ≤ 3 := encN_len _
theorem sgL_ne (k : Nat) : sgL k ≠ [] := fun e => by have := (sgL_len k).1; rw [e] at this; simp at this
/-- A colour and a line feed do not stand at one place. -/
theorem col_nl {B : List Nat} (hB : ∀ x ∈ B, x < 256) {i : Nat} (h : hasAt B i [10]) : colAt B i = none := by
  rw [colAt_none]
  intro k hk h2
  have e1 : encN 10 = [10] := rfl
  rw [← e1] at h
  have a := ((has_dec hB (by omega)).1 h).2
  have b := ((has_dec hB (sign_lt' ⟨k, hk⟩).1).1 h2).2
  exact (sign_lt' ⟨k, hk⟩).2 (b.symm.trans a)
/-- A row that is read: where it is no row; or its colours, and where it ends. -/
inductive RowR where
  | bad (at_ : Nat)
  | ok (row : List Nat) (at_ : Nat)
def rowF (B : List Nat) : Nat → Nat → List Nat → RowR
  | 0, i, _ => .bad i
  | f + 1, i, row => if row ≠ [] ∧ hasAt B i [10] then .ok row (i + 1) else
      match colAt B i with
      | none => .bad i
      | some k => rowF B f (i + (sgL k).length) (row ++ [k])
/-- A row as bytes. -/
def rowL (row : List Nat) : List Nat := (row.map sgL).flatten
theorem rowL_snoc (row : List Nat) (k : Nat) : rowL (row ++ [k]) = rowL row ++ sgL k := by unfold rowL; simp
theorem rowL_cons (k : Nat) (row : List Nat) : rowL (k :: row) = sgL k ++ rowL row := by unfold rowL; simp
theorem rowF_ok {B : List Nat} (hB : ∀ x ∈ B, x < 256) : ∀ (f i : Nat) (row r : List Nat) (p : Nat), rowF B f i row = .ok r p → (∀ k ∈ row, k < 62) → ∃ t, r = row ++ t ∧ r ≠ [] ∧ (∀ k ∈ r, k < 62) ∧ hasAt B i (rowL t ++ [10]) ∧ p = i + (rowL t).length + 1
  | 0, i, row, r, p, h, _ => by simp [rowF] at h
  | f + 1, i, row, r, p, h, hr => by
    unfold rowF at h
    split at h
    · rename_i h1
      injection h with e1 e2
      subst e1 e2
      exact ⟨[], by simp, h1.1, hr, by simpa [rowL] using h1.2, by simp [rowL]⟩
    · split at h
      · cases h
      · rename_i k hk
        have hk2 := (colAt_some hB).1 hk
        obtain ⟨t, e1, e2, e3, e4, e5⟩ := rowF_ok hB f _ _ r p h (fun x hx => by
          rcases List.mem_append.1 hx with hx | hx
          · exact hr x hx
          · rw [List.mem_singleton.1 hx]; exact hk2.1)
        refine ⟨k :: t, by rw [e1]; simp, e2, e3, ?_, ?_⟩
        · rw [rowL_cons, List.append_assoc]; exact hasAt_app hk2.2 e4
        · rw [rowL_cons, List.length_append, e5]; omega
theorem rowF_read {B : List Nat} (hB : ∀ x ∈ B, x < 256) : ∀ (f i : Nat) (row t : List Nat), (row ++ t) ≠ [] → (∀ k ∈ t, k < 62) → hasAt B i (rowL t ++ [10]) → t.length < f → rowF B f i row = .ok (row ++ t) (i + (rowL t).length + 1)
  | 0, i, row, t, _, _, _, h => absurd h (by omega)
  | f + 1, i, row, [], hne, _, h, _ => by
    have h1 : hasAt B i [10] := by simpa [rowL] using h
    unfold rowF
    rw [if_pos ⟨by simpa using hne, h1⟩]
    simp [rowL]
  | f + 1, i, row, k :: t, hne, ht, h, hf => by
    rw [rowL_cons, List.append_assoc] at h
    have h1 := hasAt_left h
    have h2 := hasAt_right h
    have hk : k < 62 := ht k (List.mem_cons_self ..)
    have hc : colAt B i = some k := (colAt_some hB).2 ⟨hk, h1⟩
    unfold rowF
    rw [if_neg (fun h3 => by rw [col_nl hB h3.2] at hc; cases hc)]
    simp only [hc]
    rw [rowF_read hB f _ (row ++ [k]) t (by simp) (fun x hx => ht x (List.mem_cons_of_mem _ hx)) h2 (by simp at hf; omega)]
    rw [rowL_cons, List.length_append, List.append_assoc]
    simp only [List.singleton_append]
    congr 1
    omega
end By
end Go.Proofs.YtikdnpkcknocaaaDoor
