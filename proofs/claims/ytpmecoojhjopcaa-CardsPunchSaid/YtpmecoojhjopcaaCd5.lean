/- Lemmas and contracts of functions (what each call returns, and that it changes nothing that was there) that the proof of a law of this seat uses; each lemma states its own conditions. -/
import Derived.Test.YtpmecoojhjopcaaCd3
import Derived.Deep.DeepCutAuto
namespace Go.Proofs.Ytpmecoojhjopcaa
open Go.RowKit
set_option linter.unusedVariables false
set_option linter.unusedSimpArgs false
theorem strOf_size (L : List Nat) : (strOf L).size = L.length := by simp [strOf, ByteArray.size]
theorem strOf_bytes (s : ByteArray) : strOf (bytesOf s) = s := bytesOf_inj (bytesOf_str (bytesOf_lt s))
theorem deck_lt {W H : Nat} {bs : List Bool} (hW : W ≤ 64) (hH : H ≤ 64) : ∀ x ∈ deckL W H bs, x < 256 := by
  have hc : ∀ (f y : Nat), ∀ x ∈ cardsL (rowL bs W) H f y, x < 256 := by
    intro f
    induction f with
    | zero => intro y x hx; simp [cardsL] at hx
    | succ f ih =>
      intro y x hx
      unfold cardsL at hx
      by_cases hy : y < H
      · rw [if_pos hy, List.mem_cons, List.mem_append] at hx
        rcases hx with rfl | hx | hx
        · have := (runLen_spec (R := rowL bs W) hy).2.1; omega
        · exact punchL_lt _ x hx
        · exact ih _ x hx
      · rw [if_neg hy] at hx; simp at hx
  intro x hx
  unfold deckL deckB hdrL at hx
  simp only [List.mem_append, List.mem_cons, List.not_mem_nil, or_false] at hx
  rcases hx with ((rfl | rfl | rfl | rfl | rfl) | hx) | rfl
  · omega
  · omega
  · omega
  · omega
  · omega
  · exact hc _ _ x hx
  · exact chk_lt _
theorem deck_len {W H : Nat} {bs : List Bool} (hW : W ≤ 64) (hH : H ≤ 64) : (deckL W H bs).length ≤ 9223372036854775807 := by
  have hc : ∀ (f y : Nat), (cardsL (rowL bs W) H f y).length ≤ f * 9 := by
    intro f
    induction f with
    | zero => intro y; simp [cardsL]
    | succ f ih =>
      intro y
      unfold cardsL
      by_cases hy : y < H
      · rw [if_pos hy, List.length_cons, List.length_append, punchL_len, rowL_len']
        have := ih (y + runLen (rowL bs W) H y)
        omega
      · rw [if_neg hy]; simp
  have := hc (H + 1) 0
  unfold deckL deckB hdrL
  simp only [List.length_append, List.length_cons, List.length_nil]
  omega
theorem deck_sum (W H : Nat) (bs : List Bool) : (deckL W H bs).sum % 256 = 0 := by
  unfold deckL
  rw [List.sum_append]
  simp only [List.sum_cons, List.sum_nil, Nat.add_zero]
  unfold chk
  omega
theorem unp_read {W H : Nat} {bs : List Bool} (hW : W ≤ 64) (hH : H ≤ 64) (hl : bs.length = W * H) : unp (bytesOf (strOf (deckL W H bs))) = (.ok bs, W, H) := by
  rw [bytesOf_str (deck_lt hW hH), unp_deck hW hH hl]
theorem same_selfK (W H : Int) (n : Nat) (bs : List Bool) (a1 a2 : Option Addr) (c1 c2 : Nat) (w : World) (h1 : OkT w a1 n c1 bs) (h2 : OkT w a2 n c2 bs) :
    Calls Try.prog 11 #[.agg #[.int .i64 (W), .int .i64 (H), .slice a1 n c1], .agg #[.int .i64 (W), .int .i64 (H), .slice a2 n c2]] w fun e w' => e = .returned (.bool true) ∧ Below w.heap.size w w' := by
  have := Same_any W H a1 n c1 bs W H a2 n c2 bs w h1.bits h2.bits (Nat.le_trans h1.cap h1.lim) (Nat.le_trans h1.cap h1.lim)
  rwa [decide_eq_true (p := (W = W ∧ H = H ∧ bs = bs)) ⟨rfl, rfl, rfl⟩] at this
/-- '[]byte(s)', whose bytes may be written. -/
theorem strBytes2 (S : ByteArray) : ∃ (capF : World → Nat) (bwF : World → World), (∀ w : World, (convert 9 46 (.string S)).run Try.prog w = .ok (.slice (some ⟨w.heap.size, 0, none⟩) S.size (capF w)) (bwF w)) ∧
    ∀ w : World, Below w.heap.size w (bwF w) ∧ (bwF w).heap.size = w.heap.size + 1 ∧ (∀ j, j < S.size → (bwF w).cell? ⟨w.heap.size, j, none⟩ = some (.int .u8 ((bytesOf S).getD j 0 : Nat)) ∧ (bwF w).frozen? ⟨w.heap.size, j, none⟩ = false) := by
  refine ⟨fun w => grownCap w S.size 0 5, fun w => Go.Lib.bytesWorld w 5 S, fun w => Go.Lib.run_convert_string_bytes w 9 46 5 S Try.underlying9 Try.underlying46 Try.underlying5, fun w => ⟨⟨rfl, rfl, rfl, ?_, fun k hk => Go.Lib.bytesWorld_at_old w 5 S k hk⟩, Go.Lib.bytesWorld_size w 5 S, fun j hj => ⟨?_, ?_⟩⟩⟩
  · show w.heap.size ≤ (Go.Lib.bytesWorld w 5 S).heap.size
    rw [Go.Lib.bytesWorld_size]; omega
  · show (Go.Lib.bytesWorld w 5 S).cell? _ = _
    rw [Go.Lib.bytesWorld_cell w 5 S j hj]
    refine congrArg (fun x : Nat => some (Value.int .u8 (x : Int))) ?_
    unfold bytesOf
    rw [List.getD_eq_getElem?_getD, List.getD_eq_getElem?_getD, List.getElem?_map]
    have hjl : j < S.data.toList.length := by rw [Array.length_toList]; exact hj
    rw [List.getElem?_eq_getElem hjl]
    rfl
  · show (Go.Lib.bytesWorld w 5 S).frozen? _ = _
    have h1 := Go.Lib.bytesWorld_at_new w 5 S
    have h2 : S.size ≤ (Go.Lib.bytesCells w 5 S).size := by
      unfold Go.Lib.bytesCells
      rw [Array.size_append, Array.size_map]
      exact Nat.le_add_right _ _
    unfold World.frozen?
    simp only [h1]
    simp
    omega
/-- Where one byte of a deck is another one. -/
theorem set_sum {L : List Nat} {k x : Nat} (hk : k < L.length) : (L.set k x).sum + L.getD k 0 = L.sum + x := by
  induction L generalizing k with
  | nil => simp at hk
  | cons y L ih =>
    cases k with
    | zero => simp; omega
    | succ k =>
      have := ih (k := k) (by simpa using hk)
      simp only [List.set_cons_succ, List.sum_cons, List.getD_cons_succ]
      omega
theorem wrong_byte {W H : Nat} {bs : List Bool} {k b : Nat} (hk : k < (deckL W H bs).length) (h1 : 1 ≤ b) (h2 : b ≤ 255) : ∃ p W2 H2, unp ((deckL W H bs).set k (((deckL W H bs).getD k 0 + b) % 256)) = (.bad p, W2, H2) := by
  cases hu : unp ((deckL W H bs).set k (((deckL W H bs).getD k 0 + b) % 256)) with
  | mk res WH =>
  obtain ⟨W2, H2⟩ := WH
  cases res with
  | bad p => exact ⟨p, W2, H2, rfl⟩
  | ok bits =>
    exfalso
    obtain ⟨_, _, _, h3⟩ := unp_ok hu
    have h4 := deck_sum W2 H2 bits
    rw [← h3] at h4
    have h5 := set_sum (x := ((deckL W H bs).getD k 0 + b) % 256) hk
    have h6 := deck_sum W H bs
    omega
end Go.Proofs.Ytpmecoojhjopcaa
