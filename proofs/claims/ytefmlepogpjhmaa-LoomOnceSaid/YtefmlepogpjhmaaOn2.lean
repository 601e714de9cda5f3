/- Chapter 10: a loom in a workshop, turn by turn: each pick is beaten once; whoever goes on long enough has the cloth. No program in sight. -/
import Derived.Test.YtefmlepogpjhmaaOn1
namespace Go.Proofs.Ytefmlepogpjhmaa
open Go.RowKit
set_option linter.unusedVariables false
set_option linter.unusedSimpArgs false
namespace Lm
theorem rowOf_rowN {W : Nat} {bs : List Bool} {l : St} (h : 1 ≤ l.at_ ∧ l.at_ ≤ 4) : rowOf W bs l = rowN W bs l.wv := by unfold rowOf rowN; rw [if_pos h]
theorem openW_inv {W H : Nat} {bs : List Bool} {x : WS} {n wv : Nat} {w1 : Int} (hH : 1 ≤ H) (hw : wv ≤ H) (hb : x.bad = false) (hr : x.rows = firstR W bs n) (hs : x.d.ws = [(wv : Int), w1])
    (hn : n = wv ∨ (n = wv + 1 ∧ w1 = (wv : Int) + 1 ∧ wv < H)) (h1 : wv < H → w1 ≤ (wv : Int) + 1) : Inv W H bs (openW H x) := by
  have e0 : wv0 H x.d.ws = wv := by
    rw [hs]
    unfold wv0
    simp only [List.getD_cons_zero]
    split <;> omega
  have e1 : x.d.ws.getD 1 0 = w1 := by rw [hs]; rfl
  have eb : begin_ H x.d.ws = { wv := wv, at_ := if wv = H then 6 else if w1 = (wv : Int) + 1 then 5 else 0, stop := false, dead := false } := by
    unfold begin_
    rw [e0, e1]
  unfold openW
  rw [eb]
  by_cases hwH : wv = H
  · rw [if_pos hwH]
    have hn2 : n = wv := by omega
    exact ⟨⟨hH, hw, by simp, by simp⟩, hb, ⟨n, hr, by simp, fun _ => hn2, by simp, by simp⟩, ⟨w1, hs, by simp, by simp⟩, fun _ => hwH, by simp, by simp, .inr rfl⟩
  · rw [if_neg hwH]
    by_cases hw1 : w1 = (wv : Int) + 1
    · rw [if_pos hw1]
      exact ⟨⟨hH, hw, by simp, fun _ => by simp only; omega⟩, hb, ⟨n, hr, by simp, by simp, by simp, fun _ => by simp only; omega⟩, ⟨w1, hs, by simp, fun _ => hw1⟩, by simp, by simp, by simp, .inr rfl⟩
    · rw [if_neg hw1]
      exact ⟨⟨hH, hw, by simp, fun _ => by simp only; omega⟩, hb, ⟨n, hr, fun _ => by simp only; omega, by simp, by simp, by simp⟩, ⟨w1, hs, fun _ => by have := h1 (by omega); simp only; omega, by simp⟩, by simp, by simp, by simp, .inr rfl⟩
theorem openW_of {W H : Nat} {bs : List Bool} {x : WS} (hi : Inv W H bs x) (b : Prop) [Decidable b] : Inv W H bs (openW H (if x.todo = 3 ∧ b then beatW x else x)) := by
  obtain ⟨⟨okh, okw, oka, oklt⟩, good, ⟨n, hn, n3, n6, n4, n5⟩, ⟨w1, hws, w3, w4⟩, done, htodo, shed, hleft⟩ := hi
  have hc : x.l.at_ ≤ 3 ∨ x.l.at_ = 4 ∨ x.l.at_ = 5 ∨ x.l.at_ = 6 := by omega
  have hw1 : x.l.wv < H → w1 ≤ (x.l.wv : Int) + 1 := by
    intro h
    rcases hc with h | h | h | h
    · have := w3 h; omega
    · have := w4 (.inl h); omega
    · have := w4 (.inr h); omega
    · have := done h; omega
  split
  · rename_i h
    have h4 := htodo h.1
    have hw4 := w4 (.inl h4)
    have hlt := oklt (by omega)
    rcases n4 h4 with h5 | h5
    · refine openW_inv (n := n + 1) (wv := x.l.wv) (w1 := w1) okh okw good ?_ hws (.inr ⟨by omega, hw4, hlt⟩) hw1
      show x.rows ++ [x.row] = _
      rw [hn, firstR_succ, h5.2.2, h5.2.1]
    · exact absurd h.1 h5.1
  · refine openW_inv (n := n) (wv := x.l.wv) (w1 := w1) okh okw good hn hws ?_ hw1
    rcases hc with h | h | h | h
    · exact .inl (n3 h)
    · have hlt := oklt (by omega)
      rcases n4 h with h5 | h5
      · exact .inl h5.2.1
      · exact .inr ⟨h5.2, w4 (.inl h), hlt⟩
    · have hlt := oklt (by omega)
      rcases n5 h with h5 | h5
      · exact .inl h5
      · exact .inr ⟨h5, w4 (.inr h), hlt⟩
    · exact .inl (n6 h)
/-- What is told next, the workshop made ready for it. -/
theorem ready_inv {W H : Nat} {bs : List Bool} {x : WS} (hi : Inv W H bs x) :
    (x.l.at_ = 1 → Inv W H bs { x with row := rowOf W bs x.l, up := true }) ∧ (x.l.at_ = 2 → Inv W H bs { x with thr := true }) ∧ (x.l.at_ = 4 → x.todo = 3 → Inv W H bs { x with rows := x.rows ++ [x.row], todo := 0 }) := by
  obtain ⟨ok, good, ⟨n, hn, n3, n6, n4, n5⟩, ⟨w1, hws, w3, w4⟩, done, htodo, shed, hleft⟩ := hi
  refine ⟨fun h => ⟨ok, good, ⟨n, hn, n3, n6, ?_, n5⟩, ⟨w1, hws, w3, w4⟩, done, htodo, ?_, hleft⟩, fun h => ⟨ok, good, ⟨n, hn, n3, n6, n4, n5⟩, ⟨w1, hws, w3, w4⟩, done, htodo, shed, hleft⟩, fun h ht => ⟨ok, good, ⟨n + 1, ?_, ?_, ?_, ?_, ?_⟩, ⟨w1, hws, w3, w4⟩, done, ?_, shed, hleft⟩⟩
  · intro h4; simp only at h4; omega
  · intro h4; simp only at h4; omega
  · rcases n4 h with h5 | h5
    · show x.rows ++ [x.row] = _
      rw [hn, firstR_succ, h5.2.2, h5.2.1]
    · exact absurd ht h5.1
  · intro h4; simp only at h4; omega
  · intro h4; simp only at h4; omega
  · intro _
    rcases n4 h with h5 | h5
    · exact .inr ⟨by simp, by simp only; omega⟩
    · exact absurd ht h5.1
  · intro h4; simp only at h4; omega
  · intro h4; simp at h4
theorem nextW_inv {W H : Nat} {bs : List Bool} {x : WS} (hi : Inv W H bs x) : Inv W H bs (nextW W H bs x) := by
  obtain ⟨r1, r2, r4⟩ := ready_inv hi
  unfold nextW
  split
  · rename_i h; exact tellW_inv hi (by omega) (by omega) (by omega) (by omega) (by omega) (by omega)
  · split
    · rename_i h; exact tellW_inv (r1 h) (by omega) (fun _ _ => ⟨rfl, rowOf_rowN (by omega)⟩) (by omega) (by omega) (by omega) (by omega)
    · split
      · rename_i h; exact tellW_inv (r2 h) (by omega) (by omega) (fun _ => rfl) (by omega) (by omega) (by omega)
      · split
        · rename_i h; exact tellW_inv hi (by omega) (by omega) (by omega) (by omega) (by omega) (by omega)
        · split
          · rename_i h
            split
            · rename_i ht; exact tellW_inv (r4 h ht) (by omega) (by omega) (by omega) (fun _ _ => by simp) (by omega) (by omega)
            · rename_i ht; exact tellW_inv hi (by omega) (by omega) (by omega) (fun _ _ => ht) (by omega) (by omega)
          · split
            · rename_i h5
              obtain ⟨n, hn, _, _, _, n5⟩ := hi.rows
              have hl : x.rows.length = n := by rw [hn, firstR_len]
              have := n5 h5
              split
              · exact tellW_inv hi (by omega) (by omega) (by omega) (by omega) (fun _ _ => by omega) (by omega)
              · exact tellW_inv hi (by omega) (by omega) (by omega) (by omega) (by omega) (fun _ _ => by omega)
            · exact hi
theorem turnW_inv {W H : Nat} {bs : List Bool} {t : Int} {x : WS} (hi : Inv W H bs x) : Inv W H bs (turnW W H bs t x) := by
  unfold turnW
  split
  · obtain ⟨ok, good, rows, ws, done, htodo, shed, hleft⟩ := hi
    exact ⟨ok, good, rows, ws, done, htodo, shed, .inl rfl⟩
  · split
    · exact openW_of hi _
    · split
      · exact tellW_inv hi (by omega) (by omega) (by omega) (by omega) (by omega) (by omega)
      · split
        · exact tellW_inv hi (by omega) (by omega) (by omega) (by omega) (by omega) (by omega)
        · exact nextW_inv hi
theorem start_inv {W H : Nat} {bs : List Bool} (hH : 1 ≤ H) : Inv W H bs (start H) := by
  have := openW_inv (W := W) (bs := bs) (x := ⟨begin_ H [0, 0], ⟨[0, 0], -1⟩, 0, false, false, false, [], []⟩) (n := 0) (wv := 0) (w1 := 0) hH (by omega) rfl rfl rfl (.inl rfl) (fun _ => by omega)
  exact this
theorem liveW_inv {W H : Nat} {bs : List Bool} (ts : List Int) (hH : 1 ≤ H) : ∀ k, Inv W H bs (liveW W H bs ts k)
  | 0 => start_inv hH
  | k + 1 => turnW_inv (liveW_inv ts hH k)
/-- What the law asks of it. -/
theorem Inv.first {W H : Nat} {bs : List Bool} {x : WS} (hi : Inv W H bs x) : ∃ n, x.rows = firstR W bs n ∧ n ≤ H ∧ x.l.wv ≤ n ∧ n ≤ x.l.wv + 1 := by
  obtain ⟨⟨okh, okw, oka, oklt⟩, good, ⟨n, hn, n3, n6, n4, n5⟩, _, _, _, _, _⟩ := hi
  have hc : x.l.at_ ≤ 3 ∨ x.l.at_ = 4 ∨ x.l.at_ = 5 ∨ x.l.at_ = 6 := by omega
  refine ⟨n, hn, ?_⟩
  rcases hc with h | h | h | h
  · have := n3 h; omega
  · have := oklt (by omega)
    rcases n4 h with h5 | h5
    · omega
    · omega
  · have := oklt (by omega)
    have := n5 h; omega
  · have := n6 h; omega
def mu (H : Nat) (l : St) : Nat :=
  if l.at_ = 6 then 0 else if l.at_ = 5 then 3 * (H - l.wv) + 2 else if l.at_ = 0 ∨ l.at_ = 3 then 3 * (H - l.wv) + 1 else if l.at_ = 1 then 3 * (H - l.wv) else if l.at_ = 2 then 3 * (H - l.wv) - 1 else 3 * (H - l.wv) - 2
set_option maxHeartbeats 4000000 in
theorem next_live {W H : Nat} {bs : List Bool} {x : WS} (hi : Inv W H bs x) (hd : x.l.dead = false) (hs : x.l.stop = false) (hl : x.d.left = -1) :
    (nextW W H bs x).l.dead = false ∧ (nextW W H bs x).l.stop = false ∧ (nextW W H bs x).d.left = -1 ∧ (mu H x.l ≠ 0 → mu H (nextW W H bs x).l < mu H x.l) ∧ (mu H x.l = 0 → mu H (nextW W H bs x).l = 0) := by
  obtain ⟨⟨wv, at_, stop, dead⟩, ⟨ws, left⟩, todo, up, thr, bad, row, rows⟩ := x
  obtain ⟨⟨okh, okw, oka, oklt⟩, good, ⟨n, hn, n3, n6, n4, n5⟩, ⟨w1, hws, w3, w4⟩, done, htodo, shed, hleft⟩ := hi
  simp only at *
  subst hn hws hd hs hl
  have hlen := firstR_len W bs n
  have hc : at_ = 0 ∨ at_ = 1 ∨ at_ = 2 ∨ at_ = 3 ∨ at_ = 4 ∨ at_ = 5 ∨ at_ = 6 := by omega
  rcases hc with rfl | rfl | rfl | rfl | rfl | rfl | rfl
  · have e : tell H 1 ⟨wv, 0, false, false⟩ ⟨[(wv : Int), w1], -1⟩ = (1, 0, ⟨wv, 1, false, false⟩, ⟨[(wv : Int), w1], -1⟩) := by unfold tell; simp [may]
    simp [nextW, tellW, e, mu]
  · have e : tell H 2 ⟨wv, 1, false, false⟩ ⟨[(wv : Int), w1], -1⟩ = (2, 0, ⟨wv, 2, false, false⟩, ⟨[(wv : Int), w1], -1⟩) := by unfold tell; simp [may]
    have := oklt (by omega)
    simp [nextW, tellW, e, mu]
    omega
  · have e : tell H 3 ⟨wv, 2, false, false⟩ ⟨[(wv : Int), w1], -1⟩ = (3, 0, ⟨wv, 4, false, false⟩, ⟨[(wv : Int), (wv : Int) + 1], -1⟩) := by unfold tell; simp [may, put]
    have := oklt (by omega)
    simp [nextW, tellW, e, mu]
    omega
  · have e : tell H 5 ⟨wv, 3, false, false⟩ ⟨[(wv : Int), w1], -1⟩ = (1, 0, ⟨wv, 1, false, false⟩, ⟨[(wv : Int), w1], -1⟩) := by unfold tell; simp [may]
    have := oklt (by omega)
    simp [nextW, tellW, e, mu]
  · have := oklt (by omega)
    by_cases hH : wv + 1 = H
    · have e : tell H 6 ⟨wv, 4, false, false⟩ ⟨[(wv : Int), w1], -1⟩ = (4, 0, ⟨wv + 1, 6, false, false⟩, ⟨[(wv : Int) + 1, w1], -1⟩) := by unfold tell; simp [may, put, next, hH]
      by_cases ht : todo = 3
      · simp [nextW, tellW, e, mu, ht]; omega
      · simp [nextW, tellW, e, mu, ht]; omega
    · have e : tell H 6 ⟨wv, 4, false, false⟩ ⟨[(wv : Int), w1], -1⟩ = (1, 0, ⟨wv + 1, 1, false, false⟩, ⟨[(wv : Int) + 1, w1], -1⟩) := by unfold tell; simp [may, put, next, hH]
      by_cases ht : todo = 3
      · simp [nextW, tellW, e, mu, ht]; omega
      · simp [nextW, tellW, e, mu, ht]; omega
  · have := oklt (by omega)
    by_cases hr : wv < n
    · by_cases hH : wv + 1 = H
      · have e : tell H 8 ⟨wv, 5, false, false⟩ ⟨[(wv : Int), w1], -1⟩ = (4, 0, ⟨wv + 1, 6, false, false⟩, ⟨[(wv : Int) + 1, w1], -1⟩) := by unfold tell; simp [may, put, next, hH]
        simp [nextW, tellW, e, mu, hlen, hr]
      · have e : tell H 8 ⟨wv, 5, false, false⟩ ⟨[(wv : Int), w1], -1⟩ = (4, 0, ⟨wv + 1, 0, false, false⟩, ⟨[(wv : Int) + 1, w1], -1⟩) := by unfold tell; simp [may, put, next, hH]
        simp [nextW, tellW, e, mu, hlen, hr]
        omega
    · have e : tell H 9 ⟨wv, 5, false, false⟩ ⟨[(wv : Int), w1], -1⟩ = (0, 0, ⟨wv, 0, false, false⟩, ⟨[(wv : Int), 0], -1⟩) := by unfold tell; simp [may, put]
      simp [nextW, tellW, e, mu, hlen, hr]
  · simp [nextW, mu]
theorem liveW_congr {W H : Nat} {bs : List Bool} {ts ts' : List Int} : ∀ k, (∀ j, j < k → ts.getD j 0 = ts'.getD j 0) → liveW W H bs ts k = liveW W H bs ts' k
  | 0, _ => rfl
  | k + 1, h => by
    simp only [liveW]
    rw [liveW_congr k (fun j hj => h j (by omega)), h k (by omega)]
theorem live_done {W H : Nat} {bs : List Bool} (ts : List Int) (N : Nat) (hH : 1 ≤ H) (hN : 3 * H + 2 ≤ N) :
    (liveW W H bs (ts ++ [3] ++ List.replicate N 0) (ts.length + 1 + N)).l.at_ = 6 := by
  have hg : ∀ j, j < N → (ts ++ [3] ++ List.replicate N 0).getD (ts.length + 1 + j) 0 = 0 := fun j hj => by
    rw [List.getD_eq_getElem?_getD, List.getElem?_append_right (by simp)]
    simp [List.getElem?_replicate]
    rw [if_pos hj]; rfl
  have h3 : (ts ++ [3] ++ List.replicate N 0).getD ts.length 0 = 3 := by
    rw [List.getD_eq_getElem?_getD, List.getElem?_append_left (by simp), List.getElem?_append_right (by omega)]
    simp
  generalize ts ++ [3] ++ List.replicate N 0 = A at *
  have key : ∀ j, j ≤ N → (liveW W H bs A (ts.length + 1 + j)).l.dead = false ∧ (liveW W H bs A (ts.length + 1 + j)).l.stop = false ∧ (liveW W H bs A (ts.length + 1 + j)).d.left = -1 ∧ mu H (liveW W H bs A (ts.length + 1 + j)).l ≤ 3 * H + 2 - j := by
    intro j
    induction j with
    | zero =>
      intro _
      have e : liveW W H bs A (ts.length + 1 + 0) = openW H (liveW W H bs A ts.length) := by
        show turnW W H bs (A.getD ts.length 0) (liveW W H bs A ts.length) = _
        rw [h3]
        simp [turnW]
      rw [e]
      refine ⟨rfl, rfl, rfl, ?_⟩
      unfold mu
      repeat' split
      all_goals omega
    | succ j ih =>
      intro hj
      obtain ⟨i1, i2, i3, i4⟩ := ih (by omega)
      have e : liveW W H bs A (ts.length + 1 + (j + 1)) = nextW W H bs (liveW W H bs A (ts.length + 1 + j)) := by
        show turnW W H bs (A.getD (ts.length + 1 + j) 0) (liveW W H bs A (ts.length + 1 + j)) = _
        rw [hg j (by omega)]
        simp [turnW]
      rw [e]
      obtain ⟨k1, k2, k3, k4, k5⟩ := next_live (liveW_inv A hH (ts.length + 1 + j) (W := W) (bs := bs)) i1 i2 i3
      refine ⟨k1, k2, k3, ?_⟩
      by_cases h0 : mu H (liveW W H bs A (ts.length + 1 + j)).l = 0
      · rw [k5 h0]; omega
      · have := k4 h0; omega
  have hk := (key N (Nat.le_refl _)).2.2.2
  have hi := liveW_inv A hH (ts.length + 1 + N) (W := W) (bs := bs)
  have hm : mu H (liveW W H bs A (ts.length + 1 + N)).l = 0 := by omega
  have hlt := hi.ok.lt
  have ha := hi.ok.a
  generalize (liveW W H bs A (ts.length + 1 + N)).l = l at *
  unfold mu at hm
  by_cases h6 : l.at_ = 6
  · exact h6
  · exfalso
    have := hlt (by omega)
    rw [if_neg h6] at hm
    repeat' split at hm
    all_goals omega
end Lm
end Go.Proofs.Ytefmlepogpjhmaa
