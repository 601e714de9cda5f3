/- Chapter 10: a loom in a workshop, turn by turn: no program in sight. -/
import Derived.Test.YtefmlepogpjhmaaLmM
namespace Go.Proofs.Ytefmlepogpjhmaa
open Go.RowKit
set_option linter.unusedVariables false
set_option linter.unusedSimpArgs false
namespace Lm
/-- A workshop: the loom, the disk, what is to be done, where shafts and shuttle are, what went wrong, the row in the shed, the rows that are beaten. -/
structure WS where
  l : St
  d : Dk
  todo : Int
  up : Bool
  thr : Bool
  bad : Bool
  row : List Bool
  rows : List (List Bool)
def tellW (H : Nat) (ev : Int) (x : WS) : WS :=
  if (tell H ev x.l x.d).2.1 ≠ 0 ∨ (tell H ev x.l x.d).1 = 0 then { x with l := (tell H ev x.l x.d).2.2.1, d := (tell H ev x.l x.d).2.2.2 }
  else if (tell H ev x.l x.d).1 = 1 then { x with l := (tell H ev x.l x.d).2.2.1, d := (tell H ev x.l x.d).2.2.2, todo := 1, up := false, thr := false }
  else if (tell H ev x.l x.d).1 = 2 then { x with l := (tell H ev x.l x.d).2.2.1, d := (tell H ev x.l x.d).2.2.2, todo := 2, bad := x.bad || !x.up }
  else if (tell H ev x.l x.d).1 = 3 then { x with l := (tell H ev x.l x.d).2.2.1, d := (tell H ev x.l x.d).2.2.2, todo := 3, bad := x.bad || !x.up || !x.thr }
  else { x with l := (tell H ev x.l x.d).2.2.1, d := (tell H ev x.l x.d).2.2.2, todo := (tell H ev x.l x.d).1 }
def beatW (x : WS) : WS := { x with rows := x.rows ++ [x.row] }
def nextW (W H : Nat) (bs : List Bool) (x : WS) : WS :=
  if x.l.at_ = 0 then tellW H 1 x
  else if x.l.at_ = 1 then tellW H 2 { x with row := rowOf W bs x.l, up := true }
  else if x.l.at_ = 2 then tellW H 3 { x with thr := true }
  else if x.l.at_ = 3 then tellW H 5 x
  else if x.l.at_ = 4 then tellW H 6 (if x.todo = 3 then { x with rows := x.rows ++ [x.row], todo := 0 } else x)
  else if x.l.at_ = 5 then (if x.l.wv < x.rows.length then tellW H 8 x else tellW H 9 x)
  else x
def openW (H : Nat) (x : WS) : WS := { x with d := { x.d with left := -1 }, l := begin_ H x.d.ws, todo := 0, up := false, thr := false }
def turnW (W H : Nat) (bs : List Bool) (t : Int) (x : WS) : WS :=
  if t = 1 then { x with d := { x.d with left := 0 } }
  else if t = 2 ∨ t = 3 then openW H (if x.todo = 3 ∧ t = 2 then beatW x else x)
  else if t = 4 then tellW H 4 x
  else if t = 5 then tellW H 7 x
  else nextW W H bs x
def start (H : Nat) : WS := ⟨begin_ H [0, 0], ⟨[0, 0], -1⟩, 0, false, false, false, [], []⟩
def liveW (W H : Nat) (bs : List Bool) (ts : List Int) : Nat → WS
  | 0 => start H
  | k + 1 => turnW W H bs (ts.getD k 0) (liveW W H bs ts k)
def rowN (W : Nat) (bs : List Bool) (k : Nat) : List Bool := (bs.drop (k * W)).take W
def firstR (W : Nat) (bs : List Bool) (n : Nat) : List (List Bool) := (List.range n).map (rowN W bs)
theorem firstR_succ (W : Nat) (bs : List Bool) (n : Nat) : firstR W bs (n + 1) = firstR W bs n ++ [rowN W bs n] := by
  unfold firstR
  rw [List.range_succ, List.map_append]; rfl
theorem firstR_len (W : Nat) (bs : List Bool) (n : Nat) : (firstR W bs n).length = n := by unfold firstR; simp
/-- What holds at every turn. -/
structure Inv (W H : Nat) (bs : List Bool) (x : WS) : Prop where
  ok : Ok H x.l
  good : x.bad = false
  rows : ∃ n, x.rows = firstR W bs n ∧ (x.l.at_ ≤ 3 → n = x.l.wv) ∧ (x.l.at_ = 6 → n = x.l.wv) ∧ (x.l.at_ = 4 → (x.todo = 3 ∧ n = x.l.wv ∧ x.row = rowN W bs x.l.wv) ∨ (x.todo ≠ 3 ∧ n = x.l.wv + 1)) ∧ (x.l.at_ = 5 → n = x.l.wv ∨ n = x.l.wv + 1)
  ws : ∃ w1 : Int, x.d.ws = [(x.l.wv : Int), w1] ∧ (x.l.at_ ≤ 3 → w1 ≤ x.l.wv) ∧ (x.l.at_ = 4 ∨ x.l.at_ = 5 → w1 = x.l.wv + 1)
  done : x.l.at_ = 6 → x.l.wv = H
  todo : x.todo = 3 → x.l.at_ = 4
  shed : x.l.at_ = 2 → x.up = true ∧ x.row = rowN W bs x.l.wv
  left : x.d.left = 0 ∨ x.d.left = -1
theorem tellW_not {H : Nat} {ev : Int} {x : WS} (h : 1 ≤ ev ∧ ev ≤ 9) (hn : x.l.dead = true ∨ may ev x.l.at_ = false) : tellW H ev x = x := by
  have e : tell H ev x.l x.d = (0, 9, x.l, x.d) := by
    unfold tell
    rw [if_neg (by omega), if_pos hn]
  unfold tellW
  rw [e]
  rfl
theorem put_off {d : Dk} {i : Nat} {w : Int} (h : d.left = 0) : put d i w = none := by unfold put; rw [if_pos h]
theorem put_on {d : Dk} {i : Nat} {w : Int} (h : d.left = -1) : put d i w = some { d with ws := d.ws.set i w } := by
  unfold put
  rw [if_neg (by omega), if_neg (by omega)]
theorem may_eq {ev : Int} {a : Nat} (h : may ev a = true) : (ev = 1 ∧ a = 0) ∨ (ev = 2 ∧ a = 1) ∨ (ev = 3 ∧ a = 2) ∨ (ev = 4 ∧ a = 2) ∨ (ev = 5 ∧ a = 3) ∨ (ev = 6 ∧ a = 4) ∨ (ev = 7 ∧ (a = 1 ∨ a = 2 ∨ a = 3 ∨ a = 4)) ∨ (ev = 8 ∧ a = 5) ∨ (ev = 9 ∧ a = 5) := by
  unfold may at h
  simp only [Bool.or_eq_true, Bool.and_eq_true, beq_iff_eq] at h
  rcases h with (((((((h | h) | h) | h) | h) | h) | h) | h) | h
  · exact .inl h
  · exact .inr (.inl h)
  · exact .inr (.inr (.inl h))
  · exact .inr (.inr (.inr (.inl h)))
  · exact .inr (.inr (.inr (.inr (.inl h))))
  · exact .inr (.inr (.inr (.inr (.inr (.inl h)))))
  · refine .inr (.inr (.inr (.inr (.inr (.inr (.inl ⟨h.1, ?_⟩))))))
    have := h.2
    omega
  · exact .inr (.inr (.inr (.inr (.inr (.inr (.inr (.inl h)))))))
  · exact .inr (.inr (.inr (.inr (.inr (.inr (.inr (.inr h)))))))
set_option maxHeartbeats 4000000 in
/-- An event is told: what holds goes on to hold. -/
theorem tellW_inv {W H : Nat} {bs : List Bool} {ev : Int} {x : WS} (hi : Inv W H bs x) (hev : 1 ≤ ev ∧ ev ≤ 9)
    (h2 : ev = 2 → x.l.at_ = 1 → x.up = true ∧ x.row = rowN W bs x.l.wv) (h3 : ev = 3 → x.thr = true) (h6 : ev = 6 → x.l.at_ = 4 → x.todo ≠ 3)
    (h8 : ev = 8 → x.l.at_ = 5 → x.rows.length = x.l.wv + 1) (h9 : ev = 9 → x.l.at_ = 5 → x.rows.length = x.l.wv) : Inv W H bs (tellW H ev x) := by
  by_cases hd : x.l.dead = true ∨ may ev x.l.at_ = false
  · rw [tellW_not hev hd]; exact hi
  · have hm : may ev x.l.at_ = true := by
      cases hb : may ev x.l.at_ with
      | true => rfl
      | false => exact absurd (.inr hb) hd
    obtain ⟨⟨wv, at_, stop, dead⟩, ⟨ws, left⟩, todo, up, thr, bad, row, rows⟩ := x
    obtain ⟨ok, good, ⟨n, hn, n3, n6, n4, n5⟩, ⟨w1, hws, w3, w4⟩, done, htodo, shed, hleft⟩ := hi
    simp only at *
    subst hn hws
    have hlen := firstR_len W bs n
    have ok0 := ok
    obtain ⟨okh, okw, oka, oklt⟩ := ok
    simp only at okh okw oka oklt
    have hdd : dead = false := by cases dead with
      | true => exact absurd (.inl rfl) hd
      | false => rfl
    subst hdd
    clear hd
    have hm2 := may_eq hm
    have hT : ∀ (R : Int × Int × St × Dk), tell H ev ⟨wv, at_, stop, false⟩ ⟨[(wv : Int), w1], left⟩ = R → tell H ev ⟨wv, at_, stop, false⟩ ⟨[(wv : Int), w1], left⟩ = R := fun _ h => h
    unfold tellW
    simp only
    rcases hm2 with ⟨rfl, rfl⟩ | ⟨rfl, rfl⟩ | ⟨rfl, rfl⟩ | ⟨rfl, rfl⟩ | ⟨rfl, rfl⟩ | ⟨rfl, rfl⟩ | ⟨rfl, h7⟩ | ⟨rfl, rfl⟩ | ⟨rfl, rfl⟩
    · have e : tell H 1 ⟨wv, 0, stop, false⟩ ⟨[(wv : Int), w1], left⟩ = (1, 0, ⟨wv, 1, stop, false⟩, ⟨[(wv : Int), w1], left⟩) := by unfold tell; simp [may]
      rw [e]
      refine ⟨⟨okh, ?_, ?_, ?_⟩, ?_, ⟨n, rfl, ?_, ?_, ?_, ?_⟩, ⟨w1, rfl, ?_, ?_⟩, ?_, ?_, ?_, ?_⟩
      all_goals first | omega | (simp; done) | (simp; omega) | (simp_all; done) | (simp_all; omega)
    · have e : tell H 2 ⟨wv, 1, stop, false⟩ ⟨[(wv : Int), w1], left⟩ = (2, 0, ⟨wv, 2, stop, false⟩, ⟨[(wv : Int), w1], left⟩) := by unfold tell; simp [may]
      rw [e]
      obtain ⟨u1, u2⟩ := h2 rfl rfl
      subst u1
      refine ⟨⟨okh, ?_, ?_, ?_⟩, ?_, ⟨n, rfl, ?_, ?_, ?_, ?_⟩, ⟨w1, rfl, ?_, ?_⟩, ?_, ?_, ?_, ?_⟩
      all_goals first | omega | (simp; done) | (simp; omega) | (simp_all; done) | (simp_all; omega)
    · obtain ⟨u1, u2⟩ := shed rfl
      have u3 := h3 rfl
      subst u1 u3
      rcases hleft with rfl | rfl
      · have e : tell H 3 ⟨wv, 2, stop, false⟩ ⟨[(wv : Int), w1], 0⟩ = (0, 11, ⟨wv, 2, stop, true⟩, ⟨[(wv : Int), w1], 0⟩) := by unfold tell; simp [may, put]
        rw [e]
        refine ⟨⟨okh, ?_, ?_, ?_⟩, ?_, ⟨n, rfl, ?_, ?_, ?_, ?_⟩, ⟨w1, rfl, ?_, ?_⟩, ?_, ?_, ?_, ?_⟩
        all_goals first | omega | (simp; done) | (simp; omega) | (simp_all; done) | (simp_all; omega)
      · have e : tell H 3 ⟨wv, 2, stop, false⟩ ⟨[(wv : Int), w1], -1⟩ = (3, 0, ⟨wv, 4, stop, false⟩, ⟨[(wv : Int), (wv : Int) + 1], -1⟩) := by unfold tell; simp [may, put]
        rw [e]
        refine ⟨⟨okh, ?_, ?_, ?_⟩, ?_, ⟨n, rfl, ?_, ?_, ?_, ?_⟩, ⟨(wv : Int) + 1, rfl, ?_, ?_⟩, ?_, ?_, ?_, ?_⟩
        all_goals first | omega | (simp; done) | (simp; omega) | (simp_all; done) | (simp_all; omega)
    · have e : tell H 4 ⟨wv, 2, stop, false⟩ ⟨[(wv : Int), w1], left⟩ = (4, 0, ⟨wv, 3, stop, false⟩, ⟨[(wv : Int), w1], left⟩) := by unfold tell; simp [may]
      rw [e]
      refine ⟨⟨okh, ?_, ?_, ?_⟩, ?_, ⟨n, rfl, ?_, ?_, ?_, ?_⟩, ⟨w1, rfl, ?_, ?_⟩, ?_, ?_, ?_, ?_⟩
      all_goals first | omega | (simp; done) | (simp; omega) | (simp_all; done) | (simp_all; omega)
    · have e : tell H 5 ⟨wv, 3, stop, false⟩ ⟨[(wv : Int), w1], left⟩ = (1, 0, ⟨wv, 1, stop, false⟩, ⟨[(wv : Int), w1], left⟩) := by unfold tell; simp [may]
      rw [e]
      refine ⟨⟨okh, ?_, ?_, ?_⟩, ?_, ⟨n, rfl, ?_, ?_, ?_, ?_⟩, ⟨w1, rfl, ?_, ?_⟩, ?_, ?_, ?_, ?_⟩
      all_goals first | omega | (simp; done) | (simp; omega) | (simp_all; done) | (simp_all; omega)
    · have u6 := h6 rfl rfl
      rcases hleft with rfl | rfl
      · have e : tell H 6 ⟨wv, 4, stop, false⟩ ⟨[(wv : Int), w1], 0⟩ = (0, 11, ⟨wv, 4, stop, true⟩, ⟨[(wv : Int), w1], 0⟩) := by unfold tell; simp [may, put]
        rw [e]
        refine ⟨⟨okh, ?_, ?_, ?_⟩, ?_, ⟨n, rfl, ?_, ?_, ?_, ?_⟩, ⟨w1, rfl, ?_, ?_⟩, ?_, ?_, ?_, ?_⟩
        all_goals first | omega | (simp; done) | (simp; omega) | (simp_all; done) | (simp_all; omega)
      · have n7 : n = wv + 1 := by
          rcases n4 rfl with h | h
          · exact absurd h.1 u6
          · exact h.2
        by_cases hH : wv + 1 = H
        · have e : tell H 6 ⟨wv, 4, stop, false⟩ ⟨[(wv : Int), w1], -1⟩ = (4, 0, ⟨wv + 1, 6, stop, false⟩, ⟨[(wv : Int) + 1, w1], -1⟩) := by unfold tell; simp [may, put, next, hH]
          rw [e]
          refine ⟨⟨okh, ?_, ?_, ?_⟩, ?_, ⟨n, rfl, ?_, ?_, ?_, ?_⟩, ⟨w1, rfl, ?_, ?_⟩, ?_, ?_, ?_, ?_⟩
          all_goals first | omega | (simp; done) | (simp; omega) | (simp_all; done) | (simp_all; omega)
        · cases stop with
          | true =>
            have e : tell H 6 ⟨wv, 4, true, false⟩ ⟨[(wv : Int), w1], -1⟩ = (4, 0, ⟨wv + 1, 0, false, false⟩, ⟨[(wv : Int) + 1, w1], -1⟩) := by unfold tell; simp [may, put, next, hH]
            rw [e]
            refine ⟨⟨okh, ?_, ?_, ?_⟩, ?_, ⟨n, rfl, ?_, ?_, ?_, ?_⟩, ⟨w1, rfl, ?_, ?_⟩, ?_, ?_, ?_, ?_⟩
            all_goals first | omega | (simp; done) | (simp; omega) | (simp_all; done) | (simp_all; omega)
          | false =>
            have e : tell H 6 ⟨wv, 4, false, false⟩ ⟨[(wv : Int), w1], -1⟩ = (1, 0, ⟨wv + 1, 1, false, false⟩, ⟨[(wv : Int) + 1, w1], -1⟩) := by unfold tell; simp [may, put, next, hH]
            rw [e]
            refine ⟨⟨okh, ?_, ?_, ?_⟩, ?_, ⟨n, rfl, ?_, ?_, ?_, ?_⟩, ⟨w1, rfl, ?_, ?_⟩, ?_, ?_, ?_, ?_⟩
            all_goals first | omega | (simp; done) | (simp; omega) | (simp_all; done) | (simp_all; omega)
    · have e : tell H 7 ⟨wv, at_, stop, false⟩ ⟨[(wv : Int), w1], left⟩ = (0, 0, ⟨wv, at_, true, false⟩, ⟨[(wv : Int), w1], left⟩) := by unfold tell; rw [if_neg (by omega), if_neg (by simp [hm])]; simp
      rw [e]
      refine ⟨⟨okh, ?_, ?_, ?_⟩, ?_, ⟨n, rfl, ?_, ?_, ?_, ?_⟩, ⟨w1, rfl, ?_, ?_⟩, ?_, ?_, ?_, ?_⟩
      all_goals first | omega | (simp; done) | (simp; omega) | (simp_all; done) | (simp_all; omega)
    · have u8 := h8 rfl rfl
      rw [hlen] at u8
      rcases hleft with rfl | rfl
      · have e : tell H 8 ⟨wv, 5, stop, false⟩ ⟨[(wv : Int), w1], 0⟩ = (0, 11, ⟨wv, 5, stop, true⟩, ⟨[(wv : Int), w1], 0⟩) := by unfold tell; simp [may, put]
        rw [e]
        refine ⟨⟨okh, ?_, ?_, ?_⟩, ?_, ⟨n, rfl, ?_, ?_, ?_, ?_⟩, ⟨w1, rfl, ?_, ?_⟩, ?_, ?_, ?_, ?_⟩
        all_goals first | omega | (simp; done) | (simp; omega) | (simp_all; done) | (simp_all; omega)
      · by_cases hH : wv + 1 = H
        · have e : tell H 8 ⟨wv, 5, stop, false⟩ ⟨[(wv : Int), w1], -1⟩ = (4, 0, ⟨wv + 1, 6, stop, false⟩, ⟨[(wv : Int) + 1, w1], -1⟩) := by unfold tell; simp [may, put, next, hH]
          rw [e]
          refine ⟨⟨okh, ?_, ?_, ?_⟩, ?_, ⟨n, rfl, ?_, ?_, ?_, ?_⟩, ⟨w1, rfl, ?_, ?_⟩, ?_, ?_, ?_, ?_⟩
          all_goals first | omega | (simp; done) | (simp; omega) | (simp_all; done) | (simp_all; omega)
        · have e : tell H 8 ⟨wv, 5, stop, false⟩ ⟨[(wv : Int), w1], -1⟩ = (4, 0, ⟨wv + 1, 0, false, false⟩, ⟨[(wv : Int) + 1, w1], -1⟩) := by unfold tell; simp [may, put, next, hH]
          rw [e]
          refine ⟨⟨okh, ?_, ?_, ?_⟩, ?_, ⟨n, rfl, ?_, ?_, ?_, ?_⟩, ⟨w1, rfl, ?_, ?_⟩, ?_, ?_, ?_, ?_⟩
          all_goals first | omega | (simp; done) | (simp; omega) | (simp_all; done) | (simp_all; omega)
    · have u9 := h9 rfl rfl
      rw [hlen] at u9
      rcases hleft with rfl | rfl
      · have e : tell H 9 ⟨wv, 5, stop, false⟩ ⟨[(wv : Int), w1], 0⟩ = (0, 11, ⟨wv, 5, stop, true⟩, ⟨[(wv : Int), w1], 0⟩) := by unfold tell; simp [may, put]
        rw [e]
        refine ⟨⟨okh, ?_, ?_, ?_⟩, ?_, ⟨n, rfl, ?_, ?_, ?_, ?_⟩, ⟨w1, rfl, ?_, ?_⟩, ?_, ?_, ?_, ?_⟩
        all_goals first | omega | (simp; done) | (simp; omega) | (simp_all; done) | (simp_all; omega)
      · have e : tell H 9 ⟨wv, 5, stop, false⟩ ⟨[(wv : Int), w1], -1⟩ = (0, 0, ⟨wv, 0, stop, false⟩, ⟨[(wv : Int), 0], -1⟩) := by unfold tell; simp [may, put]
        rw [e]
        refine ⟨⟨okh, ?_, ?_, ?_⟩, ?_, ⟨n, rfl, ?_, ?_, ?_, ?_⟩, ⟨(0 : Int), rfl, ?_, ?_⟩, ?_, ?_, ?_, ?_⟩
        all_goals first | omega | (simp; done) | (simp; omega) | (simp_all; done) | (simp_all; omega)
end Lm
end Go.Proofs.Ytefmlepogpjhmaa
