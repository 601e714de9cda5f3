/- Chapter 10: a loom, step by step: no program in sight. -/
import Derived.Test.YtefmlepogpjhmaaExt
namespace Go.Proofs.Ytefmlepogpjhmaa
open Go.RowKit
set_option linter.unusedVariables false
set_option linter.unusedSimpArgs false
namespace Lm
/-- What a loom knows: how many picks are woven, what it is in the midst of, whether it is to stop, whether its disk is gone. -/
structure St where
  wv : Nat
  at_ : Nat
  stop : Bool
  dead : Bool
/-- A disk: its words, and how many more the power lasts for (below 0: for ever). -/
structure Dk where
  ws : List Int
  left : Int
def wv0 (H : Nat) (ws : List Int) : Nat := if 0 < ws.getD 0 0 ∧ ws.getD 0 0 ≤ H then (ws.getD 0 0).toNat else 0
def begin_ (H : Nat) (ws : List Int) : St :=
  { wv := wv0 H ws, at_ := if wv0 H ws = H then 6 else if ws.getD 1 0 = (wv0 H ws : Int) + 1 then 5 else 0, stop := false, dead := false }
/-- A word is put: none without power. -/
def put (d : Dk) (i : Nat) (w : Int) : Option Dk :=
  if d.left = 0 then none else some { ws := d.ws.set i w, left := if 0 < d.left then d.left - 1 else d.left }
/-- Behind a pick. -/
def next (H : Nat) (l : St) : Int × St :=
  if l.wv + 1 = H then (4, { l with wv := l.wv + 1, at_ := 6 })
  else if l.stop = true ∨ l.at_ = 5 then (4, { l with wv := l.wv + 1, at_ := 0, stop := false })
  else (1, { l with wv := l.wv + 1, at_ := 1 })
/-- May an event come? -/
def may (ev : Int) (a : Nat) : Bool :=
  (ev == 1 && a == 0) || (ev == 2 && a == 1) || (ev == 3 && a == 2) || (ev == 4 && a == 2) || (ev == 5 && a == 3) || (ev == 6 && a == 4) || (ev == 7 && (a == 1 || a == 2 || a == 3 || a == 4)) || (ev == 8 && a == 5) || (ev == 9 && a == 5)
/-- An event is told: what is done, what is wrong, the loom and the disk behind it. -/
def tell (H : Nat) (ev : Int) (l : St) (d : Dk) : Int × Int × St × Dk :=
  if ev < 1 ∨ 9 < ev then (0, 1, l, d)
  else if l.dead = true ∨ may ev l.at_ = false then (0, 9, l, d)
  else if ev = 1 then (1, 0, { l with at_ := 1 }, d)
  else if ev = 2 then (2, 0, { l with at_ := 2 }, d)
  else if ev = 4 then (4, 0, { l with at_ := 3 }, d)
  else if ev = 5 then (1, 0, { l with at_ := 1 }, d)
  else if ev = 7 then (0, 0, { l with stop := true }, d)
  else if ev = 3 then match put d 1 ((l.wv : Int) + 1) with
    | none => (0, 11, { l with dead := true }, d)
    | some d' => (3, 0, { l with at_ := 4 }, d')
  else if ev = 9 then match put d 1 0 with
    | none => (0, 11, { l with dead := true }, d)
    | some d' => (0, 0, { l with at_ := 0 }, d')
  else match put d 0 ((l.wv : Int) + 1) with
    | none => (0, 11, { l with dead := true }, d)
    | some d' => ((next H l).1, 0, (next H l).2, d')
/-- What a loom can know. -/
structure Ok (H : Nat) (l : St) : Prop where
  h : 1 ≤ H
  w : l.wv ≤ H
  a : l.at_ ≤ 6
  lt : l.at_ ≤ 5 → l.wv < H
theorem begin_ok {H : Nat} (hH : 1 ≤ H) (ws : List Int) : Ok H (begin_ H ws) := by
  have hw : wv0 H ws ≤ H := by
    unfold wv0
    split
    · omega
    · omega
  unfold begin_
  generalize wv0 H ws = x at *
  by_cases h1 : x = H
  · refine ⟨hH, hw, ?_, ?_⟩
    · simp only; rw [if_pos h1]; omega
    · simp only; rw [if_pos h1]; omega
  · refine ⟨hH, hw, ?_, ?_⟩
    · simp only; rw [if_neg h1]; split <;> omega
    · simp only; intro _; omega
theorem may_lt {ev : Int} {a : Nat} (h : may ev a = true) : a ≤ 5 := by
  unfold may at h
  simp only [Bool.or_eq_true, Bool.and_eq_true, beq_iff_eq] at h
  omega
theorem next_ok {H : Nat} {l : St} (h : Ok H l) (h5 : l.at_ ≤ 5) : Ok H (next H l).2 := by
  have h1 := h.lt h5
  unfold next
  split
  · exact ⟨h.h, by simp only; omega, by simp only; omega, by simp only; omega⟩
  · split
    · exact ⟨h.h, by simp only; omega, by simp only; omega, by simp only; omega⟩
    · exact ⟨h.h, by simp only; omega, by simp only; omega, by simp only; omega⟩
theorem tell_ok {H : Nat} {ev : Int} {l : St} {d : Dk} (h : Ok H l) : Ok H (tell H ev l d).2.2.1 := by
  unfold tell
  split
  · exact h
  · split
    · exact h
    · rename_i h2
      have hm : may ev l.at_ = true := by
        cases hb : may ev l.at_ with
        | true => rfl
        | false => exact absurd (.inr hb) h2
      have h5 := may_lt hm
      have h1 := h.lt h5
      have hs : ∀ a : Nat, a ≤ 5 → Ok H { l with at_ := a } := fun a ha => ⟨h.h, h.w, by simp only; omega, fun _ => h1⟩
      have hd : Ok H { l with dead := true } := ⟨h.h, h.w, h.a, h.lt⟩
      split
      · exact hs 1 (by omega)
      · split
        · exact hs 2 (by omega)
        · split
          · exact hs 3 (by omega)
          · split
            · exact hs 1 (by omega)
            · split
              · exact ⟨h.h, h.w, h.a, h.lt⟩
              · split
                · cases put d 1 ((l.wv : Int) + 1) with
                  | none => exact hd
                  | some d' => exact hs 4 (by omega)
                · split
                  · cases put d 1 0 with
                    | none => exact hd
                    | some d' => exact hs 0 (by omega)
                  · cases put d 0 ((l.wv : Int) + 1) with
                    | none => exact hd
                    | some d' => exact next_ok h h5
theorem put_len {d d' : Dk} {i : Nat} {w : Int} (h : put d i w = some d') : d'.ws.length = d.ws.length := by
  unfold put at h
  split at h
  · cases h
  · injection h with h
    subst h
    simp
theorem tell_len {H : Nat} {ev : Int} {l : St} {d : Dk} : (tell H ev l d).2.2.2.ws.length = d.ws.length := by
  unfold tell
  repeat' split
  all_goals first | rfl | (rename_i h; exact put_len h) | (rename_i h; simp only; exact put_len h)
/-- A step of the script: Power, Open, Event. -/
structure Step where
  pw : Int
  op : Bool
  ev : Int
/-- What is seen. -/
structure Seen where
  do_ : Int
  st : Int
  wv : Int
  row : List Bool
  oe : Int
  er : Int
def rowOf (W : Nat) (bs : List Bool) (l : St) : List Bool := if 1 ≤ l.at_ ∧ l.at_ ≤ 4 then (bs.drop (l.wv * W)).take W else []
def step (W H : Nat) (bs : List Bool) (x : Step) (l : St) (d : Dk) : Seen × St × Dk :=
  let d1 : Dk := if x.pw = 0 then d else { d with left := IntKind.i64.wrap (x.pw - 1) }
  let l1 : St := if x.op = true then begin_ H d1.ws else l
  let t := if x.ev = 0 then (0, 0, l1, d1) else tell H x.ev l1 d1
  ({ do_ := t.1, st := t.2.2.1.at_, wv := t.2.2.1.wv, row := rowOf W bs t.2.2.1, oe := 0, er := t.2.1 }, t.2.2.1, t.2.2.2)
end Lm
end Go.Proofs.Ytefmlepogpjhmaa
