/- A list in a block of one's own, as a stack and as a row that is written in place. -/
import Derived.Test.YtoooihoaapfjeaaAppV
import Derived.Test.YtoooihoaapfjeaaFB
namespace Go.Proofs.Ytoooihoaapfjeaa
open Go.RowKit
set_option linter.unusedVariables false
set_option linter.unusedSimpArgs false
theorem own_parts {w : World} {base e n c g : Nat} {xs : List Value} (h : w.ownsRow base e 1 (.slice (some ⟨g, 0, none⟩) n c) n xs) : xs.length = n ∧ base ≤ g ∧ n ≤ c ∧ c ≤ maxLen ∧ ∃ cur : Array Value, w.heap[g]? = some (.cells cur e (0, 0)) ∧ cur.size = c ∧ cur.toList.take n = xs := by
  have h0 := h.1
  rcases h.2 with ⟨e1, _⟩ | ⟨g', cap, cur, e1, hb, hg, h1, h2, h3, h4⟩
  · cases e1
  · injection e1 with e1 _ e3
    injection e1 with e1
    injection e1 with e1
    subst e1 e3
    rw [Nat.mul_one] at h0 h3 h4
    exact ⟨h0, hb, h1, h2, cur, hg, h3, h4⟩
theorem own_mk {w : World} {base e n c g : Nat} {xs : List Value} {cur : Array Value} (h0 : xs.length = n) (hb : base ≤ g) (h1 : n ≤ c) (h2 : c ≤ maxLen) (hg : w.heap[g]? = some (.cells cur e (0, 0))) (h3 : cur.size = c) (h4 : cur.toList.take n = xs) : w.ownsRow base e 1 (.slice (some ⟨g, 0, none⟩) n c) n xs :=
  ⟨by omega, .inr ⟨g, c, cur, rfl, hb, hg, h1, h2, by omega, by rw [Nat.mul_one]; exact h4⟩⟩
theorem own_keep {w w' : World} {base e n c g : Nat} {xs : List Value} (h : w.ownsRow base e 1 (.slice (some ⟨g, 0, none⟩) n c) n xs) (he : w'.heap[g]? = w.heap[g]?) : w'.ownsRow base e 1 (.slice (some ⟨g, 0, none⟩) n c) n xs := by
  obtain ⟨a, b, d, f, cur, g1, g2, g3⟩ := own_parts h
  exact own_mk a b d f (he.trans g1) g2 g3
theorem own_base {w : World} {base base' e n c g : Nat} {xs : List Value} (h : w.ownsRow base e 1 (.slice (some ⟨g, 0, none⟩) n c) n xs) (hb : base' ≤ g) : w.ownsRow base' e 1 (.slice (some ⟨g, 0, none⟩) n c) n xs := by
  obtain ⟨a, b, d, f, cur, g1, g2, g3⟩ := own_parts h
  exact own_mk a hb d f g1 g2 g3
theorem own_lt {w : World} {base e n c g : Nat} {xs : List Value} (h : w.ownsRow base e 1 (.slice (some ⟨g, 0, none⟩) n c) n xs) : g < w.heap.size := by
  obtain ⟨a, b, d, f, cur, g1, g2, g3⟩ := own_parts h
  exact (Array.getElem?_eq_some_iff.1 g1).1
theorem own_cell {w : World} {base e n c g i : Nat} {xs : List Value} (h : w.ownsRow base e 1 (.slice (some ⟨g, 0, none⟩) n c) n xs) (hi : i < n) : w.cell? ⟨g, i, none⟩ = xs[i]? ∧ w.frozen? ⟨g, i, none⟩ = false := by
  obtain ⟨a, b, d, f, cur, g1, g2, g3⟩ := own_parts h
  refine ⟨?_, by simp [World.frozen?, g1]⟩
  have h5 : cur[i]? = xs[i]? := by
    rw [← Array.getElem?_toList, ← List.getElem?_take_of_lt hi, g3]
  simp [World.cell?, g1, h5]
theorem own_set {w : World} {base e n c g i : Nat} {xs : List Value} {u : Value} (h : w.ownsRow base e 1 (.slice (some ⟨g, 0, none⟩) n c) n xs) (hi : i < n) : (w.setCell ⟨g, i, none⟩ u).ownsRow base e 1 (.slice (some ⟨g, 0, none⟩) n c) n (xs.set i u) := by
  obtain ⟨a, b, d, f, cur, g1, g2, g3⟩ := own_parts h
  refine own_mk (cur := cur.setIfInBounds i u) (by simpa using a) b d f ?_ (by simpa using g2) ?_
  · simp [World.setCell, Array.getElem?_modify, g1]
  · rw [Array.toList_setIfInBounds, ← g3, List.take_set]
/-- What lies in another block. -/
theorem own_other {w : World} {base e n c g : Nat} {a : Addr} {xs : List Value} {u : Value} (h : w.ownsRow base e 1 (.slice (some ⟨g, 0, none⟩) n c) n xs) (ha : g ≠ a.block) : (w.setCell a u).ownsRow base e 1 (.slice (some ⟨g, 0, none⟩) n c) n xs :=
  own_keep h (Below.heap_setCell _ _ _ g (fun e => ha e))
theorem own_pop {w : World} {base e n c g : Nat} {xs : List Value} {x : Value} (h : w.ownsRow base e 1 (.slice (some ⟨g, 0, none⟩) (n + 1) c) (n + 1) (xs ++ [x])) : w.ownsRow base e 1 (.slice (some ⟨g, 0, none⟩) n c) n xs ∧ w.cell? ⟨g, n, none⟩ = some x := by
  have hc := own_cell h (i := n) (by omega)
  obtain ⟨a, b, d, f, cur, g1, g2, g3⟩ := own_parts h
  have hl : xs.length = n := by simpa using a
  refine ⟨own_mk hl b (by omega) f g1 g2 ?_, ?_⟩
  · have := congrArg (List.take n) g3
    have e2 : (xs ++ [x]).take n = xs := by rw [List.take_append_of_le_length (by omega), List.take_of_length_le (by omega)]
    rw [List.take_take, Nat.min_eq_left (by omega), e2] at this
    exact this
  · rw [hc.1, List.getElem?_append_right (by omega), hl, Nat.sub_self]; rfl
theorem own_some {w : World} {base e n : Nat} {v : Value} {xs : List Value} (h : w.ownsRow base e 1 v n xs) (hn : 0 < n) : ∃ g c, v = .slice (some ⟨g, 0, none⟩) n c := by
  rcases h.2 with ⟨_, e0⟩ | ⟨g', cap, cur, e1, _⟩
  · omega
  · exact ⟨_, _, e1⟩
/-- 'append(s, x)' of one element, which lies in block B; where the new list lies. -/
theorem wpAppK {W : World} {ops : Array Oper} {rest : List Oper} {o : Oper} {a : Act} {Q : Exit → Act → World → Prop} {t e bytes : Nat} {z : Value} (hE : ElemOk t e 1 bytes z)
    (hgd : o.guard = none) (s x : Operand) (ho : o.op = .call { callee := .builtin .append, args := #[s, x], argTypes := #[t, t] })
    (base : Nat) (v : Value) (n : Nat) (xs : List Value) (u : Value) (B : Nat) (hs : a.eval s = v) (hown : W.ownsRow base e 1 v n xs)
    (hx : a.eval x = .slice (some ⟨B, 0, none⟩) 1 1) (hcs : W.cell? ⟨B, 0, none⟩ = some u) (h1 : u.oneCell' = true)
    (hb : bytes ≤ 4096) (hn : n ≤ 100000000) (hbase : base ≤ W.heap.size)
    (h : ∀ v' w', w'.ownsRow base e 1 v' (n + 1) (xs ++ [u]) → W.grownBy w' v.ownBlock → (v'.ownBlock = v.ownBlock ∨ v'.ownBlock = some W.heap.size) → wpList Try.prog ops Q rest (a.put o.dst v') w') : wpList Try.prog ops Q (o :: rest) a W :=
  wpAppV hE hgd s x ho base v n xs (some ⟨B, 0, none⟩) 1 1 [u] hs hown hx (fun e => by cases e) rfl (fun _ => ⟨B, 0, rfl, fun j y hj => by
    have hj0 : j = 0 := by
      have := (List.getElem?_eq_some_iff.1 hj).1
      simpa using this
    subst hj0
    simp at hj
    subst hj
    exact hcs⟩) (fun y hy => by simp at hy; subst hy; exact h1) hb (by omega) hbase h
theorem owns_new {w : World} {base e : Nat} {u : Value} (hb : base ≤ w.heap.size) : (w.alloc (.cells #[u] e)).ownsRow base e 1 (.slice (some ⟨w.heap.size, 0, none⟩) 1 1) 1 [u] :=
  own_mk rfl hb (Nat.le_refl _) (by unfold maxLen; omega) (heap_alloc_new w _) rfl rfl
end Go.Proofs.Ytoooihoaapfjeaa
