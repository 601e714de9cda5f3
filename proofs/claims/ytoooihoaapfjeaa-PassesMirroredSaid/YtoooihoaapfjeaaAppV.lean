/- 'append(s, l...)' of a list that lies somewhere, or of none. -/
import Derived.Test.YtoooihoaapfjeaaRin
import Derived.Laws.AppendOwnNone
import Derived.Maps.AppendAt
namespace Go.Proofs.Ytoooihoaapfjeaa
open Go.RowKit
set_option linter.unusedVariables false
set_option linter.unusedSimpArgs false
theorem own_none {w : World} {base e size n k c : Nat} {xs : List Value} (h : w.ownsRow base e size (.slice none k c) n xs) : c = 0 := by
  rcases h.2 with ⟨e1, _⟩ | ⟨g, cap, cur, e1, _⟩
  · injection e1
  · cases e1
theorem wpAppV {W : World} {ops : Array Oper} {rest : List Oper} {o : Oper} {a : Act} {Q : Exit → Act → World → Prop} {t e bytes : Nat} {z : Value} (hE : ElemOk t e 1 bytes z)
    (hgd : o.guard = none) (s x : Operand) (ho : o.op = .call { callee := .builtin .append, args := #[s, x], argTypes := #[t, t] })
    (base : Nat) (v : Value) (n : Nat) (xs : List Value) (A : Option Addr) (m c : Nat) (news : List Value) (hs : a.eval s = v) (hown : W.ownsRow base e 1 v n xs)
    (hx : a.eval x = .slice A m c) (hc : A = none → c = 0) (hl : news.length = m) (hI : 0 < m → ∃ b of, A = some ⟨b, of, none⟩ ∧ ∀ j u, news[j]? = some u → W.cell? ⟨b, of + j, none⟩ = some u)
    (h1 : ∀ u ∈ news, u.oneCell' = true) (hb : bytes ≤ 4096) (hn : n + m ≤ 1000000000) (hbase : base ≤ W.heap.size)
    (h : ∀ v' w', w'.ownsRow base e 1 v' (n + m) (xs ++ news) → W.grownBy w' v.ownBlock → (v'.ownBlock = v.ownBlock ∨ v'.ownBlock = some W.heap.size) → wpList Try.prog ops Q rest (a.put o.dst v') w') : wpList Try.prog ops Q (o :: rest) a W := by
  obtain ⟨h2, h3, h4, h5⟩ := hE
  obtain ⟨i0, hi, hz0, hz1, hz2⟩ := info_parts h3
  rcases A with _ | ad
  · have hm : m = 0 := by
      rcases Nat.eq_zero_or_pos m with h0 | h0
      · exact h0
      · obtain ⟨_, _, e, _⟩ := hI h0; cases e
    subst hm
    have hc0 := hc rfl
    subst hc0
    have hnn : news = [] := List.length_eq_zero_iff.1 hl
    subst hnn
    refine wpList_append_own_none hgd s x t ho base e i0 1 h2 hi v n xs hs hown hx (h v W ?_ (World.grownBy.refl _ _) (.inl rfl))
    simpa using hown
  · refine wpList_append_own_at _ hgd s x t ho base e i0 z 1 bytes h2 hi hz0 hz1 hz2 h4 h5 v n xs hs hown ad m c news hx (by simpa using hl) ?_ h1 (by unfold maxLen; omega) ?_ hbase ?_
    · intro j u hj
      have hjm : j < m := by rw [← hl]; exact (List.getElem?_eq_some_iff.1 hj).1
      obtain ⟨b, of, e, hcell⟩ := hI (by omega)
      cases e
      rw [Addr.add_lit]
      exact hcell j u hj
    · calc (n + m) * bytes ≤ 1000000001 * 4096 := Nat.mul_le_mul (by omega) hb
        _ ≤ 140737488355328 := by omega
    · intro v' w' hown' hg _ hat
      exact h v' w' hown' hg hat
end Go.Proofs.Ytoooihoaapfjeaa
