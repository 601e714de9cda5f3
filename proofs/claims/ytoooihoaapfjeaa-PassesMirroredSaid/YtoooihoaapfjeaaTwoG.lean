/- As TwoF, for chains that may write into lists which were there before: all blocks below a number stay as they were. -/
import Derived.Test.YtoooihoaapfjeaaTwoF
import Derived.Test.YtoooihoaapfjeaaAppV
namespace Go.Proofs.Ytoooihoaapfjeaa
open Go.RowKit
set_option linter.unusedVariables false
set_option linter.unusedSimpArgs false
section
variable {P : Program} {ops : Array Oper} {md : Region.Mode} {Q : Exit → Act → World → Prop} {S : World → Prop}
theorem wp_region_HS (S : World → Prop) {id : Nat} {a : Act} {W : World} (hm : P.follows .mixedOrders = true) (h : wpAnyH P .any ops Q S ops.size (Array.replicate ops.size false) a W.drew) : (Code.region id ops true).wp P Q a W :=
  wp_region_any hm (wpAny_of_held _ _ _ _ h)
theorem SameOff.get {ts : List Nat} {a0 a : Act} (h : SameOff ts a0 a) {k : Nat} (hk : k ∉ ts) : a.tmps.getD k undef = a0.tmps.getD k undef := by
  rw [Array.getD_eq_getD_getElem?, Array.getD_eq_getD_getElem?, h.off k hk]
/-- Number i is taken first. -/
theorem anyH_takeS {i : Nat} {o : Oper} {f : Nat} {listed : Array Bool} {a : Act} {w : World} (hi : ops[i]? = some o)
    (hf : (Region.noSelect ops && Region.free md ops listed i && (Region.ready md ops listed).contains i) = true)
    (hQ : ∀ v c a w, Q (.panic c) (a.put o.dst v) w → Q (.panic c) a w) (hS : S w)
    (h : ∀ K : Act → Prop, (∀ a, wpAnyH P md ops Q S f (listed.setIfInBounds i true) a w → K a) →
      if Region.wanted o (yielded ops a.tmps) then ∃ v, (∀ w, S w → (execOp a.eval o).run P w = .ok (.value v) w) ∧ K (a.put o.dst v) else K (a.put o.dst undef)) : wpAnyH P md ops Q S (f + 1) listed a w := by
  simp only [Bool.and_eq_true] at hf
  obtain ⟨⟨h1, h2⟩, h3⟩ := hf
  have h4 := h _ fun _ h => h
  by_cases hw : Region.wanted o (yielded ops a.tmps) = true
  · rw [if_pos hw] at h4
    obtain ⟨v, hv, h5⟩ := h4
    exact wpAnyH_take hi h1 h2 h3 (hQ v) (.inl ⟨hw, hv⟩) hS h5
  · rw [if_neg hw] at h4
    exact wpAnyH_take hi h1 h2 h3 (hQ undef) (.inr ⟨by simpa using hw, rfl⟩) hS h4
/-- Number i alone can come up. -/
theorem anyH_one {i : Nat} {f : Nat} {listed : Array Bool} {a : Act} {w : World} (hr : Region.ready md ops listed = [i])
    (h : wpOp P ops Q i (fun a' w' => S w' ∧ wpAnyH P md ops Q S f (listed.setIfInBounds i true) a' w') a w) : wpAnyH P md ops Q S (f + 1) listed a w :=
  wpAnyH_all hr (by simp) fun j hj => by
    obtain rfl : j = i := by simpa using hj
    exact h
end
/-- 'append(s, l...)' as one operation of a drawn region. -/
theorem app_opG {t e bytes : Nat} {z : Value} (hE : ElemOk t e 1 bytes z) {w : World} {base : Nat} {ops : Array Oper} {i : Nat} {o : Oper} {a : Act} {Q : Exit → Act → World → Prop} {K : Act → World → Prop} (hi : ops[i]? = some o) (hg : o.guard = none) (s x : Operand) (ho : o.op = .call { callee := .builtin .append, args := #[s, x], argTypes := #[t, t] }) (T : Nat) (hd : o.dst = some T)
    (n : Nat) (xs news : List Value) (A : Option Addr) (m c : Nat) (hown : w.ownsRow base e 1 (a.eval s) n xs) (hx : a.eval x = .slice A m c) (hc : A = none → c = 0) (hl : news.length = m)
    (hI : 0 < m → ∃ b of, A = some ⟨b, of, none⟩ ∧ ∀ j u, news[j]? = some u → w.cell? ⟨b, of + j, none⟩ = some u) (h1 : ∀ u ∈ news, u.oneCell' = true) (hb : bytes ≤ 4096) (hn : n + m ≤ 1000000000) (hbase : base ≤ w.heap.size)
    (h : ∀ v' w', w'.ownsRow base e 1 v' (n + m) (xs ++ news) → w.grownBy w' (a.eval s).ownBlock → (v'.ownBlock = (a.eval s).ownBlock ∨ v'.ownBlock = some w.heap.size) → Below base w w' → K (a.put (some T) v') w') : wpOp Try.prog ops Q i K a w :=
  wpOp_list hi hg (wpAppV hE hg s x ho base _ n xs A m c news rfl hown hx hc hl hI h1 hb hn hbase fun v' w' h2 h3 h4 => hd.symm ▸ h v' w' h2 h3 h4 (belowGrown h3 hbase fun k hk => (hown.lt k hk).1))
theorem own_grownG {w w' : World} {base e n : Nat} {u : Value} {xs : List Value} {blk : Option Nat} (h : w.ownsRow base e 1 u n xs) (hg : w.grownBy w' blk) (hne : ∀ k, blk = some k → u.ownBlock ≠ some k) : w'.ownsRow base e 1 u n xs := by
  refine ⟨h.1, ?_⟩
  rcases h.2 with h2 | ⟨g, cap, cur, e, hb, hc, h3⟩
  · exact .inl h2
  · refine .inr ⟨g, cap, cur, e, hb, ?_, h3⟩
    rw [hg.block g (Array.getElem?_eq_some_iff.1 hc).1 (fun e2 => hne g e2.symm (by rw [e]; rfl))]
    exact hc
end Go.Proofs.Ytoooihoaapfjeaa
