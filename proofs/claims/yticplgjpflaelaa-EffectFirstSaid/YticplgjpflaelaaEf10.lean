/- Lemmas and contracts of functions (what each call returns, and that it changes nothing that was there) that the proof of a law of this seat uses; each lemma states its own conditions. -/
import Derived.Test.YticplgjpflaelaaEf9
import Derived.Test.YticplgjpflaelaaTwoF
namespace Go.Proofs.Yticplgjpflaelaa
open Go.RowKit
set_option linter.unusedVariables false
set_option linter.unusedSimpArgs false
open Ef
theorem eCl_any (ea : Option Addr) (en ec : Nat) (es : List Int) (pa : Option Addr) (pn pc : Nat) (ps : List Int) (W H : Nat) (a : Option Addr) (n c : Nat) (cs : List Int) (he : en ≤ 9223372036854775807) (hp : pn ≤ 9223372036854775807) (z1 : ea = none → ec = 0) (z2 : pa = none → pc = 0) (hW1 : 1 ≤ W) (hW : W ≤ 64) (hH1 : 1 ≤ H) (hH : H ≤ 64) (hn : n = W * H) (hCR : ∀ x ∈ cs, 0 ≤ x ∧ x < 62) (hel : es.length = en) (hpl : ps.length = pn) :
    (∃ e : Int, e ≠ 0 ∧ ∀ w, SArg ea en ec es pa pn pc ps w → IsInts w a n cs → Calls Try.prog 29 #[.agg #[.slice ea en ec, .slice pa pn pc], .agg #[.int .i64 (4), .int .i64 (W), .int .i64 (H), .slice a n c]] w (TrPost 0 0 0 [] e w)) ∨
    (W = en ∧ H = pn ∧ Soln W cs (W + H) (es ++ ps) ∧ ∀ w, SArg ea en ec es pa pn pc ps w → IsInts w a n cs → Calls Try.prog 29 #[.agg #[.slice ea en ec, .slice pa pn pc], .agg #[.int .i64 (4), .int .i64 (W), .int .i64 (H), .slice a n c]] w (TrPost W H n (clB W es cs n) 0 w)) := by
  have hn4 : n ≤ 4096 := by rw [hn]; exact Nat.mul_le_mul hW hH
  have hc0 : chE 4 W H n cs = 0 := chE_ok (.inl rfl) hW1 hW hH1 hH hn hCR
  by_cases hs : stE en pn es ps = 0
  · by_cases hw : W = en
    · by_cases hh : H = pn
      · subst hw hh
        by_cases hok : clOk W es ps cs n
        · refine .inr ⟨rfl, rfl, soln_of hn hel hpl hs hok, fun w hS hI => (eCl_ok W H ea ec es pa pc ps a n c cs w hS z1 z2 hs hI hW hH hn hCR).mono ?_⟩
          intro r w' h
          unfold ClPost at h
          rcases h with ⟨_, h⟩ | ⟨h, _⟩
          · exact h
          · exact absurd hok h
        · refine .inl ⟨6, by omega, fun w hS hI => (eCl_ok W H ea ec es pa pc ps a n c cs w hS z1 z2 hs hI hW hH hn hCR).mono ?_⟩
          intro r w' h
          unfold ClPost at h
          rcases h with ⟨h, _⟩ | ⟨_, h⟩
          · exact absurd h hok
          · exact h
      · exact .inl ⟨8, by omega, fun w hS hI => eCl_e5 ea en ec es pa pn pc ps 4 W H a n c cs w hS hI he hp z1 z2 (by omega) (by omega) (by omega) (by omega) hs hc0 ⟨rfl, by omega, by omega⟩⟩
    · exact .inl ⟨8, by omega, fun w hS hI => eCl_e4 ea en ec es pa pn pc ps 4 W H a n c cs w hS hI he hp z1 z2 (by omega) (by omega) (by omega) (by omega) hs hc0 ⟨rfl, by omega⟩⟩
  · exact .inl ⟨_, hs, fun w hS hI => eCl_e1 ea en ec es pa pn pc ps 4 W H a n c cs w hS hI he hp z1 z2 hs⟩
theorem SameOff.get {ts : List Nat} {a0 a : Act} (h : SameOff ts a0 a) {k : Nat} (hk : k ∉ ts) : a.tmps.getD k undef = a0.tmps.getD k undef := by
  rw [Array.getD_eq_getD_getElem?, Array.getD_eq_getD_getElem?, h.off k hk]
/-- 'append(s, l...)' as one operation of a drawn region. -/
theorem app_op {W0 w : World} {ops : Array Oper} {i : Nat} {o : Oper} {a : Act} {Q : Exit → Act → World → Prop} {K : Act → World → Prop} (hi : ops[i]? = some o) (hg : o.guard = none) (s x : Operand) (ho : o.op = .call { callee := .builtin .append, args := #[s, x], argTypes := #[37, 37] })
    (L M : List Int) (A : Option Addr) (m c : Nat) (hown : w.ownsRow W0.heap.size 3 1 (a.eval s) L.length (L.map i64v)) (hx : a.eval x = .slice A m c) (hI : IsInts W0 A m M) (hc : A = none → c = 0) (hn : L.length + m ≤ 1000000) (hw : ExtOf W0 w)
    (h : ∀ v' w', w'.ownsRow W0.heap.size 3 1 v' (L ++ M).length ((L ++ M).map i64v) → ExtOf W0 w' → w.grownBy w' (a.eval s).ownBlock → (v'.ownBlock = (a.eval s).ownBlock ∨ v'.ownBlock = some w.heap.size) → K (a.put o.dst v') w') : wpOp Try.prog ops Q i K a w := by
  obtain ⟨E, d, rfl⟩ := hw
  have hb : Below W0.heap.size W0 (extW W0 E d) := bExtW (Below.refl _ _) (Nat.le_refl _)
  have hI2 := hI.below hb
  refine wpOp_list hi hg (wpAppV okI8 hg s x ho W0.heap.size _ L.length (L.map i64v) A m c (M.map i64v) rfl hown hx hc (by rw [List.length_map, hI.1]) (ints_cells hI2) (ints_one M) (by omega) (by omega) hb.size ?_)
  intro v' w' h1 h2 h3
  refine h v' w' (by rw [List.length_append, List.map_append, hI.1]; exact h1) ?_ h2 h3
  exact bExt (hb.trans (belowGrown h2 hb.size fun k hk => (hown.lt k hk).1))
/-- One list of a chain: what its slot owns. -/
def Cur (base : Nat) (k : Nat) (L : List Int) (a : Act) (w : World) : Prop := w.ownsRow base 3 1 (a.tmps.getD k undef) L.length (L.map i64v)
def sA (i : Nat) : Nat := if i = 1 then 29 else if i = 2 then 32 else 35
def sB (i : Nat) : Nat := if i = 1 then 36 else if i = 2 then 39 else 42
def lst3 (L M : List Int) (i : Nat) : List Int := if i = 1 then [] else if i = 2 then L else L ++ M
/-- Both chains. -/
structure Both (base : Nat) (sA sB : Nat → Nat) (LA MA LB MB : List Int) (i j : Nat) (a : Act) (w : World) : Prop where
  one : 0 < i → Cur base (sA i) (lst3 LA MA i) a w
  two : 0 < j → Cur base (sB j) (lst3 LB MB j) a w
  apart : 0 < i → 0 < j → ∀ k, (a.tmps.getD (sA i) undef).ownBlock = some k → (a.tmps.getD (sB j) undef).ownBlock ≠ some k
theorem Both.swap {base : Nat} {sA sB : Nat → Nat} {LA MA LB MB : List Int} {i j : Nat} {a : Act} {w : World} (h : Both base sA sB LA MA LB MB i j a w) : Both base sB sA LB MB LA MA j i a w :=
  ⟨h.two, h.one, fun h1 h2 k e1 e2 => h.apart h2 h1 k e2 e1⟩
theorem Both.step {base : Nat} {sA sB : Nat → Nat} {LA MA LB MB : List Int} {i j : Nat} {a : Act} {w w' : World} {v : Value} (h : Both base sA sB LA MA LB MB i j a w) (hd : ∀ i j, sA i ≠ sB j) (hl : sA (i + 1) < a.tmps.size)
    (hown : w'.ownsRow base 3 1 v (lst3 LA MA (i + 1)).length ((lst3 LA MA (i + 1)).map i64v))
    (hkeep : ∀ u n xs, w.ownsRow base 3 1 u n xs → (∀ k, 0 < i → (a.tmps.getD (sA i) undef).ownBlock = some k → u.ownBlock ≠ some k) → w'.ownsRow base 3 1 u n xs)
    (hnew : ∀ k, v.ownBlock = some k → (0 < i ∧ (a.tmps.getD (sA i) undef).ownBlock = some k) ∨ w.heap.size ≤ k) : Both base sA sB LA MA LB MB (i + 1) j (a.put (some (sA (i + 1))) v) w' := by
  have e1 : (a.put (some (sA (i + 1))) v).tmps.getD (sA (i + 1)) undef = v := put_at hl
  have e2 : (a.put (some (sA (i + 1))) v).tmps.getD (sB j) undef = a.tmps.getD (sB j) undef := put_off (hd _ _)
  refine ⟨fun _ => ?_, fun hj => ?_, fun _ hj k h1 h2 => ?_⟩
  · unfold Cur; rw [e1]; exact hown
  · unfold Cur; rw [e2]
    exact hkeep _ _ _ (h.two hj) fun k hi e => h.apart hi hj k e
  · rw [e1] at h1
    rw [e2] at h2
    rcases hnew k h1 with ⟨hi, h3⟩ | h3
    · exact h.apart hi hj k h3 h2
    · have := ((h.two hj).lt k h2).2
      omega
theorem own_grown {w w' : World} {base n : Nat} {u : Value} {xs : List Value} {blk : Option Nat} (h : w.ownsRow base 3 1 u n xs) (hg : w.grownBy w' blk) (hne : ∀ k, blk = some k → u.ownBlock ≠ some k) : w'.ownsRow base 3 1 u n xs := by
  refine ⟨h.1, ?_⟩
  rcases h.2 with h2 | ⟨g, cap, cur, e, hb, hc, h3⟩
  · exact .inl h2
  · refine .inr ⟨g, cap, cur, e, hb, ?_, h3⟩
    rw [hg.block g (Array.getElem?_eq_some_iff.1 hc).1 (fun e2 => hne g e2.symm (by rw [e]; rfl))]
    exact hc
theorem g_zero {p : List Int} {i : Nat} (h : i < p.length) : g p i = p.getD i 0 := by
  unfold g; simp [List.getD, h]
theorem sAB : ∀ i j, sA i ≠ sB j := by
  intro i j
  unfold sA sB
  (repeat' split) <;> omega
theorem sBA : ∀ i j, sB i ≠ sA j := fun i j e => sAB j i e.symm
set_option maxRecDepth 100000 in
set_option maxHeartbeats 8000000 in
theorem first_ok (ea : Option Addr) (en ec : Nat) (es : List Int) (pa : Option Addr) (pn pc : Nat) (ps : List Int) (a : Option Addr) (n c : Nat) (cs : List Int) (wz : World) (hS : SArg ea en ec es pa pn pc ps wz) (hC : IsInts wz a n cs) (he : en ≤ 64) (hp : pn ≤ 64) (he1 : 1 ≤ en) (hp1 : 1 ≤ pn) (z1 : ea = none → ec = 0) (z2 : pa = none → pc = 0)
    (hsol : Soln en cs (en + pn) (es ++ ps)) (hel : es.length = en) (hpl : ps.length = pn)
    (KST : Hid (∀ w, IsInts w a n cs → Calls Try.prog 28 #[.agg #[.int .i64 (4), .int .i64 (en), .int .i64 (pn), .slice a n c]] w fun r w' => (∃ p A C B D, Str en cs (en + pn) (en + pn) p ∧ r = .returned (.tuple #[.agg #[.slice A en C, .slice B pn D], .int .i64 (0)]) ∧ IsInts w' A en (p.take en) ∧ IsInts w' B pn (p.drop en)) ∧ Below w.heap.size w w'))
    (KCL : Hid (∀ w, SArg ea en ec es pa pn pc ps w → IsInts w a n cs → Calls Try.prog 29 #[.agg #[.slice ea en ec, .slice pa pn pc], .agg #[.int .i64 (4), .int .i64 (en), .int .i64 (pn), .slice a n c]] w (TrPost en pn n (clB en es cs n) 0 w))) :
    Calls Try.prog 9 #[.agg #[.slice ea en ec, .slice pa pn pc], .agg #[.int .i64 (4), .int .i64 (en), .int .i64 (pn), .slice a n c]] wz fun e w' => e = .returned (.bool true) ∧ Below wz.heap.size wz w' := by
  have HS := Lib.hid hS; have HC := Lib.hid hC
  have HSOL := Lib.hid hsol
  clear hS hC hsol
  go_enter Try.func9, Try.ntmps9
  (go_wp2_with fail; refine (alive19_any _).mono ?_; rintro r w1 ⟨rfl, hb⟩; obtain ⟨E, d, rfl⟩ := bExt hb; clear hb)
  go_wp2_with fail
  refine (KST.out _ (HC.out.below (by repeat (first | exact Below.refl _ _ | refine Below.drew ?_ | refine below_drewN ?_ _ | refine Below.alloc ?_ (by first | exact Nat.le_refl _ | (simp; done) | (simp; omega) | omega) _ | refine Below.setCell ?_ (by first | exact Nat.le_refl _ | (simp; done) | (simp; omega) | omega) _ | refine bExtW ?_ (by first | exact Nat.le_refl _ | (simp; done) | (simp; omega) | omega) | refine Below.trans ?_ (Below.mono (by assumption) (by first | exact Nat.le_refl _ | (simp; done) | (simp; omega) | omega)))))).mono ?_
  rintro r wx ⟨⟨p, A31, C31, B31, D31, hp, rfl, hi1, hi2⟩, hb⟩
  obtain ⟨E31, d31, rfl⟩ := bExt hb
  have HPS := Lib.hid hp
  have hlp : p.length = en + pn := hp.inv.1
  have zt1 : A31 = none → C31 = 0 := someI hi1 he1
  have zt2 : B31 = none → D31 = 0 := someI hi2 hp1
  have HS31 : Hid (SArg A31 en C31 (p.take en) B31 pn D31 (p.drop en) _) := Lib.hid ⟨hi1, hi2⟩
  clear hb hp hi1 hi2
  go_wp2_with fail
  refine (KCL.out _ (HS.out.below (by repeat (first | exact Below.refl _ _ | refine Below.drew ?_ | refine below_drewN ?_ _ | refine Below.alloc ?_ (by first | exact Nat.le_refl _ | (simp; done) | (simp; omega) | omega) _ | refine Below.setCell ?_ (by first | exact Nat.le_refl _ | (simp; done) | (simp; omega) | omega) _ | refine bExtW ?_ (by first | exact Nat.le_refl _ | (simp; done) | (simp; omega) | omega) | refine Below.trans ?_ (Below.mono (by assumption) (by first | exact Nat.le_refl _ | (simp; done) | (simp; omega) | omega))))) (HC.out.below (by repeat (first | exact Below.refl _ _ | refine Below.drew ?_ | refine below_drewN ?_ _ | refine Below.alloc ?_ (by first | exact Nat.le_refl _ | (simp; done) | (simp; omega) | omega) _ | refine Below.setCell ?_ (by first | exact Nat.le_refl _ | (simp; done) | (simp; omega) | omega) _ | refine bExtW ?_ (by first | exact Nat.le_refl _ | (simp; done) | (simp; omega) | omega) | refine Below.trans ?_ (Below.mono (by assumption) (by first | exact Nat.le_refl _ | (simp; done) | (simp; omega) | omega)))))).mono ?_
  rintro r wx ⟨A32, C32, rfl, hT, hb⟩
  obtain ⟨E32, d32, rfl⟩ := bExt hb
  have HT32 := Lib.hid hT
  clear hb hT
  go_wp2_with fail
  have hb9 : Below wz.heap.size wz ((extW ((extW (extW ((wz.alloc (.cells #[.slice ea en ec, .slice pa pn pc] 48)).alloc (.cells #[.int .i64 (4), .int .i64 (en), .int .i64 (pn), .slice a n c] 50)) E d) E31 d31).alloc (.cells #[.slice A31 en C31, .slice B31 pn D31] 48)) E32 d32).alloc (.cells #[.int .i64 (en), .int .i64 (pn), .slice A32 n C32] 24)) := (by repeat (first | exact Below.refl _ _ | refine Below.drew ?_ | refine below_drewN ?_ _ | refine Below.alloc ?_ (by first | exact Nat.le_refl _ | (simp; done) | (simp; omega) | omega) _ | refine Below.setCell ?_ (by first | exact Nat.le_refl _ | (simp; done) | (simp; omega) | omega) _ | refine bExtW ?_ (by first | exact Nat.le_refl _ | (simp; done) | (simp; omega) | omega) | refine Below.trans ?_ (Below.mono (by assumption) (by first | exact Nat.le_refl _ | (simp; done) | (simp; omega) | omega))))
  have x0 : ((extW ((extW (extW ((wz.alloc (.cells #[.slice ea en ec, .slice pa pn pc] 48)).alloc (.cells #[.int .i64 (4), .int .i64 (en), .int .i64 (pn), .slice a n c] 50)) E d) E31 d31).alloc (.cells #[.slice A31 en C31, .slice B31 pn D31] 48)) E32 d32).alloc (.cells #[.int .i64 (en), .int .i64 (pn), .slice A32 n C32] 24)).cell? ⟨wz.heap.size, 0, none⟩ = some (.slice ea en ec) := by go_simp
  have x1 : ((extW ((extW (extW ((wz.alloc (.cells #[.slice ea en ec, .slice pa pn pc] 48)).alloc (.cells #[.int .i64 (4), .int .i64 (en), .int .i64 (pn), .slice a n c] 50)) E d) E31 d31).alloc (.cells #[.slice A31 en C31, .slice B31 pn D31] 48)) E32 d32).alloc (.cells #[.int .i64 (en), .int .i64 (pn), .slice A32 n C32] 24)).cell? ⟨wz.heap.size, 1, none⟩ = some (.slice pa pn pc) := by go_simp
  have y0 : ((extW ((extW (extW ((wz.alloc (.cells #[.slice ea en ec, .slice pa pn pc] 48)).alloc (.cells #[.int .i64 (4), .int .i64 (en), .int .i64 (pn), .slice a n c] 50)) E d) E31 d31).alloc (.cells #[.slice A31 en C31, .slice B31 pn D31] 48)) E32 d32).alloc (.cells #[.int .i64 (en), .int .i64 (pn), .slice A32 n C32] 24)).cell? ⟨wz.heap.size + 1 + 1 + E.size + E31.size, 0, none⟩ = some (.slice A31 en C31) := by go_simp
  have y1 : ((extW ((extW (extW ((wz.alloc (.cells #[.slice ea en ec, .slice pa pn pc] 48)).alloc (.cells #[.int .i64 (4), .int .i64 (en), .int .i64 (pn), .slice a n c] 50)) E d) E31 d31).alloc (.cells #[.slice A31 en C31, .slice B31 pn D31] 48)) E32 d32).alloc (.cells #[.int .i64 (en), .int .i64 (pn), .slice A32 n C32] 24)).cell? ⟨wz.heap.size + 1 + 1 + E.size + E31.size, 1, none⟩ = some (.slice B31 pn D31) := by go_simp
  have lq : LtW wz.heap.size ((extW ((extW (extW ((wz.alloc (.cells #[.slice ea en ec, .slice pa pn pc] 48)).alloc (.cells #[.int .i64 (4), .int .i64 (en), .int .i64 (pn), .slice a n c] 50)) E d) E31 d31).alloc (.cells #[.slice A31 en C31, .slice B31 pn D31] 48)) E32 d32).alloc (.cells #[.int .i64 (en), .int .i64 (pn), .slice A32 n C32] 24)) := by unfold LtW; simp; omega
  have lb : LtW (wz.heap.size + 1 + 1 + E.size + E31.size) ((extW ((extW (extW ((wz.alloc (.cells #[.slice ea en ec, .slice pa pn pc] 48)).alloc (.cells #[.int .i64 (4), .int .i64 (en), .int .i64 (pn), .slice a n c] 50)) E d) E31 d31).alloc (.cells #[.slice A31 en C31, .slice B31 pn D31] 48)) E32 d32).alloc (.cells #[.int .i64 (en), .int .i64 (pn), .slice A32 n C32] 24)) := by unfold LtW; simp; omega
  have HS9 : Hid (SArg ea en ec es pa pn pc ps ((extW ((extW (extW ((wz.alloc (.cells #[.slice ea en ec, .slice pa pn pc] 48)).alloc (.cells #[.int .i64 (4), .int .i64 (en), .int .i64 (pn), .slice a n c] 50)) E d) E31 d31).alloc (.cells #[.slice A31 en C31, .slice B31 pn D31] 48)) E32 d32).alloc (.cells #[.int .i64 (en), .int .i64 (pn), .slice A32 n C32] 24))) := Lib.hid (HS.out.below (by repeat (first | exact Below.refl _ _ | refine Below.drew ?_ | refine below_drewN ?_ _ | refine Below.alloc ?_ (by first | exact Nat.le_refl _ | (simp; done) | (simp; omega) | omega) _ | refine Below.setCell ?_ (by first | exact Nat.le_refl _ | (simp; done) | (simp; omega) | omega) _ | refine bExtW ?_ (by first | exact Nat.le_refl _ | (simp; done) | (simp; omega) | omega) | refine Below.trans ?_ (Below.mono (by assumption) (by first | exact Nat.le_refl _ | (simp; done) | (simp; omega) | omega)))))
  have HT9 : Hid (SArg A31 en C31 (p.take en) B31 pn D31 (p.drop en) ((extW ((extW (extW ((wz.alloc (.cells #[.slice ea en ec, .slice pa pn pc] 48)).alloc (.cells #[.int .i64 (4), .int .i64 (en), .int .i64 (pn), .slice a n c] 50)) E d) E31 d31).alloc (.cells #[.slice A31 en C31, .slice B31 pn D31] 48)) E32 d32).alloc (.cells #[.int .i64 (en), .int .i64 (pn), .slice A32 n C32] 24))) := Lib.hid (HS31.out.below (by repeat (first | exact Below.refl _ _ | refine Below.drew ?_ | refine below_drewN ?_ _ | refine Below.alloc ?_ (by first | exact Nat.le_refl _ | (simp; done) | (simp; omega) | omega) _ | refine Below.setCell ?_ (by first | exact Nat.le_refl _ | (simp; done) | (simp; omega) | omega) _ | refine bExtW ?_ (by first | exact Nat.le_refl _ | (simp; done) | (simp; omega) | omega) | refine Below.trans ?_ (Below.mono (by assumption) (by first | exact Nat.le_refl _ | (simp; done) | (simp; omega) | omega)))))
  have HB9 := Lib.hid hb9
  clear hb9 HS HS31 HT32 HC
  generalize (extW ((extW (extW ((wz.alloc (.cells #[.slice ea en ec, .slice pa pn pc] 48)).alloc (.cells #[.int .i64 (4), .int .i64 (en), .int .i64 (pn), .slice a n c] 50)) E d) E31 d31).alloc (.cells #[.slice A31 en C31, .slice B31 pn D31] 48)) E32 d32).alloc (.cells #[.int .i64 (en), .int .i64 (pn), .slice A32 n C32] 24) = W at *
  generalize wz.heap.size + 1 + 1 + E.size + E31.size = b5 at *
  obtain ⟨q, hq⟩ : ∃ q, wz.heap.size = q := ⟨_, rfl⟩
  rw [hq] at x0 x1 lq ⊢
  have HQE := Lib.hid hq
  clear hq
  refine wp_region_H (by kernel_rfl) ?_
  (refine anyH_take (i := 1) rfl (by kernel_rfl) (fun _ _ _ _ h => h) (ext_drew _) (fun K hK => ?_); go_simp; refine hK _ ?_; clear hK K); (refine anyH_take (i := 2) rfl (by kernel_rfl) (fun _ _ _ _ h => h) (ext_drew _) (fun K hK => ?_); go_simp; refine hK _ ?_; clear hK K); (refine anyH_take (i := 4) rfl (by kernel_rfl) (fun _ _ _ _ h => h) (ext_drew _) (fun K hK => ?_); go_simp; refine hK _ ?_; clear hK K); (refine anyH_take (i := 5) rfl (by kernel_rfl) (fun _ _ _ _ h => h) (ext_drew _) (fun K hK => ?_); go_simp; refine hK _ ?_; clear hK K); (refine anyH_take (i := 8) rfl (by kernel_rfl) (fun _ _ _ _ h => h) (ext_drew _) (fun K hK => ?_); go_simp; refine hK _ ?_; clear hK K); (refine anyH_take (i := 9) rfl (by kernel_rfl) (fun _ _ _ _ h => h) (ext_drew _) (fun K hK => ?_); go_simp; refine hK _ ?_; clear hK K); (refine anyH_take (i := 11) rfl (by kernel_rfl) (fun _ _ _ _ h => h) (ext_drew _) (fun K hK => ?_); go_simp; refine hK _ ?_; clear hK K); (refine anyH_take (i := 12) rfl (by kernel_rfl) (fun _ _ _ _ h => h) (ext_drew _) (fun K hK => ?_); go_simp; refine hK _ ?_; clear hK K)
  have l1 : (p.take en).length = en := by rw [List.length_take, hlp]; omega
  have l2 : (p.drop en).length = pn := by rw [List.length_drop, hlp]; omega
  refine anyH_two (A := [0, 3, 6]) (B := [7, 10, 13]) (g := 2) (by kernel_rfl) (by kernel_rfl) [29, 32, 35, 36, 39, 42] (Both W.heap.size sA sB (p.take en) (p.drop en) es ps) ?_ ?_ (ext_drew _) ⟨fun h => absurd h (by omega), fun h => absurd h (by omega), fun h => absurd h (by omega)⟩ ?_
  · intro i j b w hi hj hs hw hR
    have hi3 : i = 0 ∨ i = 1 ∨ i = 2 := by simp at hi; omega
    have h31 : b.tmps.getD 31 undef = .slice A31 en C31 := hs.get (k := 31) (by decide)
    have h34 : b.tmps.getD 34 undef = .slice B31 pn D31 := hs.get (k := 34) (by decide)
    have hsz : b.tmps.size = 72 := hs.size
    rcases hi3 with rfl | rfl | rfl
    · skip
      refine wpOp_go (i := 0) rfl rfl (fun K hK => ?_)
      go_simp
      have hww := hw
      obtain ⟨E, d, rfl⟩ := hw
      have hR' := (hR).step (w' := (extW W E d).alloc (.cells #[] 3)) (v := .slice (some ⟨(extW W E d).heap.size, 0, none⟩) 0 0) sAB (by rw [hsz]; decide) (owns_empty _ _ (by simp)) (fun u n xs h _ => ownBelow h (Below.alloc (Below.refl _ _) (Nat.le_refl _) _)) (fun k e => .inr (by cases e; exact Nat.le_refl _))
      exact hK (b.put (some 29) _) _ ⟨hs.put (by decide) _, ⟨_, _, alloc_extW _ _ _ _⟩, hR'⟩
    · skip
      have hc : Cur W.heap.size 29 ([]) b w := (hR).one (by decide)
      refine app_op (W0 := W) (i := 3) rfl rfl (.tmp 29) (.tmp 31) rfl ([]) ((p.take en)) (A31) (en) (C31) hc h31 HT9.out.e zt1 (by first | (simp; omega) | omega) hw ?_
      intro v' w' h1 h2 h3 h4
      have hR' := (hR).step (w' := w') (v := v') sAB (by rw [hsz]; decide) h1 (fun u n xs h hn => own_grown h h3 fun k e => hn k (by decide) e) (fun k e => by
        rcases h4 with h4 | h4
        · exact .inl ⟨by decide, h4.symm.trans e⟩
        · rw [h4] at e; cases e; exact .inr (Nat.le_refl _))
      exact ⟨hs.put (by decide) _, h2, hR'⟩
    · skip
      have hc : Cur W.heap.size 32 ((p.take en)) b w := (hR).one (by decide)
      refine app_op (W0 := W) (i := 6) rfl rfl (.tmp 32) (.tmp 34) rfl ((p.take en)) ((p.drop en)) (B31) (pn) (D31) hc h34 HT9.out.p zt2 (by first | (simp; omega) | omega) hw ?_
      intro v' w' h1 h2 h3 h4
      have hR' := (hR).step (w' := w') (v := v') sAB (by rw [hsz]; decide) h1 (fun u n xs h hn => own_grown h h3 fun k e => hn k (by decide) e) (fun k e => by
        rcases h4 with h4 | h4
        · exact .inl ⟨by decide, h4.symm.trans e⟩
        · rw [h4] at e; cases e; exact .inr (Nat.le_refl _))
      exact ⟨hs.put (by decide) _, h2, hR'⟩
  · intro i j b w hi hj hs hw hR
    have hi3 : j = 0 ∨ j = 1 ∨ j = 2 := by simp at hj; omega
    have h38 : b.tmps.getD 38 undef = .slice ea en ec := hs.get (k := 38) (by decide)
    have h41 : b.tmps.getD 41 undef = .slice pa pn pc := hs.get (k := 41) (by decide)
    have hsz : b.tmps.size = 72 := hs.size
    have hS := hR.swap
    rcases hi3 with rfl | rfl | rfl
    · skip
      refine wpOp_go (i := 7) rfl rfl (fun K hK => ?_)
      go_simp
      have hww := hw
      obtain ⟨E, d, rfl⟩ := hw
      have hR' := (hS).step (w' := (extW W E d).alloc (.cells #[] 3)) (v := .slice (some ⟨(extW W E d).heap.size, 0, none⟩) 0 0) sBA (by rw [hsz]; decide) (owns_empty _ _ (by simp)) (fun u n xs h _ => ownBelow h (Below.alloc (Below.refl _ _) (Nat.le_refl _) _)) (fun k e => .inr (by cases e; exact Nat.le_refl _))
      exact hK (b.put (some 36) _) _ ⟨hs.put (by decide) _, ⟨_, _, alloc_extW _ _ _ _⟩, hR'.swap⟩
    · skip
      have hc : Cur W.heap.size 36 ([]) b w := (hS).one (by decide)
      refine app_op (W0 := W) (i := 10) rfl rfl (.tmp 36) (.tmp 38) rfl ([]) (es) (ea) (en) (ec) hc h38 HS9.out.e z1 (by first | (simp; omega) | omega) hw ?_
      intro v' w' h1 h2 h3 h4
      have hR' := (hS).step (w' := w') (v := v') sBA (by rw [hsz]; decide) h1 (fun u n xs h hn => own_grown h h3 fun k e => hn k (by decide) e) (fun k e => by
        rcases h4 with h4 | h4
        · exact .inl ⟨by decide, h4.symm.trans e⟩
        · rw [h4] at e; cases e; exact .inr (Nat.le_refl _))
      exact ⟨hs.put (by decide) _, h2, hR'.swap⟩
    · skip
      have hc : Cur W.heap.size 39 (es) b w := (hS).one (by decide)
      refine app_op (W0 := W) (i := 13) rfl rfl (.tmp 39) (.tmp 41) rfl (es) (ps) (pa) (pn) (pc) hc h41 HS9.out.p z2 (by first | (simp; omega) | omega) hw ?_
      intro v' w' h1 h2 h3 h4
      have hR' := (hS).step (w' := w') (v := v') sBA (by rw [hsz]; decide) h1 (fun u n xs h hn => own_grown h h3 fun k e => hn k (by decide) e) (fun k e => by
        rcases h4 with h4 | h4
        · exact .inl ⟨by decide, h4.symm.trans e⟩
        · rw [h4] at e; cases e; exact .inr (Nat.le_refl _))
      exact ⟨hs.put (by decide) _, h2, hR'.swap⟩
  · intro b w hs hw hR
    have hA : Cur W.heap.size 35 (p.take en ++ p.drop en) b w := hR.one (by decide)
    have hB : Cur W.heap.size 42 (es ++ ps) b w := hR.two (by decide)
    have hf := hs.form
    have hbw : Below W.heap.size W w := by
      obtain ⟨E, d, rfl⟩ := hw
      exact bExtW (Below.refl _ _) (Nat.le_refl _)
    unfold Cur at hA hB
    rw [List.take_append_drop] at hA
    clear hs hR HS9 HT9 x0 x1 y0 y1 lq lb KST KCL
    simp only [List.foldl_cons, List.foldl_nil] at hf
    generalize b.tmps.getD 29 undef = v29 at hf
    generalize b.tmps.getD 32 undef = v32 at hf
    generalize b.tmps.getD 36 undef = v36 at hf
    generalize b.tmps.getD 39 undef = v39 at hf
    generalize b.tmps.getD 35 undef = v35 at hf hA
    generalize b.tmps.getD 42 undef = v42 at hf hB
    subst hf
    obtain ⟨A7, c7, rfl, hI7, z7, _⟩ := ints_owns hA
    obtain ⟨A8, c8, rfl, hI8, z8, _⟩ := ints_owns hB
    have hlq : (es ++ ps).length = en + pn := by rw [List.length_append, hel, hpl]
    have HFST : Hid (∀ k, k < en + pn → (∀ j, j < k → p.getD j 0 = (es ++ ps).getD j 0) → p.getD k 0 ≠ (es ++ ps).getD k 0 → p.getD k 0 < (es ++ ps).getD k 0) := Lib.hid (by
      intro k hk hj hne
      have e1 : ∀ j, j < en + pn → g p j = p.getD j 0 := fun j hj => g_zero (by omega)
      have e2 : ∀ j, j < en + pn → g (es ++ ps) j = (es ++ ps).getD j 0 := fun j hj => g_zero (by omega)
      have := HPS.out.first HSOL.out hk (fun j h => by rw [e1 j (by omega), e2 j (by omega)]; exact hj j h) (by rw [e1 k hk, e2 k hk]; exact hne)
      rwa [e1 k hk, e2 k hk] at this)
    rw [hlp] at hI7 ⊢
    rw [hlq] at hI8 ⊢
    obtain ⟨r, hr⟩ : ∃ r, es ++ ps = r := ⟨_, rfl⟩
    rw [hr] at hI8 HFST
    obtain ⟨N, hN⟩ : ∃ N, en + pn = N := ⟨_, rfl⟩
    rw [hN] at hI7 hI8 HFST ⊢
    have hN8 : N ≤ 128 := by omega
    have HBW : Hid (Below q wz w) := Lib.hid (by
      have h1 := HB9.out
      have h2 := HB9.out.size
      rw [HQE.out] at h1 h2
      exact h1.trans (hbw.mono h2))
    have HI7 := Lib.hid hI7; have HI8 := Lib.hid hI8
    clear hA hB hI7 hI8 hbw HB9 l1 l2 hr hN hlp hlq HPS HSOL
    (refine anyH_take (i := 14) rfl (by kernel_rfl) (fun _ _ _ _ h => h) hw (fun K hK => ?_); go_simp; refine hK _ ?_; clear hK K); (refine anyH_take (i := 15) rfl (by kernel_rfl) (fun _ _ _ _ h => h) hw (fun K hK => ?_); go_simp; refine hK _ ?_; clear hK K)
    refine wpAnyH_done (by kernel_rfl) ?_ _
    go_wp2_with fail
    have HSZ := Lib.hid HQE.out
    go_loopw [45] (fun iv wr => ∃ (k : Nat), k ≤ N ∧ iv = .int .i64 k ∧ Hid (∀ j, j < k → p.getD j 0 = r.getD j 0) ∧ Hid (ExtOf w wr)) (fun iv _ => N - (intOf iv).toNat)
    case atStart => exact ⟨0, by omega, rfl, Lib.hid fun j h => absurd h (by omega), Lib.hid ⟨#[], w.drawn, extW_zero _⟩⟩
    case round =>
      obtain ⟨k, hk, rfl, hj, HEX⟩ := hrel
      have hbx : Below w.heap.size w wr := by
        obtain ⟨E, d, rfl⟩ := HEX.out
        exact bExtW (Below.refl _ _) (Nat.le_refl _)
      have HBX : Hid (Below wz.heap.size wz wr) := Lib.hid (by
        have h1 := HBW.out
        rw [← HSZ.out] at h1
        exact h1.trans (hbx.mono h1.size))
      by_cases hkN : k < N
      · have hI1 := HI7.out.below hbx
        have hI2 := HI8.out.below hbx
        obtain ⟨b1, o1, e1, hl1, hc1⟩ := hI1.2 (by omega)
        obtain ⟨b2, o2, e2, hl2, hc2⟩ := hI2.2 (by omega)
        subst e1 e2
        have y1 := hc1 k hkN
        have y2 := hc2 k hkN
        have l1 : LtW b1 wr := hl1
        have l2 : LtW b2 wr := hl2
        have HF := Lib.hid (HFST.out k hkN hj.out)
        clear hc1 hc2 hl1 hl2 hI1 hI2 hbx
        obtain ⟨u, hu⟩ : ∃ u, p.getD k 0 = u := ⟨_, rfl⟩
        obtain ⟨v, hv⟩ : ∃ v, r.getD k 0 = v := ⟨_, rfl⟩
        rw [hu] at y1 HF
        rw [hv] at y2 HF
        by_cases huv : u = v
        · subst huv
          have t1 : (u != u) = false := by simp
          have HJ : Hid (∀ j, j < k + 1 → p.getD j 0 = r.getD j 0) := Lib.hid fun j h => by
            by_cases e : j = k
            · rw [e, hu, hv]
            · exact hj.out j (by omega)
          clear hu hv
          go_wp2_with fail
          (refine wp_region_ext (by kernel_rfl) (by kernel_rfl) ?_; (repeat (first | ((with_reducible refine ext_step (fun K hK => ?_)); go_simp; first | (refine hK _ ?_; clear hK K) | (apply Exists.intro; refine ⟨fun _ _ => ?_, hK _ ?_⟩; fail; clear hK K)))); refine wpQuiet_nil ?_; intro E d)
          go_wp2
          go_roundw
          case rel => exact ⟨k + 1, by omega, by go_num, HJ, Lib.hid (by
            obtain ⟨E7, d7, rfl⟩ := HEX.out
            exact ⟨_, _, extW_extW _ _ _ _ _⟩)⟩
          case measure => simp [intOf]; omega
        · have t1 : (u != v) = true := by simpa using huv
          have t2 : decide (u < v) = true := decide_eq_true (HF.out huv)
          go_wp2_with fail
          (refine wp_region_ext (by kernel_rfl) (by kernel_rfl) ?_; (repeat (first | ((with_reducible refine ext_step (fun K hK => ?_)); go_simp; first | (refine hK _ ?_; clear hK K) | (apply Exists.intro; refine ⟨fun _ _ => ?_, hK _ ?_⟩; fail; clear hK K)))); refine wpQuiet_nil ?_; intro E d)
          go_wp2_with fail
          (refine wp_region_ext (by kernel_rfl) (by kernel_rfl) ?_; (repeat (first | ((with_reducible refine ext_step (fun K hK => ?_)); go_simp; first | (refine hK _ ?_; clear hK K) | (apply Exists.intro; refine ⟨fun _ _ => ?_, hK _ ?_⟩; fail; clear hK K)))); refine wpQuiet_nil ?_; intro E d)
          go_wp2
          go_ret
          exact ⟨rfl, bExtW (bExtW HBX.out HBX.out.size) (Nat.le_trans HBX.out.size (by simp))⟩
      · obtain rfl : k = N := by omega
        go_wp2
        go_ret
        exact ⟨rfl, HBX.out⟩
set_option maxRecDepth 100000 in
set_option maxHeartbeats 8000000 in
theorem first_err (G W H : Int) (ea : Option Addr) (en ec : Nat) (es : List Int) (pa : Option Addr) (pn pc : Nat) (ps : List Int) (a : Option Addr) (n c : Nat) (cs : List Int) (w : World) (hC : IsInts w a n cs) (e5 : Int) (he5 : e5 ≠ 0)
    (KST : Hid (∀ w, IsInts w a n cs → Calls Try.prog 28 #[.agg #[.int .i64 (G), .int .i64 (W), .int .i64 (H), .slice a n c]] w fun r w' => r = .returned (.tuple #[.agg #[.slice none 0 0, .slice none 0 0], .int .i64 (e5)]) ∧ Below w.heap.size w w')) :
    Calls Try.prog 9 #[.agg #[.slice ea en ec, .slice pa pn pc], .agg #[.int .i64 (G), .int .i64 (W), .int .i64 (H), .slice a n c]] w fun e w' => e = .returned (.bool true) ∧ Below w.heap.size w w' := by
  have HC := Lib.hid hC
  have be : (e5 != 0) = true := by simpa using he5
  clear hC he5
  go_enter Try.func9, Try.ntmps9
  (go_wp2_with fail; refine (alive19_any _).mono ?_; rintro r w1 ⟨rfl, hb⟩; obtain ⟨E, d, rfl⟩ := bExt hb; clear hb)
  (go_wp2_with fail; refine (KST.out _ (HC.out.below (by repeat (first | exact Below.refl _ _ | refine Below.drew ?_ | refine below_drewN ?_ _ | refine Below.alloc ?_ (by first | exact Nat.le_refl _ | (simp; done) | (simp; omega) | omega) _ | refine Below.setCell ?_ (by first | exact Nat.le_refl _ | (simp; done) | (simp; omega) | omega) _ | refine bExtW ?_ (by first | exact Nat.le_refl _ | (simp; done) | (simp; omega) | omega) | refine Below.trans ?_ (Below.mono (by assumption) (by first | exact Nat.le_refl _ | (simp; done) | (simp; omega) | omega)))))).mono ?_; rintro r w1 ⟨rfl, hb⟩; obtain ⟨E, d, rfl⟩ := bExt hb; clear hb)
  go_wp2
  go_ret
  exact ⟨rfl, (by repeat (first | exact Below.refl _ _ | refine Below.drew ?_ | refine below_drewN ?_ _ | refine Below.alloc ?_ (by first | exact Nat.le_refl _ | (simp; done) | (simp; omega) | omega) _ | refine Below.setCell ?_ (by first | exact Nat.le_refl _ | (simp; done) | (simp; omega) | omega) _ | refine bExtW ?_ (by first | exact Nat.le_refl _ | (simp; done) | (simp; omega) | omega) | refine Below.trans ?_ (Below.mono (by assumption) (by first | exact Nat.le_refl _ | (simp; done) | (simp; omega) | omega))))⟩
set_option maxRecDepth 100000 in
set_option maxHeartbeats 8000000 in
theorem first_cl (W H : Nat) (ea : Option Addr) (en ec : Nat) (es : List Int) (pa : Option Addr) (pn pc : Nat) (ps : List Int) (a : Option Addr) (n c : Nat) (cs : List Int) (w : World) (hS : SArg ea en ec es pa pn pc ps w) (hC : IsInts w a n cs) (e5 : Int) (he5 : e5 ≠ 0)
    (KST : Hid (∀ w, IsInts w a n cs → Calls Try.prog 28 #[.agg #[.int .i64 (4), .int .i64 (W), .int .i64 (H), .slice a n c]] w fun r w' => (∃ A C B D, r = .returned (.tuple #[.agg #[.slice A W C, .slice B H D], .int .i64 (0)])) ∧ Below w.heap.size w w'))
    (KCL : Hid (∀ w, SArg ea en ec es pa pn pc ps w → IsInts w a n cs → Calls Try.prog 29 #[.agg #[.slice ea en ec, .slice pa pn pc], .agg #[.int .i64 (4), .int .i64 (W), .int .i64 (H), .slice a n c]] w (TrPost 0 0 0 [] e5 w))) :
    Calls Try.prog 9 #[.agg #[.slice ea en ec, .slice pa pn pc], .agg #[.int .i64 (4), .int .i64 (W), .int .i64 (H), .slice a n c]] w fun e w' => e = .returned (.bool true) ∧ Below w.heap.size w w' := by
  have HS := Lib.hid hS; have HC := Lib.hid hC
  have be : (e5 != 0) = true := by simpa using he5
  clear hS hC he5
  go_enter Try.func9, Try.ntmps9
  (go_wp2_with fail; refine (alive19_any _).mono ?_; rintro r w1 ⟨rfl, hb⟩; obtain ⟨E, d, rfl⟩ := bExt hb; clear hb)
  go_wp2_with fail
  refine (KST.out _ (HC.out.below (by repeat (first | exact Below.refl _ _ | refine Below.drew ?_ | refine below_drewN ?_ _ | refine Below.alloc ?_ (by first | exact Nat.le_refl _ | (simp; done) | (simp; omega) | omega) _ | refine Below.setCell ?_ (by first | exact Nat.le_refl _ | (simp; done) | (simp; omega) | omega) _ | refine bExtW ?_ (by first | exact Nat.le_refl _ | (simp; done) | (simp; omega) | omega) | refine Below.trans ?_ (Below.mono (by assumption) (by first | exact Nat.le_refl _ | (simp; done) | (simp; omega) | omega)))))).mono ?_
  rintro r wx ⟨⟨A31, C31, B31, D31, rfl⟩, hb⟩
  obtain ⟨E31, d31, rfl⟩ := bExt hb
  clear hb
  go_wp2_with fail
  refine (KCL.out _ (HS.out.below (by repeat (first | exact Below.refl _ _ | refine Below.drew ?_ | refine below_drewN ?_ _ | refine Below.alloc ?_ (by first | exact Nat.le_refl _ | (simp; done) | (simp; omega) | omega) _ | refine Below.setCell ?_ (by first | exact Nat.le_refl _ | (simp; done) | (simp; omega) | omega) _ | refine bExtW ?_ (by first | exact Nat.le_refl _ | (simp; done) | (simp; omega) | omega) | refine Below.trans ?_ (Below.mono (by assumption) (by first | exact Nat.le_refl _ | (simp; done) | (simp; omega) | omega))))) (HC.out.below (by repeat (first | exact Below.refl _ _ | refine Below.drew ?_ | refine below_drewN ?_ _ | refine Below.alloc ?_ (by first | exact Nat.le_refl _ | (simp; done) | (simp; omega) | omega) _ | refine Below.setCell ?_ (by first | exact Nat.le_refl _ | (simp; done) | (simp; omega) | omega) _ | refine bExtW ?_ (by first | exact Nat.le_refl _ | (simp; done) | (simp; omega) | omega) | refine Below.trans ?_ (Below.mono (by assumption) (by first | exact Nat.le_refl _ | (simp; done) | (simp; omega) | omega)))))).mono ?_
  rintro r wx ⟨A32, C32, rfl, hT, hb⟩
  obtain ⟨E32, d32, rfl⟩ := bExt hb
  have HT32 := Lib.hid hT
  clear hb hT
  go_wp2
  go_ret
  exact ⟨rfl, (by repeat (first | exact Below.refl _ _ | refine Below.drew ?_ | refine below_drewN ?_ _ | refine Below.alloc ?_ (by first | exact Nat.le_refl _ | (simp; done) | (simp; omega) | omega) _ | refine Below.setCell ?_ (by first | exact Nat.le_refl _ | (simp; done) | (simp; omega) | omega) _ | refine bExtW ?_ (by first | exact Nat.le_refl _ | (simp; done) | (simp; omega) | omega) | refine Below.trans ?_ (Below.mono (by assumption) (by first | exact Nat.le_refl _ | (simp; done) | (simp; omega) | omega))))⟩
theorem first_walk (ea : Option Addr) (en ec : Nat) (es : List Int) (pa : Option Addr) (pn pc : Nat) (ps : List Int) (G W H : Int) (a : Option Addr) (n c : Nat) (cs : List Int) (w : World) (hS : SArg ea en ec es pa pn pc ps w) (hC : IsInts w a n cs) (he : en ≤ 9223372036854775807) (hp : pn ≤ 9223372036854775807) (z1 : ea = none → ec = 0) (z2 : pa = none → pc = 0) (h0 : (-9223372036854775808 ≤ G ∧ G ≤ 9223372036854775807)) (h1 : (-9223372036854775808 ≤ W ∧ W ≤ 9223372036854775807)) (h2 : (-9223372036854775808 ≤ H ∧ H ≤ 9223372036854775807)) (cn : n ≤ 9223372036854775807) :
    Calls Try.prog 9 #[.agg #[.slice ea en ec, .slice pa pn pc], .agg #[.int .i64 (G), .int .i64 (W), .int .i64 (H), .slice a n c]] w fun e w' => e = .returned (.bool true) ∧ Below w.heap.size w w' := by
  have hel := hS.e.1; have hpl := hS.p.1
  by_cases hg : chE G W H n cs = 0
  · obtain ⟨hG, W', H', rfl, rfl, w1, w2, v1, v2, hn, hCR⟩ := chE_zero hg
    rcases hG with rfl | rfl
    · by_cases hst : Stuck W' cs (W' + H')
      · exact first_err 4 W' H' ea en ec es pa pn pc ps a n c cs w hC 6 (by omega) (Lib.hid fun w h => (eStr_ok W' H' n a c cs w h w2 v2 w1 v1 hn hCR).mono fun r w' h => by
          obtain ⟨h1, h2⟩ := h
          rcases h1 with ⟨_, h1⟩ | ⟨p, A, C, B, D, hp, _⟩
          · exact ⟨h1, h2⟩
          · exact absurd hst hp.not_stuck)
      · have KST : Hid (∀ w, IsInts w a n cs → Calls Try.prog 28 #[.agg #[.int .i64 (4), .int .i64 (W'), .int .i64 (H'), .slice a n c]] w fun r w' => (∃ p A C B D, Str W' cs (W' + H') (W' + H') p ∧ r = .returned (.tuple #[.agg #[.slice A W' C, .slice B H' D], .int .i64 (0)]) ∧ IsInts w' A W' (p.take W') ∧ IsInts w' B H' (p.drop W')) ∧ Below w.heap.size w w') := Lib.hid fun w h => (eStr_ok W' H' n a c cs w h w2 v2 w1 v1 hn hCR).mono fun r w' h => by
          obtain ⟨h1, h2⟩ := h
          rcases h1 with ⟨h1, _⟩ | h1
          · exact absurd h1 hst
          · exact ⟨h1, h2⟩
        rcases eCl_any ea en ec es pa pn pc ps W' H' a n c cs he hp z1 z2 w1 w2 v1 v2 hn hCR hel hpl with ⟨e5, he5, hcl⟩ | ⟨rfl, rfl, hsol, hcl⟩
        · exact first_cl W' H' ea en ec es pa pn pc ps a n c cs w hS hC e5 he5 (Lib.hid fun w h => (KST.out w h).mono fun r w' h => by
            obtain ⟨⟨p, A, C, B, D, _, h1, _⟩, h2⟩ := h
            exact ⟨⟨A, C, B, D, h1⟩, h2⟩) (Lib.hid hcl)
        · exact first_ok ea W' ec es pa H' pc ps a n c cs w hS hC w2 v2 w1 v1 z1 z2 hsol hel hpl KST (Lib.hid hcl)
    · exact first_err 6 W' H' ea en ec es pa pn pc ps a n c cs w hC 8 (by omega) (Lib.hid fun w h => eStr_hex W' H' a n c cs w h (by omega) (by omega) cn hg)
  · exact first_err G W H ea en ec es pa pn pc ps a n c cs w hC _ hg (Lib.hid fun w h => eStr_bad G W H a n c cs w h h0 h1 h2 cn hg)
end Go.Proofs.Yticplgjpflaelaa
