/- Lemmas on which the law of this seat rests; each states its own conditions. -/
import Derived.Test.YtajdoobkfbdgoaaDoorC25
import Derived.Test.YtajdoobkfbdgoaaDoorC22
import Derived.Test.YtajdoobkfbdgoaaDoorC24
import Derived.Test.YtajdoobkfbdgoaaDoorC06
import Derived.Lib.ConvBytes
import Derived.Test.YtajdoobkfbdgoaaDoorC07
import Derived.Test.YtajdoobkfbdgoaaDoorC20
import Derived.Test.YtajdoobkfbdgoaaDoorC21
import Derived.Test.YtajdoobkfbdgoaaDoorC05
import Derived.Deep.RegionWith
import Derived.Deep.DeepCutAuto
import Derived.Test.YtajdoobkfbdgoaaDoorC01
import Derived.Test.YtajdoobkfbdgoaaDoorC15
import Derived.Test.YtajdoobkfbdgoaaDoorC17
import Derived.Test.YtajdoobkfbdgoaaDoorC10
import Derived.Laws.Bits64b
import Derived.Laws.CopyOwn
import Derived.Deep.RegionLaw
set_option linter.unusedVariables false
set_option linter.unusedSimpArgs false
namespace Go.Proofs.YtajdoobkfbdgoaaDoor
section
open Go.RowKit
open Cl Lo
open By (readS)
open Z (torN place pnt Mv To lin okT nrm keepB colP idm md redM both inv stK Sid Upw movesL turnsF waysF kindP alongB)
def s0 : ByteArray := ⟨#[226, 150, 161, 10, 194, 183, 226, 150, 136, 10, 226, 150, 136, 194, 183, 10]⟩
theorem s0_read : readS (By.bytesOf s0) = (4, .ok [[0, 1], [1, 0]]) := by kernel_rfl
theorem s0_kind (a : Option Addr) (c : Nat) (w : World) (hI : IsInts w a 4 [1, 0, 0, 1]) : Calls Tryd.prog 19 #[.agg #[.int .i64 ((4 : Nat)), .int .i64 ((2 : Nat)), .int .i64 ((2 : Nat)), .slice a 4 c]] w fun r w' => r = .returned (.tuple #[.int .i64 ((11 : Int)), .int .i64 (0)]) ∧ Below w.heap.size w w' := by
 have hC : ChOk 4 2 2 4 [1, 0, 0, 1] := ⟨.inl rfl, by omega, by omega, by omega, by omega, rfl, by intro x hx; simp at hx; omega⟩
 have hN : torN 2 2 = 2 := by decide +kernel
 have hS : Sid (stK 2 2 [1, 0, 0, 1] ((4 : Nat) : Int) 2) 2 2 := ⟨by omega, by omega, by decide +kernel, fun x h1 h2 => by
  obtain rfl : x = 1 := by omega
  decide +kernel⟩
 have hU : Upw (stK 2 2 [1, 0, 0, 1] ((4 : Nat) : Int) 2) 2 2 1 1 := ⟨by omega, by omega, by omega, by decide +kernel, fun y x h1 h2 _ => by omega, fun x h => by
  obtain rfl : x = 0 := by omega
  decide +kernel⟩
 have hv : kindP (turnsF (movesL 2 2 [1, 0, 0, 1] ((4 : Nat) : Int) 2)).length (alongB ((4 : Nat) : Int) (2 : Nat) (1 : Nat) (1 : Nat) (waysF ((4 : Nat) : Int) (2 : Nat) (1 : Nat) (1 : Nat) (movesL 2 2 [1, 0, 0, 1] ((4 : Nat) : Int) 2))) (waysF ((4 : Nat) : Int) (2 : Nat) (1 : Nat) (1 : Nat) (movesL 2 2 [1, 0, 0, 1] ((4 : Nat) : Int) 2)) = 11 := by
  have h1 : (turnsF (movesL 2 2 [1, 0, 0, 1] ((4 : Nat) : Int) 2)).length = 4 := by decide +kernel
  have h2 : waysF ((4 : Nat) : Int) (2 : Nat) (1 : Nat) (1 : Nat) (movesL 2 2 [1, 0, 0, 1] ((4 : Nat) : Int) 2) ≠ [] := by decide +kernel
  have h3 : ∀ e ∈ waysF ((4 : Nat) : Int) (2 : Nat) (1 : Nat) (1 : Nat) (movesL 2 2 [1, 0, 0, 1] ((4 : Nat) : Int) 2), e.2.1 = true := by decide +kernel
  rw [h1]
  unfold kindP
  rw [if_neg (by omega), if_neg (by omega), if_neg (by omega), if_pos rfl, if_neg h2, if_pos h3]
 have := Kind_ok 4 2 2 4 2 2 1 1 a c [1, 0, 0, 1] w hI hC hN (by omega) (by omega) hS hU
 rw [hv] at this
 exact this
theorem s0_make : ∃ (p : Int) (n5 : Nat) (X Y : Int) (l1 l2 : List Int) (l5 : List Bool) (dn al : Int) (cd : ByteArray),
  ∀ w, Tabs w → Calls Tryd.prog 7 #[.string s0] w (MkU ⟨#[112, 52, 109]⟩ p 2 2 n5 0 X Y l1 l2 l5 [] true dn al cd 0 0 w) := by
 have h6 : lift (2 + 2) (abM 2 2 (rsB [1, 0, 0, 1])) = [] := by decide +kernel
 have hn11 : ∀ w, Calls Tryd.prog 20 #[.int .i64 ((11 : Int))] w fun r w' => r = .returned (.tuple #[.string ⟨#[112, 52, 109]⟩, .int .i64 (0)]) ∧ Below w.heap.size w w' := fun w => by
  have h := Name_any 11 w
  have e : nmV 11 = .tuple #[.string ⟨#[112, 52, 109]⟩, .int .i64 (0)] := by unfold nmV; rw [if_neg (by omega)]; rfl
  rwa [e] at h
 exact ⟨_, _, _, _, _, _, _, _, _, _, fun w hT => hMake_ok s0 4 [[0, 1], [1, 0]] w hT (by decide +kernel) s0_read 2 2 4 2 [1, 0, 0, 1] rfl rfl rfl rfl (by decide +kernel) (by omega) 11 ⟨#[112, 52, 109]⟩ _ _ _ [] _ _ _ 0 _ _ _ (Lib.hid s0_kind) (Lib.hid hn11) rfl rfl rfl rfl rfl rfl (by rw [h6]; rfl) (by rw [h6]; rfl) rfl rfl rfl⟩
set_option maxRecDepth 100000 in
set_option maxHeartbeats 8000000 in
theorem alive_top (w : World) (hT : Tabs w) : Calls Tryd.prog 5 #[] w fun e w' => e = .returned (.bool true) ∧ Below w.heap.size w w' := by
 obtain ⟨p, n5, X, Y, l1, l2, l5, dn, al, cd, HM⟩ := s0_make
 unfold MkU at HM
 have HM := Lib.hid HM
 have HT := Lib.hid hT
 clear hT
 unfold s0 at HM
 go_enter Tryd.func5, Tryd.ntmps5
 go_wp2_with fail
 refine (HM.out _ (HT.out.below blw)).mono ?_
 rintro r w1 ⟨A1, c1, A2, c2, A5, c5, A6, c6, rfl, i1, i2, i5, i6, hb⟩
 have HB : Hid (Below w.heap.size w w1) := Lib.hid (Below.trans blw (hb.mono bnd))
 clear hb i1 i2 i5 i6
 go_wp2
 go_ret
 have hb9 := HB.out
 have hz := hb9.size
 refine ⟨rfl, ?_⟩
 repeat (first | exact hb9 | with_reducible refine bExtW ?_ (by first | exact hz | (simp only [size_extW, World.size_alloc]; omega)) | with_reducible refine Below.alloc ?_ (by first | exact hz | (simp only [size_extW, World.size_alloc]; omega)) _)
end
section
open Go.RowKit
open Cl
end
section
open Go.RowKit
def bytesOf (s : ByteArray) : List Nat := s.data.toList.map UInt8.toNat
end
section
open Go.RowKit
open Lo
end
section
open Go.RowKit
open Lo
end
section
open Go.RowKit
open Lo
end
section
open Go.RowKit
open Lo
end
section
open Go.RowKit
open Lo
end
section
open Go.RowKit
open Lo
end
section
open Go.RowKit
open Lo
end
section
open Go.RowKit
open Lo
end
section
open Go.RowKit
open Cl Lo
open By (readS)
end
namespace Z
def bxN (W : Nat) (back : Bool) (t x : Nat) : Nat := if back then t + W - x else x + t
def byN (H : Nat) (over : Bool) (y : Nat) : Nat := if over then H - 1 - y else y
def bsP (W H : Nat) (cs : List Int) (back over : Bool) (t : Nat) : Prop := ∀ y, y < H → ∀ x, x < W → cs.getD (y * W + x) 0 = cs.getD (byN H over y * W + bxN W back t x % W) 0
instance (W H : Nat) (cs : List Int) (back over : Bool) (t : Nat) : Decidable (bsP W H cs back over t) := by unfold bsP; infer_instance
def keP (W H : Nat) (cs : List Int) (back over : Bool) (p q : Nat) : Prop := ∃ t, t < q ∧ p ≤ t ∧ bsP W H cs back over t
instance (W H : Nat) (cs : List Int) (back over : Bool) (p q : Nat) : Decidable (keP W H cs back over p q) := by unfold keP; infer_instance
end Z
namespace Z
end Z
section
open Go.RowKit
open Z (torN place pnt Mv To lin okT nrm keepB colP idm md redM both inv stK Sid Upw movesL turnsF waysF kindP tnK flK alongB)
end
section
open Go.RowKit
section
variable {P : Program} {ops : Array Oper} {md : Region.Mode} {Q : Exit → Act → World → Prop}
def lstAB (base : Array Bool) (A B : List Nat) (i j : Nat) : Array Bool := (A.take i ++ B.take j).foldl (fun l k => l.setIfInBounds k true) base
def twoB (md : Region.Mode) (ops : Array Oper) (base : Array Bool) (A B : List Nat) : Bool :=
 (List.range (A.length + 1)).all fun i => (List.range (B.length + 1)).all fun j =>
  ((decide (i = A.length) && decide (j = B.length)) || (Region.ready md ops (lstAB base A B i j)).all fun k => (decide (i < A.length) && decide (A[i]? = some k)) || (decide (j < B.length) && decide (B[j]? = some k))) &&
  ((decide (i = A.length) && decide (j = B.length)) || !(Region.ready md ops (lstAB base A B i j)).isEmpty) &&
  (decide (i = A.length) || decide ((lstAB base A B i j).setIfInBounds (A.getD i 0) true = lstAB base A B (i + 1) j)) &&
  (decide (j = B.length) || decide ((lstAB base A B i j).setIfInBounds (B.getD j 0) true = lstAB base A B i (j + 1)))
end
end
section
open Go.RowKit
section
variable {P : Program} {ops : Array Oper} {Q : Exit → Act → World → Prop} {K : Act → World → Prop} {a : Act} {w : World}
def onNormal (K : Act → World → Prop) (Q : Exit → Act → World → Prop) : Exit → Act → World → Prop
 | .normal => K
 | e => Q e
theorem wpOp_go {i : Nat} {o : Oper} (hi : ops[i]? = some o) (hg : o.guard = none) (h : ∀ K' : Act → World → Prop, (∀ a w, K a w → K' a w) → o.wp P a w K' Q) : wpOp P ops Q i K a w := by
 unfold wpOp
 simp only [hi, Region.wanted, hg, if_true]
 exact .inl (h K fun _ _ h => h)
theorem upon_onNormal {o : Oper} {r : Result Next} (h : o.upon P a K (onNormal K Q) r) : o.upon P a K Q r := by
 cases r with
 | ok n w' =>
  cases n with
  | enter f args => exact Calls.mono h fun e w'' he => by cases e <;> exact he
  | _ => exact h
 | halt x w' => cases x <;> exact h
theorem wpOp_list {i : Nat} {o : Oper} (hi : ops[i]? = some o) (hg : o.guard = none) (h : wpList P ops (onNormal K Q) [o] a w) : wpOp P ops Q i K a w := by
 unfold wpOp
 simp only [hi, Region.wanted, hg, if_true]
 unfold wpList at h
 simp only [Region.wanted, hg, if_true] at h
 rcases h with h | ⟨h1, h2⟩
 ·exact .inl (upon_onNormal h)
 ·exact .inr ⟨h1, h2⟩
end
end
section
open Go.RowKit
section
variable {P : Program} {ops : Array Oper} {md : Region.Mode} {Q : Exit → Act → World → Prop} {S : World → Prop}
structure SameOff (ts : List Nat) (a0 a : Act) : Prop where
 size : a.tmps.size = a0.tmps.size
 off : ∀ k, k ∉ ts → a.tmps[k]? = a0.tmps[k]?
 defers : a.defers = a0.defers
theorem SameOff.refl (ts : List Nat) (a : Act) : SameOff ts a a := ⟨rfl, fun _ _ => rfl, rfl⟩
theorem SameOff.put {ts : List Nat} {a0 a : Act} {t : Nat} (h : SameOff ts a0 a) (ht : t ∈ ts) (v : Value) : SameOff ts a0 (a.put (some t) v) := by
 refine ⟨by simpa [Act.put] using h.size, fun k hk => ?_, h.defers⟩
 have : t ≠ k := fun e => hk (e ▸ ht)
 simp only [Act.put, Array.getElem?_setIfInBounds, this, if_false]
 exact h.off k hk
theorem fold_put (vs : Nat → Value) : ∀ (ts : List Nat) (a0 : Act), (ts.foldl (fun b t => b.put (some t) (vs t)) a0).defers = a0.defers ∧ (ts.foldl (fun b t => b.put (some t) (vs t)) a0).tmps.size = a0.tmps.size ∧
  ∀ k, (ts.foldl (fun b t => b.put (some t) (vs t)) a0).tmps[k]? = if k ∈ ts ∧ k < a0.tmps.size then some (vs k) else a0.tmps[k]?
 | [], a0 => ⟨rfl, rfl, fun k => by simp⟩
 | t :: ts, a0 => by
  obtain ⟨h1, h2, h3⟩ := fold_put vs ts (a0.put (some t) (vs t))
  refine ⟨h1, by rw [List.foldl_cons, h2]; simp [Act.put], fun k => ?_⟩
  rw [List.foldl_cons, h3 k]
  have hs : (a0.put (some t) (vs t)).tmps.size = a0.tmps.size := by simp [Act.put]
  rw [hs]
  by_cases hk : k ∈ ts ∧ k < a0.tmps.size
  ·rw [if_pos hk, if_pos ⟨List.mem_cons_of_mem _ hk.1, hk.2⟩]
  ·rw [if_neg hk]
   simp only [Act.put, Array.getElem?_setIfInBounds]
   by_cases e : t = k
   ·subst e
    by_cases hl : t < a0.tmps.size
    ·simp [hl]
    ·simp [hl]
   ·have : ¬ (k ∈ t :: ts ∧ k < a0.tmps.size) := fun h => hk ⟨(List.mem_cons.1 h.1).resolve_left (fun x => e x.symm), h.2⟩
    rw [if_neg this, if_neg e]
theorem SameOff.form {ts : List Nat} {a0 a : Act} (h : SameOff ts a0 a) : a = ts.foldl (fun b t => b.put (some t) (a.tmps.getD t undef)) a0 := by
 obtain ⟨h1, h2, h3⟩ := fold_put (fun t => a.tmps.getD t undef) ts a0
 have e1 : a.tmps = (ts.foldl (fun b t => b.put (some t) (a.tmps.getD t undef)) a0).tmps := by
  apply Array.ext_getElem?
  intro k
  rw [h3 k]
  by_cases hk : k ∈ ts
  ·by_cases hl : k < a0.tmps.size
   ·rw [if_pos ⟨hk, hl⟩]
    have : k < a.tmps.size := by rw [h.size]; exact hl
    simp [Array.getD, this]
   ·rw [if_neg fun x => hl x.2, Array.getElem?_eq_none (by rw [h.size]; omega), Array.getElem?_eq_none (by omega)]
  ·rw [if_neg fun x => hk x.1]; exact h.off k hk
 generalize ts.foldl (fun b t => b.put (some t) (a.tmps.getD t undef)) a0 = b at *
 cases a; cases b
 simp only [Act.mk.injEq] at *
 exact ⟨e1, by rw [h1]; exact h.defers⟩
theorem anyH_two {listed : Array Bool} {A B : List Nat} {f g : Nat} (hB : twoB md ops listed A B = true) (hf : f = A.length + B.length + g) (ts : List Nat) {a0 : Act} {w0 : World} (R : Nat → Nat → Act → World → Prop)
  (hA : ∀ i j a w, i < A.length → j ≤ B.length → SameOff ts a0 a → S w → R i j a w → wpOp P ops Q (A.getD i 0) (fun a' w' => SameOff ts a0 a' ∧ S w' ∧ R (i + 1) j a' w') a w)
  (hB2 : ∀ i j a w, i ≤ A.length → j < B.length → SameOff ts a0 a → S w → R i j a w → wpOp P ops Q (B.getD j 0) (fun a' w' => SameOff ts a0 a' ∧ S w' ∧ R i (j + 1) a' w') a w)
  (hS : S w0) (h0 : R 0 0 a0 w0) (hend : ∀ a w, SameOff ts a0 a → S w → R A.length B.length a w → wpAnyH P md ops Q S g (lstAB listed A B A.length B.length) a w) : wpAnyH P md ops Q S f listed a0 w0 := by
 have key : ∀ (n i j : Nat) (a : Act) (w : World), (A.length - i) + (B.length - j) = n → i ≤ A.length → j ≤ B.length → SameOff ts a0 a → S w → R i j a w → wpAnyH P md ops Q S (n + g) (lstAB listed A B i j) a w := by
  intro n
  induction n with
  | zero =>
   intro i j a w hf hi hj hs hw h
   obtain rfl : i = A.length := by omega
   obtain rfl : j = B.length := by omega
   rw [Nat.zero_add]
   exact hend a w hs hw h
  | succ n ih =>
   intro i j a w hf hi hj hs hw h
   unfold twoB at hB
   have h1 := List.all_eq_true.1 (List.all_eq_true.1 hB i (List.mem_range.2 (by omega))) j (List.mem_range.2 (by omega))
   simp only [Bool.and_eq_true, Bool.or_eq_true, decide_eq_true_eq] at h1
   obtain ⟨⟨⟨c1, c2⟩, c3⟩, c4⟩ := h1
   have hne : ¬ (i = A.length ∧ j = B.length) := by omega
   have c1' := List.all_eq_true.1 (c1.resolve_left hne)
   have c2' := c2.resolve_left hne
   rw [show n + 1 + g = (n + g) + 1 by omega]
   refine ⟨fun h0 => by rw [h0] at c2'; simp at c2', fun k hk => ?_⟩
   have hk2 := c1' k hk
   simp only [Bool.and_eq_true, Bool.or_eq_true, decide_eq_true_eq] at hk2
   rcases hk2 with ⟨hlt, e⟩ | ⟨hlt, e⟩
   ·have hg : A.getD i 0 = k := by rw [List.getD_eq_getElem?_getD, e]; rfl
    have c3' := c3.resolve_left (by omega)
    rw [hg] at c3'
    have h2 := hA i j a w hlt hj hs hw h
    rw [hg] at h2
    refine wpOp_mono (fun a' w' h' => ⟨h'.2.1, ?_⟩) h2
    rw [c3']
    exact ih (i + 1) j a' w' (by omega) (by omega) hj h'.1 h'.2.1 h'.2.2
   ·have hg : B.getD j 0 = k := by rw [List.getD_eq_getElem?_getD, e]; rfl
    have c4' := c4.resolve_left (by omega)
    rw [hg] at c4'
    have h2 := hB2 i j a w hi hlt hs hw h
    rw [hg] at h2
    refine wpOp_mono (fun a' w' h' => ⟨h'.2.1, ?_⟩) h2
    rw [c4']
    exact ih i (j + 1) a' w' (by omega) hi (by omega) h'.1 h'.2.1 h'.2.2
 have e0 : lstAB listed A B 0 0 = listed := by simp [lstAB]
 have := key (A.length + B.length) 0 0 a0 w0 (by omega) (by omega) (by omega) (SameOff.refl _ _) hS h0
 rw [e0] at this
 rw [hf]
 exact this
end
end
section
open Go.RowKit
section
variable {P : Program} {ops : Array Oper} {md : Region.Mode} {Q : Exit → Act → World → Prop} {S : World → Prop}
theorem wp_region_HS (S : World → Prop) {id : Nat} {a : Act} {W : World} (hm : P.follows .mixedOrders = true) (h : wpAnyH P .any ops Q S ops.size (Array.replicate ops.size false) a W.drew) : (Code.region id ops true).wp P Q a W :=
 wp_region_any hm (wpAny_of_held _ _ _ _ h)
theorem SameOff.get {ts : List Nat} {a0 a : Act} (h : SameOff ts a0 a) {k : Nat} (hk : k ∉ ts) : a.tmps.getD k undef = a0.tmps.getD k undef := by
 rw [Array.getD_eq_getD_getElem?, Array.getD_eq_getD_getElem?, h.off k hk]
theorem anyH_takeS {i : Nat} {o : Oper} {f : Nat} {listed : Array Bool} {a : Act} {w : World} (hi : ops[i]? = some o)
  (hf : (Region.noSelect ops && Region.free md ops listed i && (Region.ready md ops listed).contains i) = true)
  (hQ : ∀ v c a w, Q (.panic c) (a.put o.dst v) w → Q (.panic c) a w) (hS : S w)
  (h : ∀ K : Act → Prop, (∀ a, wpAnyH P md ops Q S f (listed.setIfInBounds i true) a w → K a) →
   if Region.wanted o (yielded ops a.tmps) then ∃ v, (∀ w, S w → (execOp a.eval o).run P w = .ok (.value v) w) ∧ K (a.put o.dst v) else K (a.put o.dst undef)) : wpAnyH P md ops Q S (f + 1) listed a w := by
 simp only [Bool.and_eq_true] at hf
 obtain ⟨⟨h1, h2⟩, h3⟩ := hf
 have h4 := h _ fun _ h => h
 by_cases hw : Region.wanted o (yielded ops a.tmps) = true
 ·rw [if_pos hw] at h4
  obtain ⟨v, hv, h5⟩ := h4
  exact wpAnyH_take hi h1 h2 h3 (hQ v) (.inl ⟨hw, hv⟩) hS h5
 ·rw [if_neg hw] at h4
  exact wpAnyH_take hi h1 h2 h3 (hQ undef) (.inr ⟨by simpa using hw, rfl⟩) hS h4
theorem anyH_one {i : Nat} {f : Nat} {listed : Array Bool} {a : Act} {w : World} (hr : Region.ready md ops listed = [i])
  (h : wpOp P ops Q i (fun a' w' => S w' ∧ wpAnyH P md ops Q S f (listed.setIfInBounds i true) a' w') a w) : wpAnyH P md ops Q S (f + 1) listed a w :=
 wpAnyH_all hr (by simp) fun j hj => by
  obtain rfl : j = i := by simpa using hj
  exact h
end
end
section
open Go.RowKit
theorem maskM (a : Nat) (ha : a < 4294967296) : bits .and .u64 (a : Int) 4294967295 = (a : Int) := by
 have h := bits_and_u64_nat a 4294967295 (by omega) (by omega)
 have e : a &&& 4294967295 = a % 4294967296 := Nat.and_two_pow_sub_one_eq_mod a 32
 rw [e, Nat.mod_eq_of_lt ha] at h
 exact h
set_option maxRecDepth 100000 in
set_option maxHeartbeats 8000000 in
theorem mul64_one (M : Nat) (w : World) (hM : M ≤ 1000000) :
  Calls Tryd.prog 83 #[.int .u64 1, .int .u64 M] w fun e w' => e = .returned (.tuple #[.int .u64 0, .int .u64 M]) ∧ w' = w := by
 have h1 := maskM M (by omega)
 have h2 : bits .and .u64 1 4294967295 = 1 := maskM 1 (by omega)
 have h5 : bits .and .u64 0 4294967295 = 0 := maskM 0 (by omega)
 have h6 : IntKind.u64.wrap 0 = 0 := by decide +kernel
 have h3 : IntKind.u64.wrap (M : Int) = (M : Int) := by rw [IntKind.wrap_u64]; omega
 have h4 : (M : Int) / 4294967296 = 0 := by omega
 go_enter Tryd.func83, Tryd.ntmps83
 go_wp2
 go_ret2
 exact ⟨rfl, rfl⟩
set_option maxRecDepth 100000 in
set_option maxHeartbeats 8000000 in
theorem mul_one (M : Nat) (w : World) (hM : M ≤ 1000000) :
  Calls Tryd.prog 62 #[.int .u64 1, .int .u64 M] w fun e w' => e = .returned (.tuple #[.int .u64 0, .int .u64 M]) ∧ w' = w := by
 have HM := Lib.hid (fun w => mul64_one M w hM)
 go_enter Tryd.func62, Tryd.ntmps62
 go_wp2_with fail
 refine (HM.out _).mono ?_
 rintro e w' ⟨rfl, rfl⟩
 go_wp2
 go_ret2
 exact ⟨rfl, rfl⟩
theorem splice_rep {α : Type} (z : α) (M off k : Nat) (h : off + k ≤ M) : splice (List.replicate M z) off (List.replicate k z) = List.replicate M z := by
 unfold splice
 rw [List.take_replicate, List.drop_replicate, List.length_replicate, Nat.min_eq_left (by omega), List.replicate_append_replicate, List.replicate_append_replicate]
 congr 1
 omega
theorem made_rep (z : Value) (n : Nat) : madeCells #[z] n = (List.replicate n z).toArray := by
 apply Array.toList_inj.1
 rw [toList_madeCells_one]
theorem infoInt1 : (Tryd.prog.info? 3).map (·.size) = some 1 := by kernel_rfl
set_option maxRecDepth 100000 in
set_option maxHeartbeats 8000000 in
theorem repeat_ok (M C : Nat) (b : Nat) (w : World) (hM : 1 ≤ M) (hM6 : M ≤ 1000000) (hc : w.cell? ⟨b, 0, none⟩ = some (.int .i64 0)) :
  Calls Tryd.prog 37 #[.slice (some ⟨b, 0, none⟩) 1 C, .int .i64 (M)] w fun e w' => e = .returned (.slice (some ⟨w.heap.size, 0, none⟩) M M) ∧ w'.rowIs w.heap.size 3 M (fun _ => .int .i64 0) ∧ Below w.heap.size w w' := by
 have HM := Lib.hid (fun w => mul_one M w hM6)
 have hmk := makeRow okI8 rfl M (by omega) (by omega)
 have hlb : LtW b w := World.block_lt_of_cell? _ _ hc
 have h1 : decide ((M : Int) < 0) = false := by simp
 have h2 : IntKind.u64.wrap (M : Int) = (M : Int) := by rw [IntKind.wrap_u64]; omega
 have h3 : IntKind.i64.wrap (M : Int) = (M : Int) := IntWalk.i64_in _ (by omega)
 have h4 : decide ((M : Int) > 9223372036854775807) = false := by simp; omega
 have h5 : decide ((9223372036854775807 : Int) < (M : Int)) = false := by simp; omega
 go_enter Tryd.func37, Tryd.ntmps37
 go_wp2_with fail
 refine (HM.out _).mono ?_
 rintro e w' ⟨rfl, rfl⟩
 have hg0 : (w'.alloc (.cells (madeCells #[.int .i64 0] M) 3)).heap[w'.heap.size]? = some (.cells (List.replicate M (Value.int .i64 0)).toArray 3 (0, 0)) := by
  rw [← made_rep]; exact heap_alloc_new w' _
 have hc2 : (w'.alloc (.cells (madeCells #[.int .i64 0] M) 3)).cell? ⟨b, 0, none⟩ = some (.int .i64 0) := by rw [cell?_alloc_LtW _ _ _ hlb]; exact hc
 have hB0 : Below w'.heap.size w' (w'.alloc (.cells (madeCells #[.int .i64 0] M) 3)) := (Below.refl _ _).alloc (Nat.le_refl _) _
 go_wp2_with (with_reducible refine wpList_copy_splice rfl (.tmp 31) (.tmp 32) 23 23 rfl 3 Tryd.underlying23 infoInt1 (some ⟨w'.heap.size, 0, none⟩) (some ⟨b, 0, none⟩) M M 1 C rfl rfl w'.heap.size 0 (List.replicate M (Value.int .i64 0)) 3 hg0 (List.replicate 1 (Value.int .i64 0)) ?a1 ?a2 ?a3 ?a4 w'.heap.size w' hB0 (Nat.le_refl _) ?_)
 case a1 => exact (Nat.min_eq_left hM).symm
 case a2 =>
  intro j v hj
  cases j with
  | zero => simp at hj; subst hj; exact hc
  | succ k => simp at hj
 case a3 => simp; omega
 case a4 => intro v hv; simp at hv; subst hv; rfl
 intro w3 hg3 hb3
 have hg4 : w3.heap[w'.heap.size]? = some (.cells (List.replicate M (Value.int .i64 0)).toArray 3 (0, 0)) := by
  have h6 := hg3.out
  rw [show ([.int .i64 0] : List Value) = List.replicate 1 (.int .i64 0) from rfl, splice_rep _ _ _ _ (by omega)] at h6
  exact h6
 clear hg3
 clear hg0 hc2 hB0 hmk
 obtain ⟨g, hgg⟩ : ∃ g, w'.heap.size = g := ⟨_, rfl⟩
 rw [hgg] at hg4 hb3 ⊢
 have HGG := Lib.hid hgg
 clear hgg
 have HG4 := Lib.hid hg4
 have HB3 := Lib.hid hb3
 clear hg4 hb3 hc hlb
 go_wp2_with fail
 go_loopw [8] (fun nv wr => ∃ (n : Nat), 1 ≤ n ∧ n ≤ M ∧ nv = .int .i64 n ∧ Hid (wr.heap[g]? = some (.cells (List.replicate M (Value.int .i64 0)).toArray 3 (0, 0)) ∧ Below g w' wr)) (fun nv _ => M - (intOf nv).toNat)
 case atStart => exact ⟨1, by omega, hM, rfl, Lib.hid ⟨HG4.out, HB3.out⟩⟩
 case round =>
  clear HG4 HB3
  obtain ⟨n, hn1, hn, rfl, HW⟩ := hrel
  by_cases hnM : n < M
  ·have dn : decide ((n : Int) < (M : Int)) = true := by simpa using hnM
   have hgw := HW.out.1
   have hbw := HW.out.2
   obtain ⟨k, hk⟩ : ∃ k, Nat.min n (M - n) = k := ⟨_, rfl⟩
   have hk1 : 1 ≤ k ∧ k ≤ n ∧ n + k ≤ M := by
    rw [← hk]
    have h1 : Nat.min n (M - n) ≤ n := Nat.min_le_left _ _
    have h2 : Nat.min n (M - n) ≤ M - n := Nat.min_le_right _ _
    have h3 : 1 ≤ Nat.min n (M - n) := Nat.le_min.2 ⟨hn1, by omega⟩
    omega
   have vk : IntKind.i64.wrap ((n : Int) + (k : Int)) = (n : Int) + (k : Int) := IntWalk.i64_in _ (by omega)
   go_wp2_with fail
   have hsrc : ∀ (j : Nat) (v : Value), (List.replicate k (Value.int .i64 0))[j]? = some v → wr.cell? ⟨g, j, none⟩ = some v := fun j v hj => by
    rw [List.getElem?_replicate] at hj
    split at hj
    ·rename_i hjk
     injection hj with hj
     subst hj
     simp [World.cell?, hgw, show j < M by omega]
    ·cases hj
   refine wp_region_HS (Below g w') (by kernel_rfl) ?_
   (refine anyH_takeS (i := 0) rfl (by kernel_rfl) (fun _ _ _ _ h => h) hbw.drew (fun K hK => ?_); go_simp; refine ⟨_, fun _ _ => rfl, hK _ ?_⟩; clear hK K); (refine anyH_takeS (i := 1) rfl (by kernel_rfl) (fun _ _ _ _ h => h) hbw.drew (fun K hK => ?_); go_simp; refine ⟨_, fun _ _ => rfl, hK _ ?_⟩; clear hK K); (refine anyH_takeS (i := 2) rfl (by kernel_rfl) (fun _ _ _ _ h => h) hbw.drew (fun K hK => ?_); go_simp; refine ⟨_, fun _ _ => rfl, hK _ ?_⟩; clear hK K); (refine anyH_takeS (i := 3) rfl (by kernel_rfl) (fun _ _ _ _ h => h) hbw.drew (fun K hK => ?_); go_simp; refine ⟨_, fun _ _ => rfl, hK _ ?_⟩; clear hK K); (refine anyH_takeS (i := 4) rfl (by kernel_rfl) (fun _ _ _ _ h => h) hbw.drew (fun K hK => ?_); go_simp; refine ⟨_, fun _ _ => rfl, hK _ ?_⟩; clear hK K); (refine anyH_takeS (i := 5) rfl (by kernel_rfl) (fun _ _ _ _ h => h) hbw.drew (fun K hK => ?_); go_simp; refine ⟨_, fun _ _ => rfl, hK _ ?_⟩; clear hK K); (refine anyH_takeS (i := 6) rfl (by kernel_rfl) (fun _ _ _ _ h => h) hbw.drew (fun K hK => ?_); go_simp; refine ⟨_, fun _ _ => rfl, hK _ ?_⟩; clear hK K)
   refine anyH_one (i := 7) (by kernel_rfl) ?_
   refine wpOp_list (i := 7) rfl rfl (wpList_copy_splice rfl (.tmp 41) (.tmp 44) 23 23 rfl 3 Tryd.underlying23 infoInt1 (some ⟨g, n, none⟩) (some ⟨g, 0, none⟩) (M - n) (M - n) n M ?b1 ?b2 g n (List.replicate M (Value.int .i64 0)) 3 hgw (List.replicate k (Value.int .i64 0)) ?b3 ?b4 ?b5 ?b6 g w' hbw.drew (Nat.le_refl _) ?b7)
   case b1 => go_simp; omega
   case b2 => go_simp
   case b3 => rw [List.length_replicate]; exact hk.symm
   case b4 => exact fun _ => ⟨rfl, _, rfl, fun j v hj => by rw [Addr.add_lit, Nat.zero_add]; exact hsrc j v hj⟩
   case b5 => rw [List.length_replicate, List.length_replicate]; omega
   case b6 => intro v hv; rw [List.mem_replicate] at hv; rw [hv.2]; rfl
   case b7 =>
    intro w4 hg4 hb4
    have hg5 : w4.heap[g]? = some (.cells (List.replicate M (Value.int .i64 0)).toArray 3 (0, 0)) := by
     have h6 := hg4.out
     rw [splice_rep _ _ _ _ (by omega)] at h6
     exact h6
    have HN := Lib.hid (show w4.heap[g]? = some (.cells (List.replicate M (Value.int .i64 0)).toArray 3 (0, 0)) ∧ Below g w' w4 from ⟨hg5, hb4⟩)
    rw [List.length_replicate]
    refine ⟨hb4, ?_⟩
    clear hg4 hg5 hsrc hgw HW
    (refine anyH_takeS (i := 8) rfl (by kernel_rfl) (fun _ _ _ _ h => h) hb4 (fun K hK => ?_); go_simp; refine ⟨_, fun _ _ => rfl, hK _ ?_⟩; clear hK K); (refine anyH_takeS (i := 9) rfl (by kernel_rfl) (fun _ _ _ _ h => h) hb4 (fun K hK => ?_); go_simp; refine ⟨_, fun _ _ => rfl, hK _ ?_⟩; clear hK K)
    refine wpAnyH_done (by kernel_rfl) ?_ _
    clear hb4 hbw hk
    go_wp2
    go_roundw
    case rel => exact ⟨n + k, by omega, by omega, by push_cast; rfl, HN⟩
    case measure => simp [intOf]; omega
  ·obtain rfl : n = M := by omega
   have dn : decide ((n : Int) < (n : Int)) = false := by simp
   have hrow : wr.rowIs g 3 n (fun _ => .int .i64 0) := ⟨_, HW.out.1, by simp, fun i hi => by simp [hi]⟩
   have HR := Lib.hid hrow
   have HBW := Lib.hid HW.out.2
   clear hrow HW
   go_wp2
   go_ret
   rw [HGG.out]
   exact ⟨rfl, HR.out, HBW.out⟩
end
section
open Go.RowKit
open Z (torN place pnt Mv To lin okT nrm keepB colP idm md redM movdL)
def chtF (g w h : Int) (v : Value) : Nat → Value := fun j => if j = 0 then .int .i64 g else if j = 1 then .int .i64 w else if j = 2 then .int .i64 h else v
theorem chtF_alloc (w : World) (g a b : Int) (A : Option Addr) (k c : Nat) : (w.alloc (.cells #[.int .i64 g, .int .i64 a, .int .i64 b, .slice A k c] 25)).rowIs w.heap.size 25 4 (chtF g a b (.slice A k c)) := by
 refine World.rowIs_alloc w #[.int .i64 g, .int .i64 a, .int .i64 b, .slice A k c] 25 _ ?_
 intro i hi
 have hi3 : i = 0 ∨ i = 1 ∨ i = 2 ∨ i = 3 := by simp at hi; omega
 rcases hi3 with rfl | rfl | rfl | rfl <;> rfl
def MdPost (g N M : Int) (m : Nat) (L : List Int) (e : Int) (w : World) (r : Ending) (w' : World) : Prop := (∃ A C, r = .returned (.tuple #[.agg #[.int .i64 (g), .int .i64 (N), .int .i64 (M), .slice A m C], .int .i64 (e)]) ∧ IsInts w' A m L) ∧ Below w.heap.size w w'
theorem ints_nil (w : World) : IsInts w none 0 [] := ⟨rfl, fun h => absurd h (by omega)⟩
theorem movdL_succ {W H n : Nat} {cs : List Int} {g : Int} (m : Mv) (k : Nat) : movdL W H cs g n m (k + 1) = (movdL W H cs g n m k).set (place n (To g m (pnt n k))) (colP W H cs (pnt n k)) := rfl
theorem movdL_zero {W H n : Nat} {cs : List Int} {g : Int} (m : Mv) : movdL W H cs g n m 0 = List.replicate (n * n) 0 := rfl
structure MS (ob gb : Nat) (W0 : World) (g N : Int) (M : Nat) (L : List Int) (w : World) : Prop where
 o : w.rowIs ob 25 4 (chtF g N N (.slice (some ⟨gb, 0, none⟩) M M))
 c : w.rowIs gb 3 M (fun j => .int .i64 (L.getD j 0))
 ll : L.length = M
 lo : W0.heap.size ≤ gb
 bel : Below W0.heap.size W0 w
theorem MS.grow {ob gb M : Nat} {W0 w w' : World} {g N : Int} {L : List Int} (h : MS ob gb W0 g N M L w) (hb : Below w.heap.size w w') : MS ob gb W0 g N M L w' :=
 ⟨rowBelow h.o hb h.o.lt, rowBelow h.c hb h.c.lt, h.ll, h.lo, h.bel.trans (hb.mono h.bel.size)⟩
theorem MS.put {ob gb M : Nat} {W0 w : World} {g N : Int} {L : List Int} (h : MS ob gb W0 g N M L w) {i : Nat} (hi : i < M) (v : Int) : MS ob gb W0 g N M (L.set i v) (w.setCell ⟨gb, i, none⟩ (.int .i64 v)) :=
 ⟨h.o.setOther (a := ⟨gb, i, none⟩) (row_ne h.o h.c (by decide)) _, (h.c.set i _).congr fun j hj => by
  show (if j = i then Value.int .i64 v else .int .i64 (L.getD j 0)) = .int .i64 ((L.set i v).getD j 0)
  rw [getD_set L i j v (by rw [h.ll]; exact hi)]
  split <;> rfl, by rw [List.length_set]; exact h.ll, h.lo, h.bel.setCell (p := ⟨gb, i, none⟩) h.lo _⟩
end
section
open Go.RowKit
open Z (torN place pnt Mv To lin okT nrm keepB colP idm md redM movdL)
theorem put_at' {a : Act} {t : Nat} {v : Value} (h : t < a.tmps.size) : (a.put (some t) v).tmps.getD t undef = v := by
 simp [Act.put, Array.getD, h]
theorem put_off' {a : Act} {t u : Nat} {v : Value} (h : t ≠ u) : (a.put (some t) v).tmps.getD u undef = a.tmps.getD u undef := by
 simp only [Act.put, Array.getD_eq_getD_getElem?, Array.getElem?_setIfInBounds, h, if_false]
def RA (base M : Nat) (G N : Int) (i : Nat) (b : Act) (w : World) : Prop :=
 (i = 1 → ∃ s, b.tmps.getD 35 undef = .slice (some ⟨s, 0, none⟩) 1 1 ∧ w.cell? ⟨s, 0, none⟩ = some (.int .i64 0)) ∧
 (2 ≤ i → ∃ g, base ≤ g ∧ b.tmps.getD 41 undef = .slice (some ⟨g, 0, none⟩) M M ∧ w.rowIs g 3 M (fun _ => .int .i64 0) ∧ (i = 3 → b.tmps.getD 42 undef = .agg #[.int .i64 (G), .int .i64 (N), .int .i64 (N), .slice (some ⟨g, 0, none⟩) M M]))
def RB (base : Nat) (j : Nat) (b : Act) (w : World) : Prop := j = 1 → ∃ o, base ≤ o ∧ b.tmps.getD 9 undef = .pointer (some ⟨o, 0, none⟩) ∧ w.rowIs o 25 4 (chtF 0 0 0 (.slice none 0 0))
theorem RA.step {base M i t : Nat} {G N : Int} {b : Act} {w w' : World} {v : Value} (h : RA base M G N i b w) (hb : Below w.heap.size w w') (h1 : t ≠ 35) (h2 : t ≠ 41) (h3 : t ≠ 42) : RA base M G N i (b.put (some t) v) w' := by
 refine ⟨fun e => ?_, fun e => ?_⟩
 ·obtain ⟨s, e1, e2⟩ := h.1 e
  exact ⟨s, by rw [put_off' h1]; exact e1, bCs hb e2⟩
 ·obtain ⟨g, e0, e1, e2, e3⟩ := h.2 e
  exact ⟨g, e0, by rw [put_off' h2]; exact e1, rowBelow e2 hb e2.lt, fun e5 => by rw [put_off' h3]; exact e3 e5⟩
theorem RB.step {base j t : Nat} {b : Act} {w w' : World} {v : Value} (h : RB base j b w) (hb : Below w.heap.size w w') (h1 : t ≠ 9) : RB base j (b.put (some t) v) w' := by
 intro e
 obtain ⟨o, e0, e1, e2⟩ := h e
 exact ⟨o, e0, by rw [put_off' h1]; exact e1, rowBelow e2 hb e2.lt⟩
theorem MS.fill {ob gb M : Nat} {W0 w : World} {G N : Int} (ho : w.rowIs ob 25 4 (chtF 0 0 0 (.slice none 0 0))) (hg : w.rowIs gb 3 M (fun _ => .int .i64 0)) (hb : Below W0.heap.size W0 w) (h1 : W0.heap.size ≤ ob) (h2 : W0.heap.size ≤ gb) :
  MS ob gb W0 G N M (List.replicate M 0) ((((w.setCell ⟨ob, 0, none⟩ (.int .i64 G)).setCell ⟨ob, 1, none⟩ (.int .i64 N)).setCell ⟨ob, 2, none⟩ (.int .i64 N)).setCell ⟨ob, 3, none⟩ (.slice (some ⟨gb, 0, none⟩) M M)) := by
 have hne : gb ≠ ob := fun e => row_ne ho hg (by decide) e.symm
 have hg' := (((hg.setOther (a := ⟨ob, 0, none⟩) hne (.int .i64 G)).setOther (a := ⟨ob, 1, none⟩) hne (.int .i64 N)).setOther (a := ⟨ob, 2, none⟩) hne (.int .i64 N)).setOther (a := ⟨ob, 3, none⟩) hne (.slice (some ⟨gb, 0, none⟩) M M)
 have ho' := (((ho.set 0 (.int .i64 G)).set 1 (.int .i64 N)).set 2 (.int .i64 N)).set 3 (.slice (some ⟨gb, 0, none⟩) M M)
 have hb' := (((hb.setCell (p := ⟨ob, 0, none⟩) h1 (.int .i64 G)).setCell (p := ⟨ob, 1, none⟩) h1 (.int .i64 N)).setCell (p := ⟨ob, 2, none⟩) h1 (.int .i64 N)).setCell (p := ⟨ob, 3, none⟩) h1 (.slice (some ⟨gb, 0, none⟩) M M)
 refine ⟨ho'.congr fun i hi => ?_, hg'.congr fun i hi => ?_, by simp, h2, hb'⟩
 ·have hi3 : i = 0 ∨ i = 1 ∨ i = 2 ∨ i = 3 := by omega
  rcases hi3 with rfl | rfl | rfl | rfl <;> rfl
 ·simp [hi]
theorem OwnI.setLow {w : World} {base n C b i : Nat} {A : Option Addr} {L : List Int} {u : Value} (h : OwnI w base A n C L) (hb : b < base) : OwnI (w.setCell ⟨b, i, none⟩ u) base A n C L := by
 obtain ⟨h1, h0, h2⟩ := h
 refine ⟨h1, h0, ?_⟩
 rcases h2 with h2 | ⟨g, cap, cur, e1, hb2, hc, h3⟩
 ·exact .inl h2
 ·refine .inr ⟨g, cap, cur, e1, hb2, ?_, h3⟩
  rw [Below.heap_setCell _ _ _ g (fun e2 => by simp only at e2; omega)]
  exact hc
theorem place_To {n k : Nat} {g : Int} {t : Nat} {f : Bool} {o : Z.Pt} (hn : 0 < n) (hk : k < n * n) : place n (Z.add (pnt n ((Z.imageL g n t f).getD k 0)) o) = place n (To g ⟨t, f, o⟩ (pnt n k)) := by
 rw [Z.imageL_get hk, Z.pnt_place hn]
 have h := (Z.eqm_md n (lin g t f (pnt n k))).symm.add (Z.Eqm.refl (n : Int) o)
 have h2 : md n (Z.add (md n (lin g t f (pnt n k))) o) = md n (To g ⟨t, f, o⟩ (pnt n k)) := Z.md_eq h
 have h3 : ∀ z : Z.Pt, place n z = place n (md n z) := fun z => by
  unfold place md
  simp only [Int.emod_emod_of_dvd _ (Int.dvd_refl _)]
 rw [h3, h2, ← h3]
end
end Go.Proofs.YtajdoobkfbdgoaaDoor
