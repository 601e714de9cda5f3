/- Lemmas and contracts of functions (what each call returns, and that it changes nothing that was there) that the proof of a law of this seat uses; each lemma states its own conditions. -/
import Derived.Test.YtooilennejakhaaB01
import Derived.Test.YtooilennejakhaaB23
import Derived.Test.YtooilennejakhaaB30
import Derived.Test.YtooilennejakhaaB35
import Derived.Test.YtooilennejakhaaB39
import Derived.Test.YtooilennejakhaaB27
import Derived.Test.YtooilennejakhaaB04
import Derived.ProofKit
import Derived.OpenShut
import Derived.ShutString
import Derived.ChangeOld
import Derived.Below
import Derived.Lib.SmallJoins
import Derived.Deep.Strs
import Derived.Test.YtooilennejakhaaB05
import Derived.Deep.Grids
import Derived.Test.YtooilennejakhaaB07
namespace Go.Proofs.Ytooilennejakhaa
open Go.RowKit
set_option linter.unusedVariables false
set_option linter.unusedSimpArgs false
open Z (torN place pnt Mv To lin okT nrm keepB colP idm md redM both inv stK Sid Upw movesL turnsF waysF kindP alongB bandP)
theorem rKind_is {G W H n : Nat} {a : Option Addr} {c : Nat} {cs : List Int} {K : Int} {w : World} (hI : IsInts w a n cs) (h : ChOk G W H n cs) (hK : KindIs G W H cs K) :
    Calls Try.prog 14 #[.agg #[.int .i64 (G), .int .i64 (W), .int .i64 (H), .slice a n c]] w fun r w' => r = .returned (.tuple #[.int .i64 (K), .int .i64 (0)]) ∧ Below w.heap.size w w' := by
  obtain ⟨N, sa, uc, ub, hN, h24, h0, hS, hU, rfl⟩ := hK
  have hg : Z.G (G : Int) := by have := h.g; show (G : Int) = 4 ∨ (G : Int) = 6; omega
  have hd := Z.torN_dvd W H
  rw [hN] at hd
  have hm := moves_facts (cs := cs) h hN h24 h0
  have ha := hS.an
  have k := rKind_ok G W H n N a c cs w hI h hN h24 h0 hm.2.2.2
  rw [kind_doc (Z.movesL_grp h0 hd.1 hd.2) hg h0 (Z.colP_per cs hd.1 hd.2) (Z.fine_of h0 hd.1 hd.2 hS hU) (by omega)] at k
  exact k
theorem kind_both (G W H : Int) (a : Option Addr) (n c : Nat) (cs : List Int) (h0 : (-9223372036854775808 ≤ G ∧ G ≤ 9223372036854775807)) (h1 : (-9223372036854775808 ≤ W ∧ W ≤ 9223372036854775807)) (h2 : (-9223372036854775808 ≤ H ∧ H ≤ 9223372036854775807)) (h3 : n ≤ 9223372036854775807) : ∃ k e : Int,
    (∀ w, IsInts w a n cs → Calls Try.prog 8 #[.agg #[.int .i64 (G), .int .i64 (W), .int .i64 (H), .slice a n c]] w fun r w' => r = .returned (.tuple #[.int .i64 (k), .int .i64 (e)]) ∧ Below w.heap.size w w') ∧
    (∀ w, IsInts w a n cs → Calls Try.prog 14 #[.agg #[.int .i64 (G), .int .i64 (W), .int .i64 (H), .slice a n c]] w fun r w' => r = .returned (.tuple #[.int .i64 (k), .int .i64 (e)]) ∧ Below w.heap.size w w') := by
  rcases chart_cases G W H a n c cs h0 h1 h2 h3 with ⟨e, hT⟩ | ⟨G', W', H', N, rfl, rfl, rfl, h, hN, _, h24⟩
  · exact ⟨0, e, fun w hI => Kind_bad G W H a n c cs w hI e hT, fun w hI => rKind_bad G W H a n c cs w hI e hT⟩
  · obtain ⟨K, hK⟩ := KindIs.ex h (by omega)
    exact ⟨K, 0, fun w hI => Kind_is hI h hK, fun w hI => rKind_is hI h hK⟩
theorem band_both (G W H : Int) (a : Option Addr) (n c : Nat) (cs : List Int) (h0 : (-9223372036854775808 ≤ G ∧ G ≤ 9223372036854775807)) (h1 : (-9223372036854775808 ≤ W ∧ W ≤ 9223372036854775807)) (h2 : (-9223372036854775808 ≤ H ∧ H ≤ 9223372036854775807)) (h3 : n ≤ 9223372036854775807) : ∃ k e : Int,
    (∀ w, IsInts w a n cs → Calls Try.prog 13 #[.agg #[.int .i64 (G), .int .i64 (W), .int .i64 (H), .slice a n c]] w fun r w' => r = .returned (.tuple #[.int .i64 (k), .int .i64 (e)]) ∧ Below w.heap.size w w') ∧
    (∀ w, IsInts w a n cs → Calls Try.prog 17 #[.agg #[.int .i64 (G), .int .i64 (W), .int .i64 (H), .slice a n c]] w fun r w' => r = .returned (.tuple #[.int .i64 (k), .int .i64 (e)]) ∧ Below w.heap.size w w') := by
  by_cases he : chE G W H n cs = 0
  · obtain ⟨G', W', H', rfl, rfl, rfl, h⟩ := ChOk.of he
    rcases h.g with rfl | rfl
    · exact ⟨bandP W' H' cs, 0, fun w hI => Band_ok W' H' n a c cs w hI h, fun w hI => rBand_ok W' H' n a c cs w hI h⟩
    · exact ⟨0, 8, fun w hI => Band_hex W' H' n a c cs w hI h, fun w hI => rBand_hex W' H' n a c cs w hI h⟩
  · exact ⟨0, _, fun w hI => Band_wrong G W H a n c cs w hI h0 h1 h2 h3 he, fun w hI => rBand_wrong G W H a n c cs w hI h0 h1 h2 h3 he⟩
theorem name_both (k : Int) : ∃ (s : ByteArray) (e : Int),
    (∀ w, Calls Try.prog 15 #[.int .i64 (k)] w fun r w' => r = .returned (.tuple #[.string s, .int .i64 (e)]) ∧ Below w.heap.size w w') ∧
    (∀ w, Calls Try.prog 16 #[.int .i64 (k)] w fun r w' => r = .returned (.tuple #[.string s, .int .i64 (e)]) ∧ Below w.heap.size w w') := by
  have h : ∃ (s : ByteArray) (e : Int), nmV k = .tuple #[.string s, .int .i64 (e)] := by
    unfold nmV
    split
    · exact ⟨_, _, rfl⟩
    · exact ⟨_, _, rfl⟩
  obtain ⟨s, e, h⟩ := h
  exact ⟨s, e, fun w => by have := Name_any k w; rwa [h] at this, fun w => by have := rName_any k w; rwa [h] at this⟩
set_option maxRecDepth 100000 in
set_option maxHeartbeats 8000000 in
theorem tells4_walk (G W H k : Int) (a : Option Addr) (n c : Nat) (cs : List Int) (w : World) (hI : IsInts w a n cs) (h0 : (-9223372036854775808 ≤ G ∧ G ≤ 9223372036854775807)) (h1 : (-9223372036854775808 ≤ W ∧ W ≤ 9223372036854775807)) (h2 : (-9223372036854775808 ≤ H ∧ H ≤ 9223372036854775807)) (h3 : n ≤ 9223372036854775807) :
    Calls Try.prog 5 #[.agg #[.int .i64 (G), .int .i64 (W), .int .i64 (H), .slice a n c], .int .i64 (k)] w fun r w' => r = .returned (.bool true) ∧ Below w.heap.size w w' := by
  obtain ⟨k1, e1, hA, hB⟩ := kind_both G W H a n c cs h0 h1 h2 h3
  obtain ⟨k2, e2, hC, hD⟩ := band_both G W H a n c cs h0 h1 h2 h3
  obtain ⟨s, e3, hE, hF⟩ := name_both k
  have HA := Lib.hid hA; have HB := Lib.hid hB; have HC := Lib.hid hC; have HD := Lib.hid hD; have HE := Lib.hid hE; have HF := Lib.hid hF
  have HI := Lib.hid hI
  have d1 : (k1 != k1) = false := by simp
  have d2 : (e1 != e1) = false := by simp
  have d3 : (e3 != e3) = false := by simp
  have d4 : (k2 == k2) = true := by simp
  have d5 : (e2 == e2) = true := by simp
  clear hA hB hC hD hE hF hI h0 h1 h2 h3
  go_enter Try.func5, Try.ntmps5
  (go_wp2_with fail; refine (HA.out _ (HI.out.below (by repeat (first | exact Below.refl _ _ | refine Below.drew ?_ | refine below_drewN ?_ _ | refine Below.alloc ?_ (by first | exact Nat.le_refl _ | (simp; done) | (simp; omega) | omega) _ | refine Below.setCell ?_ (by first | exact Nat.le_refl _ | (simp; done) | (simp; omega) | omega) _ | refine bExtW ?_ (by first | exact Nat.le_refl _ | (simp; done) | (simp; omega) | omega) | refine Below.trans ?_ (Below.mono (by assumption) (by first | exact Nat.le_refl _ | (simp; done) | (simp; omega) | omega)))))).mono ?_; rintro r w1 ⟨rfl, hb⟩; obtain ⟨E, d, rfl⟩ := bExt hb; clear hb)
  (go_wp2_with fail; refine (HB.out _ (HI.out.below (by repeat (first | exact Below.refl _ _ | refine Below.drew ?_ | refine below_drewN ?_ _ | refine Below.alloc ?_ (by first | exact Nat.le_refl _ | (simp; done) | (simp; omega) | omega) _ | refine Below.setCell ?_ (by first | exact Nat.le_refl _ | (simp; done) | (simp; omega) | omega) _ | refine bExtW ?_ (by first | exact Nat.le_refl _ | (simp; done) | (simp; omega) | omega) | refine Below.trans ?_ (Below.mono (by assumption) (by first | exact Nat.le_refl _ | (simp; done) | (simp; omega) | omega)))))).mono ?_; rintro r w1 ⟨rfl, hb⟩; obtain ⟨E, d, rfl⟩ := bExt hb; clear hb)
  (go_wp2_with fail; refine (HE.out _).mono ?_; rintro r w1 ⟨rfl, hb⟩; obtain ⟨E, d, rfl⟩ := bExt hb; clear hb)
  (go_wp2_with fail; refine (HF.out _).mono ?_; rintro r w1 ⟨rfl, hb⟩; obtain ⟨E, d, rfl⟩ := bExt hb; clear hb)
  (go_wp2_with fail; refine (HC.out _ (HI.out.below (by repeat (first | exact Below.refl _ _ | refine Below.drew ?_ | refine below_drewN ?_ _ | refine Below.alloc ?_ (by first | exact Nat.le_refl _ | (simp; done) | (simp; omega) | omega) _ | refine Below.setCell ?_ (by first | exact Nat.le_refl _ | (simp; done) | (simp; omega) | omega) _ | refine bExtW ?_ (by first | exact Nat.le_refl _ | (simp; done) | (simp; omega) | omega) | refine Below.trans ?_ (Below.mono (by assumption) (by first | exact Nat.le_refl _ | (simp; done) | (simp; omega) | omega)))))).mono ?_; rintro r w1 ⟨rfl, hb⟩; obtain ⟨E, d, rfl⟩ := bExt hb; clear hb)
  (go_wp2_with fail; refine (HD.out _ (HI.out.below (by repeat (first | exact Below.refl _ _ | refine Below.drew ?_ | refine below_drewN ?_ _ | refine Below.alloc ?_ (by first | exact Nat.le_refl _ | (simp; done) | (simp; omega) | omega) _ | refine Below.setCell ?_ (by first | exact Nat.le_refl _ | (simp; done) | (simp; omega) | omega) _ | refine bExtW ?_ (by first | exact Nat.le_refl _ | (simp; done) | (simp; omega) | omega) | refine Below.trans ?_ (Below.mono (by assumption) (by first | exact Nat.le_refl _ | (simp; done) | (simp; omega) | omega)))))).mono ?_; rintro r w1 ⟨rfl, hb⟩; obtain ⟨E, d, rfl⟩ := bExt hb; clear hb)
  go_wp2
  go_ret
  exact ⟨rfl, (by repeat (first | exact Below.refl _ _ | refine Below.drew ?_ | refine below_drewN ?_ _ | refine Below.alloc ?_ (by first | exact Nat.le_refl _ | (simp; done) | (simp; omega) | omega) _ | refine Below.setCell ?_ (by first | exact Nat.le_refl _ | (simp; done) | (simp; omega) | omega) _ | refine bExtW ?_ (by first | exact Nat.le_refl _ | (simp; done) | (simp; omega) | omega) | refine Below.trans ?_ (Below.mono (by assumption) (by first | exact Nat.le_refl _ | (simp; done) | (simp; omega) | omega))))⟩
end Go.Proofs.Ytooilennejakhaa

namespace Go.Proofs.Ytooilennejakhaa
open Go.ChangeShapes Go.WideShapes Go.ChangeAt Go.RowKit Go.Joins
open Go.ChangeMaps (open_string shut_string)
set_option linter.unusedVariables false
set_option linter.unusedSimpArgs false
set_option maxRecDepth 100000
theorem int_wf {x : Int} (h : (Lit.int .i64 x).wf = true) : (-9223372036854775808 ≤ x ∧ x ≤ 9223372036854775807) := by
  simpa [Lit.wf, IntKind.min, IntKind.max, IntKind.signed, IntKind.bits] using h
section
variable {H : Type} {enc : TypeId × Value → H} {W : World} {base b0 : Nat} {spare : Addr → Bool} {held : Bool} {v : Value} {d : DataW H} {p : List MemPlace}
theorem cellsPoint : Try.prog.cellsOf 33 = 2 := by kernel_rfl
theorem pt_arg (hv : Value.okWide Try.prog W .any b0 33 v) (h : DataW.Trod enc Try.prog W 0 (fun _ => true) true 33 v d p) : ∃ x y, v = .agg #[.int .i64 (x), .int .i64 (y)] ∧ (-9223372036854775808 ≤ x ∧ x ≤ 9223372036854775807) ∧ (-9223372036854775808 ≤ y ∧ y ≤ 9223372036854775807) := by
  obtain ⟨c0, c1, z0, z1, m, e, _, _, hy0, hy1⟩ := open_agg2 Try.underlying33 (by kernel_rfl) cellsPoint hv h
  obtain ⟨x, e0, _, wa⟩ := DataW.trod_int Try.underlying3 hy0
  obtain ⟨y, e1, _, wb⟩ := DataW.trod_int Try.underlying3 hy1
  simp at e0 e1
  subst e0 e1
  exact ⟨x, y, e, int_wf wa, int_wf wb⟩
theorem cellsMove : Try.prog.cellsOf 39 = 4 := by kernel_rfl
theorem cellsInt' : Try.prog.cellsOf 3 = 1 := by kernel_rfl
theorem cellsBool' : Try.prog.cellsOf 4 = 1 := by kernel_rfl
theorem mv_arg (hv : Value.okWide Try.prog W .any b0 39 v) (h : DataW.Trod enc Try.prog W 0 (fun _ => true) true 39 v d p) : ∃ t f x y, v = .agg #[.int .i64 t, .bool f, .int .i64 x, .int .i64 y] ∧ (-9223372036854775808 ≤ t ∧ t ≤ 9223372036854775807) ∧ (-9223372036854775808 ≤ x ∧ x ≤ 9223372036854775807) ∧ (-9223372036854775808 ≤ y ∧ y ≤ 9223372036854775807) := by
  obtain ⟨cs, rfl, hsz⟩ := okWide_struct Try.underlying39 hv
  obtain ⟨c0, c1, c2, c3, rfl⟩ : ∃ c0 c1 c2 c3, cs = #[c0, c1, c2, c3] := by
    rw [cellsMove] at hsz
    match cs, hsz with
    | ⟨[c0, c1, c2, c3]⟩, _ => exact ⟨c0, c1, c2, c3, rfl⟩
  obtain ⟨fuel, hf⟩ := h
  obtain ⟨z0, z1, z2, n, _, _, h0, h1, h2⟩ := Go.Deep.trod_struct3 Try.underlying39 hf
  simp only [cellsInt', cellsBool', cellsPoint, Value.cells] at h0 h1 h2
  obtain ⟨t, e0, _, wa⟩ := DataW.trod_int Try.underlying3 h0
  obtain ⟨f, e1, _⟩ := DataW.trod_bool Try.underlying4 h1
  obtain ⟨s0, s1, m, _, _, g0, g1⟩ := trod_struct2 Try.underlying33 h2
  simp only [cellsInt'] at g0 g1
  obtain ⟨x, e2, _, wb⟩ := DataW.trod_int Try.underlying3 g0
  obtain ⟨y, e3, _, wc⟩ := DataW.trod_int Try.underlying3 g1
  simp at e0 e1 e2 e3
  subst e0 e1 e2 e3
  exact ⟨t, f, x, y, rfl, int_wf wa, int_wf wb, int_wf wc⟩
set_option maxRecDepth 100000 in
theorem ints_arg (hv : Value.okWide Try.prog W .any b0 22 v) (h : DataW.Trod enc Try.prog W 0 (fun _ => true) true 22 v d p) :
    ∃ a n c z, v = .slice a n c ∧ IsInts W a n z ∧ n ≤ 9223372036854775807 ∧ ∀ x ∈ z, (-9223372036854775808 ≤ x ∧ x ≤ 9223372036854775807) := by
  obtain ⟨a0, len0, cap0, rfl⟩ := okWide_slice Try.underlying22 hv
  obtain ⟨fuel, hf⟩ := h
  rcases open_ints Try.underlying22 Try.underlying3 (by kernel_rfl) hf with ⟨hcs, _⟩ | ⟨x, l, c, zs, hcs, _, hl, hm, hz, _, hcell, hwz⟩
  · simp [Value.cells] at hcs
    obtain ⟨rfl, rfl, rfl⟩ := hcs
    exact ⟨none, 0, 0, [], rfl, ⟨rfl, fun h => by omega⟩, by omega, by simp⟩
  · simp [Value.cells] at hcs
    obtain ⟨rfl, rfl, rfl⟩ := hcs
    simp only [if_true] at hz
    unfold maxLen at hm
    refine ⟨some x, len0, cap0, zs.take len0, rfl, ⟨by rw [List.length_take]; omega, fun hn => ?_⟩, by omega, fun y hy => int_wf (hwz y (List.mem_of_mem_take hy))⟩
    obtain ⟨b, off, spot⟩ := x
    have h0 := hcell 0 (by omega)
    have hspot : spot = none := by simpa [Addr.add] using World.cell?_spot h0
    subst hspot
    refine ⟨b, off, rfl, World.block_lt_of_cell? W _ h0, fun j hj => ?_⟩
    have := hcell j (by omega)
    rw [Addr.add_lit] at this
    rw [this, List.getD_eq_getElem?_getD, List.getD_eq_getElem?_getD, List.getElem?_take, if_pos hj]
end
end Go.Proofs.Ytooilennejakhaa

namespace Go.Proofs.Ytooilennejakhaa
open Go.ChangeShapes Go.WideShapes Go.ChangeAt Go.RowKit Go.Joins
set_option linter.unusedVariables false
set_option linter.unusedSimpArgs false
section
variable {H : Type} {enc : TypeId × Value → H} {W : World} {base b0 : Nat} {spare : Addr → Bool} {held : Bool} {v : Value} {d : DataW H} {p : List MemPlace}
set_option maxRecDepth 100000 in
theorem bools_cells {fuel : Nat} {cs : List Value} {x : DataW H × List MemPlace} (h : DataW.trod enc Try.prog W 0 (fun _ => true) true fuel 89 cs = some x) :
    ∃ a n c bs, cs = [.slice a n c] ∧ n ≤ 9223372036854775807 ∧ IsBools W a n bs := by
  rcases Go.Deep.open_bools Try.underlying89 Try.underlying4 (by kernel_rfl) h with ⟨hcs, _⟩ | ⟨x, l, c, B, hcs, _, hl, hm, _, hcell⟩
  · exact ⟨none, 0, 0, [], hcs, by omega, rfl, fun h => by omega⟩
  · unfold maxLen at hm
    refine ⟨some x, l, c, (List.range l).map B, hcs, by omega, by simp, fun hn => ?_⟩
    obtain ⟨b, off, spot⟩ := x
    have h0 := hcell 0 (by omega)
    have hspot : spot = none := by simpa [Addr.add] using World.cell?_spot h0
    subst hspot
    refine ⟨b, off, rfl, World.block_lt_of_cell? W _ h0, fun j hj => ?_⟩
    have := hcell j (by omega)
    rw [Addr.add_lit] at this
    rw [this]
    simp [List.getD, hj]
end
end Go.Proofs.Ytooilennejakhaa

namespace Go.Proofs.Ytooilennejakhaa
open Go.ChangeShapes Go.WideShapes Go.ChangeAt Go.RowKit Go.Joins
set_option linter.unusedVariables false
set_option linter.unusedSimpArgs false
section
variable {H : Type} {enc : TypeId × Value → H} {W : World} {base b0 : Nat} {spare : Addr → Bool} {held : Bool} {v : Value} {d : DataW H} {p : List MemPlace}
set_option maxRecDepth 100000 in
theorem bools_cellsO {fuel : Nat} {cs : List Value} {x : DataW H × List MemPlace} (h : DataW.trod enc Try.prog W 0 (fun _ => true) true fuel 89 cs = some x) :
    ∃ a n c bs, cs = [.slice a n c] ∧ OkT W a n c bs := by
  rcases Go.Deep.open_bools Try.underlying89 Try.underlying4 (by kernel_rfl) h with ⟨hcs, _⟩ | ⟨x, l, c, B, hcs, _, hl, hm, _, hcell⟩
  · exact ⟨none, 0, 0, [], hcs, ⟨⟨rfl, fun h => by omega⟩, by omega, by omega⟩⟩
  · unfold maxLen at hm
    refine ⟨some x, l, c, (List.range l).map B, hcs, ⟨⟨by simp, fun hn => ?_⟩, hl, hm⟩⟩
    obtain ⟨b, off, spot⟩ := x
    have h0 := hcell 0 (by omega)
    have hspot : spot = none := by simpa [Addr.add] using World.cell?_spot h0
    subst hspot
    refine ⟨b, off, rfl, World.block_lt_of_cell? W _ h0, fun j hj => ?_⟩
    have := hcell j (by omega)
    rw [Addr.add_lit] at this
    rw [this]
    simp [List.getD, hj]
end
end Go.Proofs.Ytooilennejakhaa

namespace Go.Proofs.Ytooilennejakhaa
open Go.ChangeShapes Go.WideShapes Go.ChangeAt Go.RowKit Go.Joins
set_option linter.unusedVariables false
set_option linter.unusedSimpArgs false
set_option maxRecDepth 100000
section
variable {H : Type} {enc : TypeId × Value → H} {W : World} {base b0 : Nat} {spare : Addr → Bool} {held : Bool} {v : Value} {d : DataW H} {p : List MemPlace}
theorem intsZ_cells {fuel : Nat} {cs : List Value} {x : DataW H × List MemPlace} (h : DataW.trod enc Try.prog W 0 (fun _ => true) true fuel 22 cs = some x) :
    ∃ a n c z, cs = [.slice a n c] ∧ IsInts W a n z ∧ n ≤ 9223372036854775807 ∧ (a = none → c = 0) := by
  rcases open_ints Try.underlying22 Try.underlying3 (by kernel_rfl) h with ⟨hcs, _⟩ | ⟨x, l, c, zs, hcs, _, hl, hm, hz, _, hcell, hwz⟩
  · exact ⟨none, 0, 0, [], hcs, ⟨rfl, fun h => by omega⟩, by omega, fun _ => rfl⟩
  · simp only [if_true] at hz
    unfold maxLen at hm
    refine ⟨some x, l, c, zs.take l, hcs, ⟨by rw [List.length_take]; omega, fun hn => ?_⟩, by omega, fun e => by cases e⟩
    obtain ⟨b, off, spot⟩ := x
    have h0 := hcell 0 (by omega)
    have hspot : spot = none := by simpa [Addr.add] using World.cell?_spot h0
    subst hspot
    refine ⟨b, off, rfl, World.block_lt_of_cell? W _ h0, fun j hj => ?_⟩
    have := hcell j (by omega)
    rw [Addr.add_lit] at this
    rw [this, List.getD_eq_getElem?_getD, List.getD_eq_getElem?_getD, List.getElem?_take, if_pos hj]
theorem cellsIntsE : Try.prog.cellsOf 22 = 1 := by kernel_rfl
theorem cellsIntE : Try.prog.cellsOf 3 = 1 := by kernel_rfl
theorem cellsChart : Try.prog.cellsOf 24 = 4 := by kernel_rfl
theorem chart_argE (hv : Value.okWide Try.prog W .any b0 24 v) (h : DataW.Trod enc Try.prog W 0 (fun _ => true) true 24 v d p) :
    ∃ g w h a n c cs, v = .agg #[.int .i64 g, .int .i64 w, .int .i64 h, .slice a n c] ∧ (-9223372036854775808 ≤ g ∧ g ≤ 9223372036854775807) ∧ (-9223372036854775808 ≤ w ∧ w ≤ 9223372036854775807) ∧ (-9223372036854775808 ≤ h ∧ h ≤ 9223372036854775807) ∧ n ≤ 9223372036854775807 ∧ IsInts W a n cs := by
  obtain ⟨cs, rfl, hsz⟩ := okWide_struct Try.underlying24 hv
  obtain ⟨c0, c1, c2, c3, rfl⟩ : ∃ c0 c1 c2 c3, cs = #[c0, c1, c2, c3] := by
    rw [cellsChart] at hsz
    match cs, hsz with
    | ⟨[c0, c1, c2, c3]⟩, _ => exact ⟨c0, c1, c2, c3, rfl⟩
  obtain ⟨fuel, hf⟩ := h
  obtain ⟨z0, z1, z2, z3, n, _, _, h0, h1, h2, h3⟩ := trod_struct4 Try.underlying24 hf
  simp only [cellsIntE, cellsIntsE, Value.cells] at h0 h1 h2 h3
  obtain ⟨x, e0, _, wa⟩ := DataW.trod_int Try.underlying3 h0
  obtain ⟨y, e1, _, wb⟩ := DataW.trod_int Try.underlying3 h1
  obtain ⟨z, e2, _, wc⟩ := DataW.trod_int Try.underlying3 h2
  obtain ⟨a, l, c, cs, e3, g2, g3, _⟩ := intsZ_cells h3
  simp at e0 e1 e2 e3
  subst e0 e1 e2 e3
  exact ⟨x, y, z, a, l, c, cs, rfl, int_wf wa, int_wf wb, int_wf wc, g3, g2⟩
end
end Go.Proofs.Ytooilennejakhaa
