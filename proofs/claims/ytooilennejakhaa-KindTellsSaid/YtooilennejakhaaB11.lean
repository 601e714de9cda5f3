/- Lemmas and contracts of functions (what each call returns, and that it changes nothing that was there) that the proof of a law of this seat uses; each lemma states its own conditions. -/
import Derived.Test.YtooilennejakhaaB10
import Derived.Lib.AppendZeros
import Derived.Test.YtooilennejakhaaB08
import Derived.Deep.DeepCutAuto
import Derived.Test.YtooilennejakhaaB06
import Derived.Test.YtooilennejakhaaB04
import Derived.Test.YtooilennejakhaaB09
import Derived.Test.YtooilennejakhaaB02
import Derived.Test.YtooilennejakhaaB05
namespace Go.Proofs.Ytooilennejakhaa
open Go.RowKit
set_option linter.unusedVariables false
set_option linter.unusedSimpArgs false
/-- slices.Grow of nil. -/
def GrowPost (w : World) (r : Ending) (w' : World) : Prop := ∃ C, r = .returned (.slice (some ⟨w.heap.size, 0, none⟩) 0 C) ∧ w'.ownsRow w.heap.size 3 1 (.slice (some ⟨w.heap.size, 0, none⟩) 0 C) 0 [] ∧ Below w.heap.size w w'
theorem own_zeros (w : World) (n : Nat) (hn : n ≤ 1000) : (w.drew.alloc (.cells (Builtin.zeroCells (Value.cells (.int .i64 0)) n ++ Builtin.zeroCells (Value.cells (.int .i64 0)) (grownCap w n 0 3 - n)) 3)).ownsRow w.heap.size 3 1 (.slice (some ⟨w.heap.size, 0, none⟩) 0 (grownCap w n 0 3)) 0 [] := by
  have hge := grownCap_ge w n 0 3
  have hcm := grownCap_le_maxLen w n 0 3 (by unfold maxLen; omega)
  refine own_mk rfl (Nat.le_refl _) (Nat.zero_le _) hcm (heap_alloc_new w.drew _) ?_ rfl
  rw [Array.size_append, size_zeroCells, size_zeroCells]
  show n * 1 + (grownCap w n 0 3 - n) * 1 = _
  omega
theorem slice_nil0 : ∀ w, (Instr.slice 22 (.slice none 0 0) none (some (.int .i64 (0))) none).run Try.prog w = .ok (.slice none 0 0) w := by
  intro w
  rw [run_slice_h (P := Try.prog) w 22 none 0 0 (by kernel_rfl) .i64 0 (by omega) (by omega)]
  have hsz : (sizeOf (Try.prog.elem 22)).run Try.prog w = .ok 1 w := by go_simp
  rw [hsz]
  rfl
theorem slice_to0 (g n c : Nat) : ∀ w, (Instr.slice 22 (.slice (some ⟨g, 0, none⟩) n c) none (some (.int .i64 (0))) none).run Try.prog w = .ok (.slice (some ⟨g, 0, none⟩) 0 c) w := by
  intro w
  rw [run_slice_h (P := Try.prog) w 22 (some ⟨g, 0, none⟩) n c (by kernel_rfl) .i64 0 (by omega) (by omega)]
  have hsz : (sizeOf (Try.prog.elem 22)).run Try.prog w = .ok 1 w := by go_simp
  rw [hsz]
  simp [Result.andThen, sliced, Addr.add_lit]
end Go.Proofs.Ytooilennejakhaa

namespace Go.Proofs.Ytooilennejakhaa
open Go.RowKit
set_option linter.unusedVariables false
set_option linter.unusedSimpArgs false
/-- What is wrong with threads. -/
def stE (en pn : Nat) (es ps : List Int) : Int := if en = 0 ∨ 64 < en ∨ pn = 0 ∨ 64 < pn then 5 else if ∃ x ∈ es ++ ps, x < 0 ∨ 62 ≤ x then 3 else 0
theorem stE_zero {en pn : Nat} {es ps : List Int} (h : stE en pn es ps = 0) : 1 ≤ en ∧ en ≤ 64 ∧ 1 ≤ pn ∧ pn ≤ 64 ∧ ∀ x ∈ es ++ ps, 0 ≤ x ∧ x < 62 := by
  unfold stE at h
  split at h
  · omega
  · split at h
    · omega
    · rename_i h1 h2
      refine ⟨by omega, by omega, by omega, by omega, fun x hx => ?_⟩
      by_cases e : x < 0 ∨ 62 ≤ x
      · exact absurd ⟨x, hx, e⟩ h2
      · omega
theorem stE_ok {en pn : Nat} {es ps : List Int} (h1 : 1 ≤ en) (h2 : en ≤ 64) (h3 : 1 ≤ pn) (h4 : pn ≤ 64) (h : ∀ x ∈ es ++ ps, 0 ≤ x ∧ x < 62) : stE en pn es ps = 0 := by
  unfold stE
  rw [if_neg (by omega), if_neg (by rintro ⟨x, hx, e⟩; have := h x hx; omega)]
theorem ints_of_any {w : World} {base n c : Nat} {A : Option Addr} {l : List Int} (hl : l.length = n) (h : w.ownsRow base 3 1 (.slice A n c) n (l.map i64v)) : IsInts w A n l := by
  subst hl
  obtain ⟨a, c', e, h1, _⟩ := ints_owns h
  injection e with e1 _ _
  subst e1
  exact h1
end Go.Proofs.Ytooilennejakhaa

namespace Go.Proofs.Ytooilennejakhaa
open Go.RowKit
set_option linter.unusedVariables false
set_option linter.unusedSimpArgs false
/-- Threads that lie in memory. -/
structure SArg (ea : Option Addr) (en ec : Nat) (es : List Int) (pa : Option Addr) (pn pc : Nat) (ps : List Int) (w : World) : Prop where
  e : IsInts w ea en es
  p : IsInts w pa pn ps
theorem SArg.below {ea : Option Addr} {en ec : Nat} {es : List Int} {pa : Option Addr} {pn pc : Nat} {ps : List Int} {w w' : World} (h : SArg ea en ec es pa pn pc ps w) (hb : Below w.heap.size w w') : SArg ea en ec es pa pn pc ps w' := ⟨h.e.below hb, h.p.below hb⟩
/-- What is seen of a cloth. -/
def shL (W : Nat) (es ps : List Int) (bs : List Bool) (k : Nat) : List Int := (List.range k).map fun i => if bs.getD i false then es.getD (i % W) 0 else ps.getD (i / W) 0
theorem shL_succ (W : Nat) (es ps : List Int) (bs : List Bool) (k : Nat) : shL W es ps bs (k + 1) = shL W es ps bs k ++ [if bs.getD k false then es.getD (k % W) 0 else ps.getD (k / W) 0] := by
  unfold shL
  rw [List.range_succ, List.map_append]; rfl
theorem shL_len (W : Nat) (es ps : List Int) (bs : List Bool) (k : Nat) : (shL W es ps bs k).length = k := by simp [shL]
/-- The cells of a chart. -/
def chG (G W H : Int) (v : Value) : Nat → Value := fun j => if j = 0 then .int .i64 G else if j = 1 then .int .i64 W else if j = 2 then .int .i64 H else v
theorem chG_alloc (w : World) (G W H : Int) (v : Value) : (w.alloc (.cells #[.int .i64 G, .int .i64 W, .int .i64 H, v] 24)).rowIs w.heap.size 24 4 (chG G W H v) :=
  World.rowIs_alloc w #[.int .i64 G, .int .i64 W, .int .i64 H, v] 24 _ (by
    intro i hi
    have hi4 : i = 0 ∨ i = 1 ∨ i = 2 ∨ i = 3 := by simp at hi; omega
    rcases hi4 with rfl | rfl | rfl | rfl <;> rfl)
def sF (a b : Value) : Nat → Value := fun j => if j = 0 then a else b
structure CB (G W H : Int) (mb base : Nat) (W3 : World) (n : Nat) (p : List Int) (v : Value) (w : World) : Prop where
  row : w.rowIs mb 24 4 (chG G W H v)
  own : w.ownsRow base 3 1 v n (p.map i64v)
  bel : BelowX base mb W3 w
theorem CB.app {G W H : Int} {mb base n : Nat} {W3 w w2 : World} {p : List Int} {v v' : Value} {x : Int} (h : CB G W H mb base W3 n p v w) (hp : mb < base) (hown : w2.ownsRow base 3 1 v' (n + 1) (p.map i64v ++ [i64v x])) (hb : Below base w w2) :
    CB G W H mb base W3 (n + 1) (p ++ [x]) v' (w2.setCell ⟨mb, 3, none⟩ v') := by
  refine ⟨?_, ?_, ?_⟩
  · refine ((rowBelow h.row hb hp).set 3 _).congr fun i hi => ?_
    have hi4 : i = 0 ∨ i = 1 ∨ i = 2 ∨ i = 3 := by omega
    rcases hi4 with rfl | rfl | rfl | rfl <;> rfl
  · rw [List.map_append]
    exact ownsRow_setCell_below hown (a := ⟨mb, 3, none⟩) hp _
  · exact (h.bel.trans (BelowX.of_below h.bel.size hb)).set 3 _
/-- A chart and an error. -/
def ChPost (G W H : Int) (n : Nat) (L : List Int) (e : Int) (w : World) (r : Ending) (w' : World) : Prop := ∃ A C, r = .returned (.tuple #[.agg #[.int .i64 (G), .int .i64 (W), .int .i64 (H), .slice A n C], .int .i64 (e)]) ∧ IsInts w' A n L ∧ (A = none → C = 0) ∧ Below w.heap.size w w'
end Go.Proofs.Ytooilennejakhaa

namespace Go.Proofs.Ytooilennejakhaa
open Go.RowKit
set_option linter.unusedVariables false
set_option linter.unusedSimpArgs false
theorem rest_eq {a : Int} {n : Nat} (hn : 0 < n) : a % (n : Int) = if a.tmod n < 0 then a.tmod n + n else a.tmod n := by
  have h0 : (0 : Int) < n := by omega
  have h1 : a = a.tmod n + n * a.tdiv n := (Int.tmod_add_mul_tdiv a n).symm
  have e : a % (n : Int) = (a.tmod n) % (n : Int) := by
    conv => lhs; rw [h1]
    rw [Int.add_mul_emod_self_left]
  have hlt := Int.tmod_lt_of_pos a h0
  have hgt := Int.lt_tmod_of_pos a h0
  rw [e]
  split
  · rw [← Int.add_emod_right, Int.emod_eq_of_lt (by omega) (by omega)]
  · exact Int.emod_eq_of_lt (by omega) hlt
set_option maxRecDepth 100000 in
set_option maxHeartbeats 8000000 in
theorem Rest_ok (a : Int) (n : Nat) (w : World) (hn : 0 < n) (h2 : n ≤ 64) (ha : (-9223372036854775808 ≤ a ∧ a ≤ 9223372036854775807)) :
    Calls Try.prog 66 #[.int .i64 (a), .int .i64 (n)] w fun e w' => e = .returned (.int .i64 (a % (n : Int))) ∧ Below w.heap.size w w' := by
  have h0 : (0 : Int) < n := by omega
  have hE := Lib.hid (rest_eq (a := a) hn)
  have hlt := Int.tmod_lt_of_pos a h0
  have hgt := Int.lt_tmod_of_pos a h0
  have hN0 : ((n : Int) == 0) = false := by simp; omega
  have hN1 : (n : Int) ≠ 0 := by omega
  have hN3 : ¬ n = 0 := by omega
  obtain ⟨r, hr⟩ : ∃ r, a.tmod (n : Int) = r := ⟨_, rfl⟩
  rw [hr] at hE hlt hgt
  by_cases hr0 : r < 0
  · rw [if_pos hr0] at hE
    have v1 : IntKind.i64.wrap r = r := IntWalk.i64_in _ (by omega)
    have v2 : IntKind.i64.wrap (r + (n : Int)) = r + (n : Int) := IntWalk.i64_in _ (by omega)
    have hd : decide (r < 0) = true := by simpa using hr0
    go_enter Try.func66, Try.ntmps66
    go_wp2
    go_ret
    exact ⟨by rw [hE.out]; rfl, (by repeat (first | exact Below.refl _ _ | refine Below.drew ?_ | refine below_drewN ?_ _ | refine Below.alloc ?_ (by first | exact Nat.le_refl _ | (simp; done) | (simp; omega) | omega) _ | refine Below.setCell ?_ (by first | exact Nat.le_refl _ | (simp; done) | (simp; omega) | omega) _ | refine bExtW ?_ (by first | exact Nat.le_refl _ | (simp; done) | (simp; omega) | omega) | refine Below.trans ?_ (Below.mono (by assumption) (by first | exact Nat.le_refl _ | (simp; done) | (simp; omega) | omega))))⟩
  · rw [if_neg hr0] at hE
    have v1 : IntKind.i64.wrap r = r := IntWalk.i64_in _ (by omega)
    have hd : decide (r < 0) = false := by simpa using hr0
    go_enter Try.func66, Try.ntmps66
    go_wp2
    go_ret
    exact ⟨by rw [hE.out]; rfl, (by repeat (first | exact Below.refl _ _ | refine Below.drew ?_ | refine below_drewN ?_ _ | refine Below.alloc ?_ (by first | exact Nat.le_refl _ | (simp; done) | (simp; omega) | omega) _ | refine Below.setCell ?_ (by first | exact Nat.le_refl _ | (simp; done) | (simp; omega) | omega) _ | refine bExtW ?_ (by first | exact Nat.le_refl _ | (simp; done) | (simp; omega) | omega) | refine Below.trans ?_ (Below.mono (by assumption) (by first | exact Nat.le_refl _ | (simp; done) | (simp; omega) | omega))))⟩

/-- The cell at a point, anywhere. -/
def cellAt (W H : Nat) (cs : List Int) (x y : Int) : Int := cs.getD ((y % (H : Int)).toNat * W + (x % (W : Int)).toNat) 0
theorem emod_nat (a : Int) {n : Nat} (hn : 0 < n) : ∃ k : Nat, a % (n : Int) = k ∧ k < n ∧ (a % (n : Int)).toNat = k := by
  have h1 := Int.emod_nonneg a (show (n : Int) ≠ 0 by omega)
  have h2 := Int.emod_lt_of_pos a (show (0 : Int) < n by omega)
  exact ⟨(a % (n : Int)).toNat, by omega, by omega, rfl⟩
set_option maxRecDepth 100000 in
set_option maxHeartbeats 8000000 in
theorem Cell_ok (G W H n : Nat) (a : Option Addr) (c : Nat) (cs : List Int) (x y : Int) (w : World) (hI : IsInts w a n cs) (hW1 : 0 < W) (hW : W ≤ 64) (hH1 : 0 < H) (hH : H ≤ 64) (hn : n = W * H) (hx : (-9223372036854775808 ≤ x ∧ x ≤ 9223372036854775807)) (hy : (-9223372036854775808 ≤ y ∧ y ≤ 9223372036854775807)) :
    Calls Try.prog 52 #[.agg #[.int .i64 (G), .int .i64 (W), .int .i64 (H), .slice a n c], .int .i64 (x), .int .i64 (y)] w fun e w' => e = .returned (.int .i64 (cellAt W H cs x y)) ∧ Below w.heap.size w w' := by
  have HX := Lib.hid (fun w => Rest_ok x W w hW1 hW hx)
  have HY := Lib.hid (fun w => Rest_ok y H w hH1 hH hy)
  obtain ⟨i, e1, i1, e2⟩ := emod_nat x hW1
  obtain ⟨j, e3, j1, e4⟩ := emod_nat y hH1
  have HC : Hid (cellAt W H cs x y = cs.getD (j * W + i) 0) := Lib.hid (by unfold cellAt; rw [e2, e4])
  rw [e1] at HX
  rw [e3] at HY
  have hn4 : n ≤ 4096 := by rw [hn]; exact Nat.mul_le_mul hW hH
  obtain ⟨M, hM⟩ : ∃ M, j * W = M := ⟨_, rfl⟩
  obtain ⟨p, hp⟩ : ∃ p, M + i = p := ⟨_, rfl⟩
  have hpn : p < n := by
    have h1 : (j + 1) * W ≤ H * W := Nat.mul_le_mul_right W (by omega)
    have h2 : (j + 1) * W = j * W + W := Nat.succ_mul j W
    rw [hn, Nat.mul_comm W H]; omega
  have hMi : (j : Int) * (W : Int) = (M : Int) := by rw [← hM]; push_cast; rfl
  have hMp : (M : Int) + (i : Int) = (p : Int) := by rw [← hp]; push_cast; rfl
  have hM4 : M ≤ 4096 := by omega
  have vM : IntKind.i64.wrap (M : Int) = (M : Int) := IntWalk.i64_in _ (by omega)
  have vp : IntKind.i64.wrap (p : Int) = (p : Int) := IntWalk.i64_in _ (by omega)
  rw [hM, hp] at HC
  obtain ⟨b, o, rfl, hb, hc⟩ := hI.2 (by omega)
  have c0 := hc p hpn
  have lb : LtW b w := hb
  obtain ⟨v, hv⟩ : ∃ v, cs.getD p 0 = v := ⟨_, rfl⟩
  rw [hv] at c0 HC
  rw [HC.out]
  clear hI hc hb hv e1 e2 e3 e4 hM hp hn
  go_enter Try.func52, Try.ntmps52
  go_wp2_with fail
  refine wp_region_ext (by kernel_rfl) (by kernel_rfl) ?_
  (repeat (first | ((with_reducible refine ext_step (fun K hK => ?_)); go_simp; first | (refine hK _ ?_; clear hK K) | (apply Exists.intro; refine ⟨fun _ _ => ?_, hK _ ?_⟩; fail; clear hK K))))
  ((with_reducible refine ext_step (fun K hK => ?_)); go_simp; (apply Exists.intro; refine ⟨fun _ _ => ?_, hK _ ?_⟩; (go_at_call 66; exact extOf (HY.out _)); clear hK K))
  (repeat (first | ((with_reducible refine ext_step (fun K hK => ?_)); go_simp; first | (refine hK _ ?_; clear hK K) | (apply Exists.intro; refine ⟨fun _ _ => ?_, hK _ ?_⟩; fail; clear hK K))))
  ((with_reducible refine ext_step (fun K hK => ?_)); go_simp; (apply Exists.intro; refine ⟨fun _ _ => ?_, hK _ ?_⟩; (go_at_call 66; exact extOf (HX.out _)); clear hK K))
  (repeat (first | ((with_reducible refine ext_step (fun K hK => ?_)); go_simp; first | (refine hK _ ?_; clear hK K) | (apply Exists.intro; refine ⟨fun _ _ => ?_, hK _ ?_⟩; fail; clear hK K))))
  refine wpQuiet_nil ?_; intro E d
  go_wp2
  go_ret
  exact ⟨rfl, (by repeat (first | exact Below.refl _ _ | refine Below.drew ?_ | refine below_drewN ?_ _ | refine Below.alloc ?_ (by first | exact Nat.le_refl _ | (simp; done) | (simp; omega) | omega) _ | refine Below.setCell ?_ (by first | exact Nat.le_refl _ | (simp; done) | (simp; omega) | omega) _ | refine bExtW ?_ (by first | exact Nat.le_refl _ | (simp; done) | (simp; omega) | omega) | refine Below.trans ?_ (Below.mono (by assumption) (by first | exact Nat.le_refl _ | (simp; done) | (simp; omega) | omega))))⟩
/-- What At tells. -/
def atE (G W H : Int) (n : Nat) (cs : List Int) (x y : Int) : Int := if chE G W H n cs = 0 then cellAt W.toNat H.toNat cs x y else 0
end Go.Proofs.Ytooilennejakhaa

namespace Go.Proofs.Ytooilennejakhaa
open Go.RowKit
set_option linter.unusedVariables false
set_option linter.unusedSimpArgs false
open Z (torN)
/-- Block mb holds a struct one of whose fields is a list that grows. -/
structure FL (base mb T nc : Nat) (f : Value → Nat → Value) (e : Nat) (L : List Value) (W1 : World) (v : Value) (w : World) : Prop where
  row : w.rowIs mb T nc (f v)
  own : w.ownsRow base e 1 v L.length L
  bel : BelowX base mb W1 w
theorem FL.app {base mb T nc k e n : Nat} {f : Value → Nat → Value} {L : List Value} {W1 w WE w2 : World} {v : Value} {A : Option Addr} {cp : Nat} {u : Value} (hr : w.rowIs mb T nc (f v)) (hx : BelowX base mb W1 w) (hE : Below w.heap.size w WE) (hm : mb < base)
    (hown : w2.ownsRow base e 1 (.slice A (n + 1) cp) (n + 1) (L ++ (#[u]).toList)) (hb : Below base WE w2) (hf : ∀ i, i < nc → (if i = k then (.slice A (n + 1) cp) else f v i) = f (.slice A (n + 1) cp) i) :
    FL base mb T nc f e (L ++ [u]) W1 (.slice A (n + 1) cp) (w2.setCell ⟨mb, k, none⟩ (.slice A (n + 1) cp)) := by
  have hlt : mb < w.heap.size := Nat.lt_of_lt_of_le hm hx.size
  have hn : (L ++ [u]).length = n + 1 := by
    have h1 := hown.1
    simp at h1
    simp; omega
  have hsz : w.heap.size ≤ WE.heap.size := hE.size
  refine ⟨?_, ?_, ?_⟩
  · exact ((rowBelow (rowBelow hr hE hlt) hb hm).set k _).congr fun i hi => hf i hi
  · rw [hn]
    exact ownsRow_setCell_below hown (a := ⟨mb, k, none⟩) hm _
  · refine ⟨hb.os.trans (hE.os.trans hx.os), hb.tape.trans (hE.tape.trans hx.tape), hb.output.trans (hE.output.trans hx.output), ?_, fun k' hk hkm => ?_⟩
    · rw [World.size_setCell]; exact Nat.le_trans hx.size (Nat.le_trans hE.size hb.size)
    · rw [Below.heap_setCell _ _ _ k' (fun e => hkm (by rw [e])), hb.block k' hk, hE.block k' (Nat.lt_of_lt_of_le hk hx.size), hx.block k' hk hkm]
/-- A right chart. -/
structure ChOk (G W H n : Nat) (cs : List Int) : Prop where
  g : G = 4 ∨ G = 6
  w1 : 0 < W
  w2 : W ≤ 64
  h1 : 0 < H
  h2 : H ≤ 64
  hn : n = W * H
  cr : ∀ x ∈ cs, 0 ≤ x ∧ x < 62
section
variable {G W H n : Nat} {cs : List Int}
theorem ChOk.e (h : ChOk G W H n cs) : chE G W H n cs = 0 := chE_ok (by have := h.g; omega) h.w1 h.w2 h.h1 h.h2 h.hn h.cr
theorem ChOk.n4 (h : ChOk G W H n cs) : n ≤ 4096 := by rw [h.hn]; exact Nat.mul_le_mul h.w2 h.h2
theorem ChOk.tpos (h : ChOk G W H n cs) : 0 < torN W H := Z.torN_pos h.w1 h.h1
theorem ChOk.tle (h : ChOk G W H n cs) : torN W H ≤ 4096 := by
  rw [Z.torN_eq]
  exact Nat.mul_le_mul h.w2 (Nat.le_trans (Nat.div_le_self _ _) h.h2)
end
theorem ChOk.of {G W H : Int} {n : Nat} {cs : List Int} (h : chE G W H n cs = 0) : ∃ G' W' H' : Nat, G = G' ∧ W = W' ∧ H = H' ∧ ChOk G' W' H' n cs := by
  obtain ⟨hG, W', H', rfl, rfl, w1, w2, k1, k2, hn, hC⟩ := chE_zero h
  exact ⟨G.toNat, W', H', by omega, rfl, rfl, by omega, w1, w2, k1, k2, hn, hC⟩
set_option maxRecDepth 100000 in
set_option maxHeartbeats 8000000 in
theorem gcd_ok (x y : Nat) (w : World) (hx : x ≤ 64) (hy : y ≤ 64) :
    Calls Try.prog 26 #[.int .i64 (x), .int .i64 (y)] w fun e w' => e = .returned (.int .i64 (Nat.gcd x y)) ∧ Below w.heap.size w w' := by
  go_enter Try.func26, Try.ntmps26
  go_wp2_with fail
  go_loopw [0, 1] (fun a b wr => ∃ (p q : Nat) (E : Array Obj) (d : Nat), p ≤ 64 ∧ q ≤ 64 ∧ a = .int .i64 p ∧ b = .int .i64 q ∧ Hid (Nat.gcd p q = Nat.gcd x y) ∧ wr = extW w E d) (fun _ b _ => (intOf b).toNat)
  case atStart => exact ⟨x, y, #[], w.drawn, hx, hy, rfl, rfl, Lib.hid rfl, extW_zero _⟩
  case round =>
    obtain ⟨p, q, E, d, hp, hq, rfl, rfl, HG, rfl⟩ := hrel
    by_cases hq0 : q = 0
    · subst hq0
      have HE : Hid (Nat.gcd x y = p) := Lib.hid (by rw [← HG.out, Nat.gcd_zero_right])
      go_wp2
      go_ret
      exact ⟨by rw [HE.out]; rfl, (by repeat (first | exact Below.refl _ _ | refine Below.drew ?_ | refine below_drewN ?_ _ | refine Below.alloc ?_ (by first | exact Nat.le_refl _ | (simp; done) | (simp; omega) | omega) _ | refine Below.setCell ?_ (by first | exact Nat.le_refl _ | (simp; done) | (simp; omega) | omega) _ | refine bExtW ?_ (by first | exact Nat.le_refl _ | (simp; done) | (simp; omega) | omega) | refine Below.trans ?_ (Below.mono (by assumption) (by first | exact Nat.le_refl _ | (simp; done) | (simp; omega) | omega))))⟩
    · have b0 : ((q : Int) != 0) = true := by simp; omega
      have b1 : ((q : Int) == 0) = false := by simp; omega
      have b2 : (q : Int) ≠ 0 := by omega
      obtain ⟨m, hm⟩ : ∃ m, p % q = m := ⟨_, rfl⟩
      have hm1 : m < q := by rw [← hm]; exact Nat.mod_lt _ (by omega)
      have ht : (p : Int).tmod (q : Int) = (m : Int) := by rw [← hm]; rfl
      have HM := Lib.hid hm
      have v1 : IntKind.i64.wrap (m : Int) = (m : Int) := IntWalk.i64_in _ (by omega)
      clear hm
      go_wp2_with fail
      (refine wp_region_ext (by kernel_rfl) (by kernel_rfl) ?_; (repeat (first | ((with_reducible refine ext_step (fun K hK => ?_)); go_simp; first | (refine hK _ ?_; clear hK K) | (apply Exists.intro; refine ⟨fun _ _ => ?_, hK _ ?_⟩; fail; clear hK K)))); refine wpQuiet_nil ?_; intro E d)
      go_wp2
      go_roundw
      case rel => exact ⟨q, m, _, _, hq, by omega, rfl, rfl, Lib.hid (by rw [← HG.out, ← HM.out, Nat.gcd_comm p q, Nat.gcd_rec q p, Nat.gcd_comm]), by rw [extW_extW]⟩
      case measure => simp [intOf]; omega
set_option maxRecDepth 100000 in
set_option maxHeartbeats 8000000 in
theorem Torus_bad (G W H : Int) (a : Option Addr) (n c : Nat) (cs : List Int) (w : World) (hI : IsInts w a n cs) (h0 : (-9223372036854775808 ≤ G ∧ G ≤ 9223372036854775807)) (h1 : (-9223372036854775808 ≤ W ∧ W ≤ 9223372036854775807)) (h2 : (-9223372036854775808 ≤ H ∧ H ≤ 9223372036854775807)) (h3 : n ≤ 9223372036854775807) (he : chE G W H n cs ≠ 0) :
    Calls Try.prog 10 #[.agg #[.int .i64 (G), .int .i64 (W), .int .i64 (H), .slice a n c]] w fun e w' => e = .returned (.tuple #[.int .i64 (0), .int .i64 (chE G W H n cs)]) ∧ Below w.heap.size w w' := by
  have hb : (chE G W H n cs != 0) = true := by simpa using he
  have HT := Lib.hid (fun w hI => chWrong_any G W H a n c cs w hI h0 h1 h2 h3)
  have HI := Lib.hid hI
  clear he hI
  generalize chE G W H n cs = q at *
  go_enter Try.func10, Try.ntmps10
  (go_wp2_with fail; refine (HT.out _ (HI.out.below (by repeat (first | exact Below.refl _ _ | refine Below.drew ?_ | refine below_drewN ?_ _ | refine Below.alloc ?_ (by first | exact Nat.le_refl _ | (simp; done) | (simp; omega) | omega) _ | refine Below.setCell ?_ (by first | exact Nat.le_refl _ | (simp; done) | (simp; omega) | omega) _ | refine bExtW ?_ (by first | exact Nat.le_refl _ | (simp; done) | (simp; omega) | omega) | refine Below.trans ?_ (Below.mono (by assumption) (by first | exact Nat.le_refl _ | (simp; done) | (simp; omega) | omega)))))).mono ?_; rintro r w1 ⟨rfl, hb⟩; obtain ⟨E, d, rfl⟩ := bExt hb; clear hb)
  go_wp2
  go_ret2
  exact ⟨rfl, (by repeat (first | exact Below.refl _ _ | refine Below.drew ?_ | refine below_drewN ?_ _ | refine Below.alloc ?_ (by first | exact Nat.le_refl _ | (simp; done) | (simp; omega) | omega) _ | refine Below.setCell ?_ (by first | exact Nat.le_refl _ | (simp; done) | (simp; omega) | omega) _ | refine bExtW ?_ (by first | exact Nat.le_refl _ | (simp; done) | (simp; omega) | omega) | refine Below.trans ?_ (Below.mono (by assumption) (by first | exact Nat.le_refl _ | (simp; done) | (simp; omega) | omega))))⟩
/-- What Torus tells of a right chart. -/
def torV (N : Nat) : Value := if 24 < N then .tuple #[.int .i64 (0), .int .i64 (4)] else .tuple #[.int .i64 (N), .int .i64 (0)]
set_option maxRecDepth 100000 in
set_option maxHeartbeats 8000000 in
theorem Torus_ok (G W H n : Nat) (a : Option Addr) (c : Nat) (cs : List Int) (w : World) (hI : IsInts w a n cs) (h : ChOk G W H n cs) :
    Calls Try.prog 10 #[.agg #[.int .i64 (G), .int .i64 (W), .int .i64 (H), .slice a n c]] w fun e w' => e = .returned (torV (torN W H)) ∧ Below w.heap.size w w' := by
  have hn4 := h.n4
  have HR := Lib.hid (fun w hI => chWrong_any G W H a n c cs w hI (by have := h.g; omega) (by have := h.w2; omega) (by have := h.h2; omega) (by omega))
  rw [h.e] at HR
  have HI := Lib.hid hI
  have hW := h.w2; have hH := h.h2; have hW1 := h.w1
  have HG := Lib.hid (fun w => gcd_ok W H w hW hH)
  have hN : W / Nat.gcd W H * H = torN W H := rfl
  have hNl := h.tle
  have hg : 0 < Nat.gcd W H := Nat.gcd_pos_of_pos_left H hW1
  have hgl : Nat.gcd W H ≤ W := Nat.le_of_dvd hW1 (Nat.gcd_dvd_left W H)
  generalize Nat.gcd W H = g at *
  generalize torN W H = N at *
  obtain ⟨q, hq⟩ : ∃ q, W / g = q := ⟨_, rfl⟩
  have hqW : q ≤ W := by rw [← hq]; exact Nat.div_le_self _ _
  rw [hq] at hN
  have t1 : (W : Int).tdiv (g : Int) = (q : Int) := by rw [← hq]; rfl
  have t2 : (q : Int) * (H : Int) = (N : Int) := by rw [← hN]; push_cast; rfl
  have b1 : ((g : Int) == 0) = false := by simp; omega
  have b2 : (g : Int) ≠ 0 := by omega
  have b3 : ¬ g = 0 := by omega
  have v1 : IntKind.i64.wrap (q : Int) = (q : Int) := IntWalk.i64_in _ (by omega)
  have v2 : IntKind.i64.wrap (N : Int) = (N : Int) := IntWalk.i64_in _ (by omega)
  clear hI hn4 hq hN h
  by_cases hm : 24 < N
  · have d1 : decide (24 < N) = true := by simpa using hm
    have d2 : decide ((N : Int) > 24) = true := by simp; omega
    have HV : Hid (torV N = .tuple #[.int .i64 (0), .int .i64 (4)]) := Lib.hid (by unfold torV; rw [if_pos hm])
    go_enter Try.func10, Try.ntmps10
    (go_wp2_with fail; refine (HR.out _ (HI.out.below (by repeat (first | exact Below.refl _ _ | refine Below.drew ?_ | refine below_drewN ?_ _ | refine Below.alloc ?_ (by first | exact Nat.le_refl _ | (simp; done) | (simp; omega) | omega) _ | refine Below.setCell ?_ (by first | exact Nat.le_refl _ | (simp; done) | (simp; omega) | omega) _ | refine bExtW ?_ (by first | exact Nat.le_refl _ | (simp; done) | (simp; omega) | omega) | refine Below.trans ?_ (Below.mono (by assumption) (by first | exact Nat.le_refl _ | (simp; done) | (simp; omega) | omega)))))).mono ?_; rintro r w1 ⟨rfl, hb⟩; obtain ⟨E, d, rfl⟩ := bExt hb; clear hb)
    go_wp2_with fail
    (refine wp_region_ext (by kernel_rfl) (by kernel_rfl) ?_; (repeat (first | ((with_reducible refine ext_step (fun K hK => ?_)); go_simp; first | (refine hK _ ?_; clear hK K) | (apply Exists.intro; refine ⟨fun _ _ => ?_, hK _ ?_⟩; (go_at_call 26; exact extOf (HG.out _)); clear hK K)))); refine wpQuiet_nil ?_; intro E d)
    go_wp2
    go_ret2
    exact ⟨by rw [HV.out]; rfl, (by repeat (first | exact Below.refl _ _ | refine Below.drew ?_ | refine below_drewN ?_ _ | refine Below.alloc ?_ (by first | exact Nat.le_refl _ | (simp; done) | (simp; omega) | omega) _ | refine Below.setCell ?_ (by first | exact Nat.le_refl _ | (simp; done) | (simp; omega) | omega) _ | refine bExtW ?_ (by first | exact Nat.le_refl _ | (simp; done) | (simp; omega) | omega) | refine Below.trans ?_ (Below.mono (by assumption) (by first | exact Nat.le_refl _ | (simp; done) | (simp; omega) | omega))))⟩
  · have d1 : decide (24 < N) = false := by simpa using hm
    have d2 : decide ((N : Int) > 24) = false := by simp; omega
    have HV : Hid (torV N = .tuple #[.int .i64 (N), .int .i64 (0)]) := Lib.hid (by unfold torV; rw [if_neg hm])
    go_enter Try.func10, Try.ntmps10
    (go_wp2_with fail; refine (HR.out _ (HI.out.below (by repeat (first | exact Below.refl _ _ | refine Below.drew ?_ | refine below_drewN ?_ _ | refine Below.alloc ?_ (by first | exact Nat.le_refl _ | (simp; done) | (simp; omega) | omega) _ | refine Below.setCell ?_ (by first | exact Nat.le_refl _ | (simp; done) | (simp; omega) | omega) _ | refine bExtW ?_ (by first | exact Nat.le_refl _ | (simp; done) | (simp; omega) | omega) | refine Below.trans ?_ (Below.mono (by assumption) (by first | exact Nat.le_refl _ | (simp; done) | (simp; omega) | omega)))))).mono ?_; rintro r w1 ⟨rfl, hb⟩; obtain ⟨E, d, rfl⟩ := bExt hb; clear hb)
    go_wp2_with fail
    (refine wp_region_ext (by kernel_rfl) (by kernel_rfl) ?_; (repeat (first | ((with_reducible refine ext_step (fun K hK => ?_)); go_simp; first | (refine hK _ ?_; clear hK K) | (apply Exists.intro; refine ⟨fun _ _ => ?_, hK _ ?_⟩; (go_at_call 26; exact extOf (HG.out _)); clear hK K)))); refine wpQuiet_nil ?_; intro E d)
    go_wp2
    go_ret2
    exact ⟨by rw [HV.out]; rfl, (by repeat (first | exact Below.refl _ _ | refine Below.drew ?_ | refine below_drewN ?_ _ | refine Below.alloc ?_ (by first | exact Nat.le_refl _ | (simp; done) | (simp; omega) | omega) _ | refine Below.setCell ?_ (by first | exact Nat.le_refl _ | (simp; done) | (simp; omega) | omega) _ | refine bExtW ?_ (by first | exact Nat.le_refl _ | (simp; done) | (simp; omega) | omega) | refine Below.trans ?_ (Below.mono (by assumption) (by first | exact Nat.le_refl _ | (simp; done) | (simp; omega) | omega))))⟩
end Go.Proofs.Ytooilennejakhaa

namespace Go.Proofs.Ytooilennejakhaa
open Go.RowKit
set_option linter.unusedVariables false
set_option linter.unusedSimpArgs false
def rtY (g x y : Int) : Int := if g = 4 then x else x + y
set_option maxRecDepth 100000 in
set_option maxHeartbeats 400000 in
theorem rTurned_any (g x y : Int) (w : World) (b1 : -1152921504606846976 ≤ x ∧ x ≤ 1152921504606846976) (b2 : -1152921504606846976 ≤ y ∧ y ≤ 1152921504606846976) :
    Calls Try.prog 64 #[.int .i64 (g), .agg #[.int .i64 (x), .int .i64 (y)]] w fun e w' => e = .returned (.agg #[.int .i64 (-y), .int .i64 (rtY g x y)]) ∧ Below w.heap.size w w' := by
  rcases Decidable.em (g = 4) with h6 | h6
  · have HE := Lib.hid (show rtY g x y = x by rw [rtY, if_pos h6])
    subst h6
    go_enter Try.func64, Try.ntmps64
    go_wp2
    refine bodyPost_ret (v := .agg #[.int .i64 (-y), .int .i64 (x)]) (by simp [results, Try.results64, go_sem]) rfl ⟨by rw [HE.out], (by repeat (first | exact Below.refl _ _ | refine Below.drew ?_ | refine below_drewN ?_ _ | refine Below.alloc ?_ (by first | exact Nat.le_refl _ | (simp; done) | (simp; omega) | omega) _ | refine Below.setCell ?_ (by first | exact Nat.le_refl _ | (simp; done) | (simp; omega) | omega) _ | refine bExtW ?_ (by first | exact Nat.le_refl _ | (simp; done) | (simp; omega) | omega) | refine Below.trans ?_ (Below.mono (by assumption) (by first | exact Nat.le_refl _ | (simp; done) | (simp; omega) | omega))))⟩
  · have e2 : (g == 4) = false := by simpa using h6
    have HE := Lib.hid (show rtY g x y = x + y by rw [rtY, if_neg h6])
    clear h6
    go_enter Try.func64, Try.ntmps64
    go_wp2
    refine bodyPost_ret (v := .agg #[.int .i64 (-y), .int .i64 (x+y)]) (by simp [results, Try.results64, go_sem]) rfl ⟨by rw [HE.out], (by repeat (first | exact Below.refl _ _ | refine Below.drew ?_ | refine below_drewN ?_ _ | refine Below.alloc ?_ (by first | exact Nat.le_refl _ | (simp; done) | (simp; omega) | omega) _ | refine Below.setCell ?_ (by first | exact Nat.le_refl _ | (simp; done) | (simp; omega) | omega) _ | refine bExtW ?_ (by first | exact Nat.le_refl _ | (simp; done) | (simp; omega) | omega) | refine Below.trans ?_ (Below.mono (by assumption) (by first | exact Nat.le_refl _ | (simp; done) | (simp; omega) | omega))))⟩
set_option maxRecDepth 100000 in
set_option maxHeartbeats 400000 in
theorem rMirrored_any (g x y : Int) (w : World) (hg : g = 4 ∨ g = 6) (b1 : -1152921504606846976 ≤ x ∧ x ≤ 1152921504606846976) (b2 : -1152921504606846976 ≤ y ∧ y ≤ 1152921504606846976) :
    Calls Try.prog 63 #[.int .i64 (g), .agg #[.int .i64 (x), .int .i64 (y)]] w fun e w' => e = .returned (.agg #[.int .i64 (miX g x y), .int .i64 (-y)]) ∧ Below w.heap.size w w' := by
  rcases hg with rfl | rfl
  · have HE := Lib.hid (show miX 4 x y = x by simp [miX])
    go_enter Try.func63, Try.ntmps63
    go_wp2
    refine bodyPost_ret (v := .agg #[.int .i64 (x), .int .i64 (-y)]) (by simp [results, Try.results63, go_sem]) rfl ⟨by rw [HE.out], (by repeat (first | exact Below.refl _ _ | refine Below.drew ?_ | refine below_drewN ?_ _ | refine Below.alloc ?_ (by first | exact Nat.le_refl _ | (simp; done) | (simp; omega) | omega) _ | refine Below.setCell ?_ (by first | exact Nat.le_refl _ | (simp; done) | (simp; omega) | omega) _ | refine bExtW ?_ (by first | exact Nat.le_refl _ | (simp; done) | (simp; omega) | omega) | refine Below.trans ?_ (Below.mono (by assumption) (by first | exact Nat.le_refl _ | (simp; done) | (simp; omega) | omega))))⟩
  · have HE := Lib.hid (show miX 6 x y = x + y by simp [miX])
    go_enter Try.func63, Try.ntmps63
    go_wp2
    refine bodyPost_ret (v := .agg #[.int .i64 (x+y), .int .i64 (-y)]) (by simp [results, Try.results63, go_sem]) rfl ⟨by rw [HE.out], (by repeat (first | exact Below.refl _ _ | refine Below.drew ?_ | refine below_drewN ?_ _ | refine Below.alloc ?_ (by first | exact Nat.le_refl _ | (simp; done) | (simp; omega) | omega) _ | refine Below.setCell ?_ (by first | exact Nat.le_refl _ | (simp; done) | (simp; omega) | omega) _ | refine bExtW ?_ (by first | exact Nat.le_refl _ | (simp; done) | (simp; omega) | omega) | refine Below.trans ?_ (Below.mono (by assumption) (by first | exact Nat.le_refl _ | (simp; done) | (simp; omega) | omega))))⟩
set_option maxRecDepth 100000 in
set_option maxHeartbeats 400000 in
theorem rplus_any (x y a b : Int) (w : World) (h1 : (-9223372036854775808 ≤ x+a ∧ x+a ≤ 9223372036854775807)) (h2 : (-9223372036854775808 ≤ y+b ∧ y+b ≤ 9223372036854775807)) :
    Calls Try.prog 65 #[.agg #[.int .i64 (x), .int .i64 (y)], .agg #[.int .i64 (a), .int .i64 (b)]] w fun e w' => e = .returned (.agg #[.int .i64 (x+a), .int .i64 (y+b)]) ∧ Below w.heap.size w w' := by
  go_enter Try.func65, Try.ntmps65
  go_wp2
  refine bodyPost_ret (v := .agg #[.int .i64 (x+a), .int .i64 (y+b)]) (by simp [results, Try.results65, go_sem]) rfl ⟨rfl, (by repeat (first | exact Below.refl _ _ | refine Below.drew ?_ | refine below_drewN ?_ _ | refine Below.alloc ?_ (by first | exact Nat.le_refl _ | (simp; done) | (simp; omega) | omega) _ | refine Below.setCell ?_ (by first | exact Nat.le_refl _ | (simp; done) | (simp; omega) | omega) _ | refine bExtW ?_ (by first | exact Nat.le_refl _ | (simp; done) | (simp; omega) | omega) | refine Below.trans ?_ (Below.mono (by assumption) (by first | exact Nat.le_refl _ | (simp; done) | (simp; omega) | omega))))⟩
end Go.Proofs.Ytooilennejakhaa

namespace Go.Proofs.Ytooilennejakhaa
open Go.RowKit
set_option linter.unusedVariables false
set_option linter.unusedSimpArgs false
theorem near_t (n m : Int) (hm : 0 < m) (h : n < 0) : (n.tmod m < 0 → n / m = n.tdiv m - 1) ∧ (¬ n.tmod m < 0 → n / m = n.tdiv m) := by
  have e1 := Int.mul_tdiv_add_tmod n m
  have e2 := Int.mul_ediv_add_emod n m
  have b1 := Int.emod_nonneg n (show m ≠ 0 by omega)
  have b2 := Int.emod_lt_of_pos n hm
  have b3 : -m < n.tmod m := by have := Int.lt_tmod_of_pos n hm; omega
  have b4 : n.tmod m ≤ 0 := by
    have := Int.tmod_nonneg (a := -n) m (by omega)
    rw [Int.neg_tmod] at this; omega
  generalize n.tdiv m = q at *
  generalize n.tmod m = r at *
  generalize n / m = q' at *
  generalize n % m = r' at *
  have key : m * (q - q') = r' - r := by rw [Int.mul_sub]; omega
  constructor
  · intro hr
    have h1 : m * (q - q') < m * 2 := by omega
    have h2 : m * 0 < m * (q - q') := by omega
    have := Int.lt_of_mul_lt_mul_left h1 (by omega)
    have := Int.lt_of_mul_lt_mul_left h2 (by omega)
    omega
  · intro hr
    have h1 : m * (q - q') < m * 1 := by omega
    have h2 : m * (-1) < m * (q - q') := by omega
    have := Int.lt_of_mul_lt_mul_left h1 (by omega)
    have := Int.lt_of_mul_lt_mul_left h2 (by omega)
    omega
theorem tdiv_le (n m : Int) (hm : 0 < m) (h : n < 0) (hb : -4611686018427387904 ≤ n) : -4611686018427387904 ≤ n.tdiv m ∧ n.tdiv m ≤ 0 := by
  have e1 := Int.mul_tdiv_add_tmod n m
  have h1 : n.tdiv m = -((-n) / m) := by rw [← Int.tdiv_eq_ediv_of_nonneg (by omega), Int.neg_tdiv]; omega
  have h2 := Int.ediv_nonneg (show 0 ≤ -n by omega) (show 0 ≤ m by omega)
  have h3 := Int.ediv_le_self m (show 0 ≤ -n by omega)
  omega
end Go.Proofs.Ytooilennejakhaa
