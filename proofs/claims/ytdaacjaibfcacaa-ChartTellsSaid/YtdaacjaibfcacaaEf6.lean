/- Lemmas and contracts of functions (what each call returns, and that it changes nothing that was there) that the proof of a law of this seat uses; each lemma states its own conditions. -/
import Derived.Test.YtdaacjaibfcacaaEf5
import Derived.Test.YtdaacjaibfcacaaTpZ
import Derived.Deep.DeepCutAuto
namespace Go.Proofs.Ytdaacjaibfcacaa
open Go.RowKit
set_option linter.unusedVariables false
set_option linter.unusedSimpArgs false
/-- Threads that lie in memory. -/
structure SArg (ea : Option Addr) (en ec : Nat) (es : List Int) (pa : Option Addr) (pn pc : Nat) (ps : List Int) (w : World) : Prop where
  e : IsInts w ea en es
  p : IsInts w pa pn ps
theorem SArg.below {ea : Option Addr} {en ec : Nat} {es : List Int} {pa : Option Addr} {pn pc : Nat} {ps : List Int} {w w' : World} (h : SArg ea en ec es pa pn pc ps w) (hb : Below w.heap.size w w') : SArg ea en ec es pa pn pc ps w' := ⟨h.e.below hb, h.p.below hb⟩
/-- What is seen of a cloth. -/
def shL (W : Nat) (es ps : List Int) (bs : List Bool) (k : Nat) : List Int := (List.range k).map fun i => if bs.getD i false then es.getD (i % W) 0 else ps.getD (i / W) 0
theorem shL_succ (W : Nat) (es ps : List Int) (bs : List Bool) (k : Nat) : shL W es ps bs (k + 1) = shL W es ps bs k ++ [if bs.getD k false then es.getD (k % W) 0 else ps.getD (k / W) 0] := by
  unfold shL
  rw [List.range_succ, List.map_append]; rfl
theorem shL_len (W : Nat) (es ps : List Int) (bs : List Bool) (k : Nat) : (shL W es ps bs k).length = k := by simp [shL]
/-- The cells of a chart. -/
def chG (G W H : Int) (v : Value) : Nat → Value := fun j => if j = 0 then .int .i64 G else if j = 1 then .int .i64 W else if j = 2 then .int .i64 H else v
theorem chG_alloc (w : World) (G W H : Int) (v : Value) : (w.alloc (.cells #[.int .i64 G, .int .i64 W, .int .i64 H, v] 36)).rowIs w.heap.size 36 4 (chG G W H v) :=
  World.rowIs_alloc w #[.int .i64 G, .int .i64 W, .int .i64 H, v] 36 _ (by
    intro i hi
    have hi4 : i = 0 ∨ i = 1 ∨ i = 2 ∨ i = 3 := by simp at hi; omega
    rcases hi4 with rfl | rfl | rfl | rfl <;> rfl)
def sF (a b : Value) : Nat → Value := fun j => if j = 0 then a else b
structure CB (G W H : Int) (mb base : Nat) (W3 : World) (n : Nat) (p : List Int) (v : Value) (w : World) : Prop where
  row : w.rowIs mb 36 4 (chG G W H v)
  own : w.ownsRow base 3 1 v n (p.map i64v)
  bel : BelowX base mb W3 w
theorem CB.app {G W H : Int} {mb base n : Nat} {W3 w w2 : World} {p : List Int} {v v' : Value} {x : Int} (h : CB G W H mb base W3 n p v w) (hp : mb < base) (hown : w2.ownsRow base 3 1 v' (n + 1) (p.map i64v ++ [i64v x])) (hb : Below base w w2) :
    CB G W H mb base W3 (n + 1) (p ++ [x]) v' (w2.setCell ⟨mb, 3, none⟩ v') := by
  refine ⟨?_, ?_, ?_⟩
  · refine ((rowBelow h.row hb hp).set 3 _).congr fun i hi => ?_
    have hi4 : i = 0 ∨ i = 1 ∨ i = 2 ∨ i = 3 := by omega
    rcases hi4 with rfl | rfl | rfl | rfl <;> rfl
  · rw [List.map_append]
    exact ownsRow_setCell_below hown (a := ⟨mb, 3, none⟩) hp _
  · exact (h.bel.trans (BelowX.of_below h.bel.size hb)).set 3 _
/-- A chart and an error. -/
def ChPost (G W H : Int) (n : Nat) (L : List Int) (e : Int) (w : World) (r : Ending) (w' : World) : Prop := ∃ A C, r = .returned (.tuple #[.agg #[.int .i64 (G), .int .i64 (W), .int .i64 (H), .slice A n C], .int .i64 (e)]) ∧ IsInts w' A n L ∧ (A = none → C = 0) ∧ Below w.heap.size w w'
end Go.Proofs.Ytdaacjaibfcacaa
