/- Lemmas and contracts of functions (what each call returns, and that it changes nothing that was there) that the proof of a law of this seat uses; each lemma states its own conditions. -/
import Derived.Test.YticplgjpflaelaaEf5
import Derived.Test.YticplgjpflaelaaTpZ
import Derived.Deep.DeepCutAuto
namespace Go.Proofs.Yticplgjpflaelaa
open Go.RowKit
set_option linter.unusedVariables false
set_option linter.unusedSimpArgs false
/-- Threads that lie in memory. -/
structure SArg (ea : Option Addr) (en ec : Nat) (es : List Int) (pa : Option Addr) (pn pc : Nat) (ps : List Int) (w : World) : Prop where
  e : IsInts w ea en es
  p : IsInts w pa pn ps
theorem SArg.below {ea : Option Addr} {en ec : Nat} {es : List Int} {pa : Option Addr} {pn pc : Nat} {ps : List Int} {w w' : World} (h : SArg ea en ec es pa pn pc ps w) (hb : Below w.heap.size w w') : SArg ea en ec es pa pn pc ps w' := ⟨h.e.below hb, h.p.below hb⟩
/-- What is seen of a cloth. -/
def shL (W : Nat) (es ps : List Int) (bs : List Bool) (k : Nat) : List Int := (List.range k).map fun i => if bs.getD i false then es.getD (i % W) 0 else ps.getD (i / W) 0
theorem shL_succ (W : Nat) (es ps : List Int) (bs : List Bool) (k : Nat) : shL W es ps bs (k + 1) = shL W es ps bs k ++ [if bs.getD k false then es.getD (k % W) 0 else ps.getD (k / W) 0] := by
  unfold shL
  rw [List.range_succ, List.map_append]; rfl
theorem shL_len (W : Nat) (es ps : List Int) (bs : List Bool) (k : Nat) : (shL W es ps bs k).length = k := by simp [shL]
/-- The cells of a chart. -/
def chG (G W H : Int) (v : Value) : Nat → Value := fun j => if j = 0 then .int .i64 G else if j = 1 then .int .i64 W else if j = 2 then .int .i64 H else v
theorem chG_alloc (w : World) (G W H : Int) (v : Value) : (w.alloc (.cells #[.int .i64 G, .int .i64 W, .int .i64 H, v] 50)).rowIs w.heap.size 50 4 (chG G W H v) :=
  World.rowIs_alloc w #[.int .i64 G, .int .i64 W, .int .i64 H, v] 50 _ (by
    intro i hi
    have hi4 : i = 0 ∨ i = 1 ∨ i = 2 ∨ i = 3 := by simp at hi; omega
    rcases hi4 with rfl | rfl | rfl | rfl <;> rfl)
def sF (a b : Value) : Nat → Value := fun j => if j = 0 then a else b
theorem sF_alloc (w : World) (a b : Value) : (w.alloc (.cells #[a, b] 48)).rowIs w.heap.size 48 2 (sF a b) :=
  World.rowIs_alloc w #[a, b] 48 _ (by
    intro i hi
    have hi2 : i = 0 ∨ i = 1 := by simp at hi; omega
    rcases hi2 with rfl | rfl <;> rfl)
structure CB (G W H : Int) (mb base : Nat) (W3 : World) (n : Nat) (p : List Int) (v : Value) (w : World) : Prop where
  row : w.rowIs mb 50 4 (chG G W H v)
  own : w.ownsRow base 3 1 v n (p.map i64v)
  bel : BelowX base mb W3 w
theorem CB.app {G W H : Int} {mb base n : Nat} {W3 w w2 : World} {p : List Int} {v v' : Value} {x : Int} (h : CB G W H mb base W3 n p v w) (hp : mb < base) (hown : w2.ownsRow base 3 1 v' (n + 1) (p.map i64v ++ [i64v x])) (hb : Below base w w2) :
    CB G W H mb base W3 (n + 1) (p ++ [x]) v' (w2.setCell ⟨mb, 3, none⟩ v') := by
  refine ⟨?_, ?_, ?_⟩
  · refine ((rowBelow h.row hb hp).set 3 _).congr fun i hi => ?_
    have hi4 : i = 0 ∨ i = 1 ∨ i = 2 ∨ i = 3 := by omega
    rcases hi4 with rfl | rfl | rfl | rfl <;> rfl
  · rw [List.map_append]
    exact ownsRow_setCell_below hown (a := ⟨mb, 3, none⟩) hp _
  · exact (h.bel.trans (BelowX.of_below h.bel.size hb)).set 3 _
/-- A chart and an error. -/
def ChPost (G W H : Int) (n : Nat) (L : List Int) (e : Int) (w : World) (r : Ending) (w' : World) : Prop := ∃ A C, r = .returned (.tuple #[.agg #[.int .i64 (G), .int .i64 (W), .int .i64 (H), .slice A n C], .int .i64 (e)]) ∧ IsInts w' A n L ∧ (A = none → C = 0) ∧ Below w.heap.size w w'
set_option maxRecDepth 100000 in
set_option maxHeartbeats 8000000 in
theorem eSh_e1 (ea : Option Addr) (en ec : Nat) (es : List Int) (pa : Option Addr) (pn pc : Nat) (ps : List Int) (W H : Int) (a : Option Addr) (n c : Nat) (w : World) (hS : SArg ea en ec es pa pn pc ps w) (he : en ≤ 9223372036854775807) (hp : pn ≤ 9223372036854775807) (z1 : ea = none → ec = 0) (z2 : pa = none → pc = 0) (hne : stE en pn es ps ≠ 0) :
    Calls Try.prog 30 #[.agg #[.slice ea en ec, .slice pa pn pc], .agg #[.int .i64 (W), .int .i64 (H), .slice a n c]] w (ChPost 0 0 0 0 [] (stE en pn es ps) w) := by
  have hb : (stE en pn es ps != 0) = true := by simpa using hne
  have HW := Lib.hid (fun w (h : SArg ea en ec es pa pn pc ps w) => ewrong_any ea en ec es pa pn pc ps w h.e h.p he hp z1 z2)
  have HS := Lib.hid hS
  clear hne hS
  generalize stE en pn es ps = q at *
  go_enter Try.func30, Try.ntmps30
  (go_wp2_with fail; refine (HW.out _ (HS.out.below (by repeat (first | exact Below.refl _ _ | refine Below.drew ?_ | refine below_drewN ?_ _ | refine Below.alloc ?_ (by first | exact Nat.le_refl _ | (simp; done) | (simp; omega) | omega) _ | refine Below.setCell ?_ (by first | exact Nat.le_refl _ | (simp; done) | (simp; omega) | omega) _ | refine bExtW ?_ (by first | exact Nat.le_refl _ | (simp; done) | (simp; omega) | omega) | refine Below.trans ?_ (Below.mono (by assumption) (by first | exact Nat.le_refl _ | (simp; done) | (simp; omega) | omega)))))).mono ?_; rintro r w1 ⟨rfl, hb⟩; obtain ⟨E, d, rfl⟩ := bExt hb; clear hb)
  go_wp2
  refine bodyPost_ret (v := .tuple #[.agg #[.int .i64 (0), .int .i64 (0), .int .i64 (0), .slice none 0 0], .int .i64 (q)]) (by simp [results, Try.results30, go_sem]) rfl ?_
  exact ⟨none, 0, rfl, ⟨rfl, fun h => by omega⟩, fun _ => rfl, (by repeat (first | exact Below.refl _ _ | refine Below.drew ?_ | refine below_drewN ?_ _ | refine Below.alloc ?_ (by first | exact Nat.le_refl _ | (simp; done) | (simp; omega) | omega) _ | refine Below.setCell ?_ (by first | exact Nat.le_refl _ | (simp; done) | (simp; omega) | omega) _ | refine bExtW ?_ (by first | exact Nat.le_refl _ | (simp; done) | (simp; omega) | omega) | refine Below.trans ?_ (Below.mono (by assumption) (by first | exact Nat.le_refl _ | (simp; done) | (simp; omega) | omega))))⟩
set_option maxRecDepth 100000 in
set_option maxHeartbeats 8000000 in
theorem eSh_e2 (ea : Option Addr) (en ec : Nat) (es : List Int) (pa : Option Addr) (pn pc : Nat) (ps : List Int) (W H : Int) (a : Option Addr) (n c : Nat) (w : World) (hS : SArg ea en ec es pa pn pc ps w) (he : en ≤ 9223372036854775807) (hp : pn ≤ 9223372036854775807) (z1 : ea = none → ec = 0) (z2 : pa = none → pc = 0) (h0 : stE en pn es ps = 0) (h1 : (-9223372036854775808 ≤ W ∧ W ≤ 9223372036854775807)) (h2 : (-9223372036854775808 ≤ H ∧ H ≤ 9223372036854775807)) (h3 : n ≤ 9223372036854775807) (hne : wrT W H n ≠ 0) :
    Calls Try.prog 30 #[.agg #[.slice ea en ec, .slice pa pn pc], .agg #[.int .i64 (W), .int .i64 (H), .slice a n c]] w (ChPost 0 0 0 0 [] (wrT W H n) w) := by
  have hb : (wrT W H n != 0) = true := by simpa using hne
  have HW := Lib.hid (fun w (h : SArg ea en ec es pa pn pc ps w) => ewrong_any ea en ec es pa pn pc ps w h.e h.p he hp z1 z2)
  have HT := Lib.hid (fun w => tWrong_any W H a n c w h1 h2 h3)
  rw [h0] at HW
  have HS := Lib.hid hS
  clear hne hS h0
  generalize wrT W H n = q at *
  go_enter Try.func30, Try.ntmps30
  (go_wp2_with fail; refine (HW.out _ (HS.out.below (by repeat (first | exact Below.refl _ _ | refine Below.drew ?_ | refine below_drewN ?_ _ | refine Below.alloc ?_ (by first | exact Nat.le_refl _ | (simp; done) | (simp; omega) | omega) _ | refine Below.setCell ?_ (by first | exact Nat.le_refl _ | (simp; done) | (simp; omega) | omega) _ | refine bExtW ?_ (by first | exact Nat.le_refl _ | (simp; done) | (simp; omega) | omega) | refine Below.trans ?_ (Below.mono (by assumption) (by first | exact Nat.le_refl _ | (simp; done) | (simp; omega) | omega)))))).mono ?_; rintro r w1 ⟨rfl, hb⟩; obtain ⟨E, d, rfl⟩ := bExt hb; clear hb)
  (go_wp2_with fail; refine (HT.out _).mono ?_; rintro r w1 ⟨rfl, hb⟩; obtain ⟨E, d, rfl⟩ := bExt hb; clear hb)
  go_wp2
  refine bodyPost_ret (v := .tuple #[.agg #[.int .i64 (0), .int .i64 (0), .int .i64 (0), .slice none 0 0], .int .i64 (q)]) (by simp [results, Try.results30, go_sem]) rfl ?_
  exact ⟨none, 0, rfl, ⟨rfl, fun h => by omega⟩, fun _ => rfl, (by repeat (first | exact Below.refl _ _ | refine Below.drew ?_ | refine below_drewN ?_ _ | refine Below.alloc ?_ (by first | exact Nat.le_refl _ | (simp; done) | (simp; omega) | omega) _ | refine Below.setCell ?_ (by first | exact Nat.le_refl _ | (simp; done) | (simp; omega) | omega) _ | refine bExtW ?_ (by first | exact Nat.le_refl _ | (simp; done) | (simp; omega) | omega) | refine Below.trans ?_ (Below.mono (by assumption) (by first | exact Nat.le_refl _ | (simp; done) | (simp; omega) | omega))))⟩
set_option maxRecDepth 100000 in
set_option maxHeartbeats 8000000 in
theorem eSh_e3 (ea : Option Addr) (en ec : Nat) (es : List Int) (pa : Option Addr) (pn pc : Nat) (ps : List Int) (W H : Nat) (a : Option Addr) (n c : Nat) (w : World) (hS : SArg ea en ec es pa pn pc ps w) (he : en ≤ 9223372036854775807) (hp : pn ≤ 9223372036854775807) (z1 : ea = none → ec = 0) (z2 : pa = none → pc = 0) (h0 : stE en pn es ps = 0) (h1 : W ≤ 64) (h2 : H ≤ 64) (hn : n = W * H) (hne : W ≠ en ∨ H ≠ pn) :
    Calls Try.prog 30 #[.agg #[.slice ea en ec, .slice pa pn pc], .agg #[.int .i64 (W), .int .i64 (H), .slice a n c]] w (ChPost 0 0 0 0 [] 8 w) := by
  have hn4 : n ≤ 4096 := by rw [hn]; exact mul64n h1 h2
  have HW := Lib.hid (fun w (h : SArg ea en ec es pa pn pc ps w) => ewrong_any ea en ec es pa pn pc ps w h.e h.p he hp z1 z2)
  have HT := Lib.hid (fun w => tWrong_any W H a n c w (by omega) (by omega) (by omega))
  rw [hn, wrT_ok h1 h2] at HT
  rw [← hn] at HT
  rw [h0] at HW
  have HS := Lib.hid hS
  by_cases hw : W = en
  · have b1 : ((W : Int) != (en : Int)) = false := by simp; omega
    have b2 : (W != en) = false := by simp; omega
    have b3 : ((H : Int) != (pn : Int)) = true := by simp; omega
    have b4 : (H != pn) = true := by simp; omega
    clear hne hS h0 hn hw
    go_enter Try.func30, Try.ntmps30
    (go_wp2_with fail; refine (HW.out _ (HS.out.below (by repeat (first | exact Below.refl _ _ | refine Below.drew ?_ | refine below_drewN ?_ _ | refine Below.alloc ?_ (by first | exact Nat.le_refl _ | (simp; done) | (simp; omega) | omega) _ | refine Below.setCell ?_ (by first | exact Nat.le_refl _ | (simp; done) | (simp; omega) | omega) _ | refine bExtW ?_ (by first | exact Nat.le_refl _ | (simp; done) | (simp; omega) | omega) | refine Below.trans ?_ (Below.mono (by assumption) (by first | exact Nat.le_refl _ | (simp; done) | (simp; omega) | omega)))))).mono ?_; rintro r w1 ⟨rfl, hb⟩; obtain ⟨E, d, rfl⟩ := bExt hb; clear hb)
    (go_wp2_with fail; refine (HT.out _).mono ?_; rintro r w1 ⟨rfl, hb⟩; obtain ⟨E, d, rfl⟩ := bExt hb; clear hb)
    go_wp2
    refine bodyPost_ret (v := .tuple #[.agg #[.int .i64 (0), .int .i64 (0), .int .i64 (0), .slice none 0 0], .int .i64 (8)]) (by simp [results, Try.results30, go_sem]) rfl ?_
    exact ⟨none, 0, rfl, ⟨rfl, fun h => by omega⟩, fun _ => rfl, (by repeat (first | exact Below.refl _ _ | refine Below.drew ?_ | refine below_drewN ?_ _ | refine Below.alloc ?_ (by first | exact Nat.le_refl _ | (simp; done) | (simp; omega) | omega) _ | refine Below.setCell ?_ (by first | exact Nat.le_refl _ | (simp; done) | (simp; omega) | omega) _ | refine bExtW ?_ (by first | exact Nat.le_refl _ | (simp; done) | (simp; omega) | omega) | refine Below.trans ?_ (Below.mono (by assumption) (by first | exact Nat.le_refl _ | (simp; done) | (simp; omega) | omega))))⟩
  · have b1 : ((W : Int) != (en : Int)) = true := by simp; omega
    have b2 : (W != en) = true := by simp; omega
    clear hne hS h0 hn hw
    go_enter Try.func30, Try.ntmps30
    (go_wp2_with fail; refine (HW.out _ (HS.out.below (by repeat (first | exact Below.refl _ _ | refine Below.drew ?_ | refine below_drewN ?_ _ | refine Below.alloc ?_ (by first | exact Nat.le_refl _ | (simp; done) | (simp; omega) | omega) _ | refine Below.setCell ?_ (by first | exact Nat.le_refl _ | (simp; done) | (simp; omega) | omega) _ | refine bExtW ?_ (by first | exact Nat.le_refl _ | (simp; done) | (simp; omega) | omega) | refine Below.trans ?_ (Below.mono (by assumption) (by first | exact Nat.le_refl _ | (simp; done) | (simp; omega) | omega)))))).mono ?_; rintro r w1 ⟨rfl, hb⟩; obtain ⟨E, d, rfl⟩ := bExt hb; clear hb)
    (go_wp2_with fail; refine (HT.out _).mono ?_; rintro r w1 ⟨rfl, hb⟩; obtain ⟨E, d, rfl⟩ := bExt hb; clear hb)
    go_wp2
    refine bodyPost_ret (v := .tuple #[.agg #[.int .i64 (0), .int .i64 (0), .int .i64 (0), .slice none 0 0], .int .i64 (8)]) (by simp [results, Try.results30, go_sem]) rfl ?_
    exact ⟨none, 0, rfl, ⟨rfl, fun h => by omega⟩, fun _ => rfl, (by repeat (first | exact Below.refl _ _ | refine Below.drew ?_ | refine below_drewN ?_ _ | refine Below.alloc ?_ (by first | exact Nat.le_refl _ | (simp; done) | (simp; omega) | omega) _ | refine Below.setCell ?_ (by first | exact Nat.le_refl _ | (simp; done) | (simp; omega) | omega) _ | refine bExtW ?_ (by first | exact Nat.le_refl _ | (simp; done) | (simp; omega) | omega) | refine Below.trans ?_ (Below.mono (by assumption) (by first | exact Nat.le_refl _ | (simp; done) | (simp; omega) | omega))))⟩
set_option maxRecDepth 100000 in
set_option maxHeartbeats 8000000 in
theorem eSh_ok (W H : Nat) (ea : Option Addr) (ec : Nat) (es : List Int) (pa : Option Addr) (pc : Nat) (ps : List Int) (a : Option Addr) (n c : Nat) (bs : List Bool) (w : World) (hS : SArg ea W ec es pa H pc ps w) (z1 : ea = none → ec = 0) (z2 : pa = none → pc = 0) (h0 : stE W H es ps = 0) (hT : OkT w a n c bs) (h1 : W ≤ 64) (h2 : H ≤ 64) (hn : n = W * H) :
    Calls Try.prog 30 #[.agg #[.slice ea W ec, .slice pa H pc], .agg #[.int .i64 (W), .int .i64 (H), .slice a n c]] w (ChPost 4 W H n (shL W es ps bs n) 0 w) := by
  have hn4 : n ≤ 4096 := by rw [hn]; exact mul64n h1 h2
  have hW1 := (stE_zero h0).1
  have HW := Lib.hid (fun w (h : SArg ea W ec es pa H pc ps w) => ewrong_any ea W ec es pa H pc ps w h.e h.p (by omega) (by omega) z1 z2)
  have HT := Lib.hid (fun w => tWrong_any W H a n c w (by omega) (by omega) (by omega))
  rw [hn, wrT_ok h1 h2] at HT
  rw [← hn] at HT
  rw [h0] at HW
  have HS := Lib.hid hS; have HB := Lib.hid hT; have HN := Lib.hid hn
  clear hS h0 hn hT
  go_enter Try.func30, Try.ntmps30
  go_wp2_with fail
  refine (HW.out _ (HS.out.below (by repeat (first | exact Below.refl _ _ | refine Below.drew ?_ | refine below_drewN ?_ _ | refine Below.alloc ?_ (by first | exact Nat.le_refl _ | (simp; done) | (simp; omega) | omega) _ | refine Below.setCell ?_ (by first | exact Nat.le_refl _ | (simp; done) | (simp; omega) | omega) _ | refine bExtW ?_ (by first | exact Nat.le_refl _ | (simp; done) | (simp; omega) | omega) | refine Below.trans ?_ (Below.mono (by assumption) (by first | exact Nat.le_refl _ | (simp; done) | (simp; omega) | omega)))))).mono ?_
  rintro r w1 ⟨rfl, hb⟩
  obtain ⟨E1, d1, rfl⟩ := bExt hb
  clear hb
  go_wp2_with fail
  refine (HT.out _).mono ?_
  rintro r w1 ⟨rfl, hb⟩
  obtain ⟨E2, d2, rfl⟩ := bExt hb
  clear hb
  go_upto_region 9 with fail
  have hS1 := ((sF_alloc w (.slice ea W ec) (.slice pa H pc)).alloc (.cells #[.int .i64 (W), .int .i64 (H), .slice a n c] 24)).alloc (.cells #[.int .i64 (0), .int .i64 (0), .int .i64 (0), .slice none 0 0] 50)
  have hM1 := (tF_alloc (w.alloc (.cells #[.slice ea W ec, .slice pa H pc] 48)) W H (.slice a n c) rfl).alloc (.cells #[.int .i64 (0), .int .i64 (0), .int .i64 (0), .slice none 0 0] 50)
  have hR1 := chG_alloc ((w.alloc (.cells #[.slice ea W ec, .slice pa H pc] 48)).alloc (.cells #[.int .i64 (W), .int .i64 (H), .slice a n c] 24)) 0 0 0 (.slice none 0 0)
  rw [World.size_alloc] at hM1
  rw [World.size_alloc, World.size_alloc] at hR1
  have hbb : Below (w.heap.size + 3) (((w.alloc (.cells #[.slice ea W ec, .slice pa H pc] 48)).alloc (.cells #[.int .i64 (W), .int .i64 (H), .slice a n c] 24)).alloc (.cells #[.int .i64 (0), .int .i64 (0), .int .i64 (0), .slice none 0 0] 50)) (extW (extW (((w.alloc (.cells #[.slice ea W ec, .slice pa H pc] 48)).alloc (.cells #[.int .i64 (W), .int .i64 (H), .slice a n c] 24)).alloc (.cells #[.int .i64 (0), .int .i64 (0), .int .i64 (0), .slice none 0 0] 50)) E1 d1) E2 d2) := (by repeat (first | exact Below.refl _ _ | refine Below.drew ?_ | refine below_drewN ?_ _ | refine Below.alloc ?_ (by first | exact Nat.le_refl _ | (simp; done) | (simp; omega) | omega) _ | refine Below.setCell ?_ (by first | exact Nat.le_refl _ | (simp; done) | (simp; omega) | omega) _ | refine bExtW ?_ (by first | exact Nat.le_refl _ | (simp; done) | (simp; omega) | omega) | refine Below.trans ?_ (Below.mono (by assumption) (by first | exact Nat.le_refl _ | (simp; done) | (simp; omega) | omega))))
  have hb0 : Below w.heap.size w (extW (extW (((w.alloc (.cells #[.slice ea W ec, .slice pa H pc] 48)).alloc (.cells #[.int .i64 (W), .int .i64 (H), .slice a n c] 24)).alloc (.cells #[.int .i64 (0), .int .i64 (0), .int .i64 (0), .slice none 0 0] 50)) E1 d1) E2 d2) := (by repeat (first | exact Below.refl _ _ | refine Below.drew ?_ | refine below_drewN ?_ _ | refine Below.alloc ?_ (by first | exact Nat.le_refl _ | (simp; done) | (simp; omega) | omega) _ | refine Below.setCell ?_ (by first | exact Nat.le_refl _ | (simp; done) | (simp; omega) | omega) _ | refine bExtW ?_ (by first | exact Nat.le_refl _ | (simp; done) | (simp; omega) | omega) | refine Below.trans ?_ (Below.mono (by assumption) (by first | exact Nat.le_refl _ | (simp; done) | (simp; omega) | omega))))
  have hS2 := rowBelow hS1 hbb (by omega)
  have hM2 := rowBelow hM1 hbb (by omega)
  have hR2 := rowBelow hR1 hbb (by omega)
  have hszb : w.heap.size + 3 ≤ (extW (extW (((w.alloc (.cells #[.slice ea W ec, .slice pa H pc] 48)).alloc (.cells #[.int .i64 (W), .int .i64 (H), .slice a n c] 24)).alloc (.cells #[.int .i64 (0), .int .i64 (0), .int .i64 (0), .slice none 0 0] 50)) E1 d1) E2 d2).heap.size := by simp; omega
  clear hS1 hM1 hR1 hbb
  generalize extW (extW (((w.alloc (.cells #[.slice ea W ec, .slice pa H pc] 48)).alloc (.cells #[.int .i64 (W), .int .i64 (H), .slice a n c] 24)).alloc (.cells #[.int .i64 (0), .int .i64 (0), .int .i64 (0), .slice none 0 0] 50)) E1 d1) E2 d2 = wb at *
  obtain ⟨q, hq⟩ : ∃ q, w.heap.size = q := ⟨_, rfl⟩
  have HQ := Lib.hid hq
  rw [hq] at hS2 hM2 hR2 hszb ⊢
  have m0 : wb.cell? ⟨q + 1, 0, none⟩ = some (.int .i64 (W)) := hM2.cell (i := 0) (by omega)
  have m1 : wb.cell? ⟨q + 1, 1, none⟩ = some (.int .i64 (H)) := hM2.cell (i := 1) (by omega)
  have m2 : wb.cell? ⟨q + 1, 2, none⟩ = some (.slice a n c) := hM2.cell (i := 2) (by omega)
  have lm : LtW (q + 1) wb := hM2.lt
  go_wp2_with fail
  have hC3 := chG_alloc wb 4 W H (.slice none 0 0)
  have hS3 := hS2.alloc (.cells #[.int .i64 (4), .int .i64 (W), .int .i64 (H), .slice none 0 0] 50)
  have hM3 := hM2.alloc (.cells #[.int .i64 (4), .int .i64 (W), .int .i64 (H), .slice none 0 0] 50)
  have hR3 := hR2.alloc (.cells #[.int .i64 (4), .int .i64 (W), .int .i64 (H), .slice none 0 0] 50)
  have hb3 : Below w.heap.size w (wb.alloc (.cells #[.int .i64 (4), .int .i64 (W), .int .i64 (H), .slice none 0 0] 50)) := hb0.alloc hb0.size _
  have hsz3 : (wb.alloc (.cells #[.int .i64 (4), .int .i64 (W), .int .i64 (H), .slice none 0 0] 50)).heap.size = wb.heap.size + 1 := by simp
  generalize wb.alloc (.cells #[.int .i64 (4), .int .i64 (W), .int .i64 (H), .slice none 0 0] 50) = W3 at *
  obtain ⟨mb, hmb⟩ : ∃ mb, wb.heap.size = mb := ⟨_, rfl⟩
  rw [hmb] at hC3 hsz3 hszb ⊢
  obtain ⟨base, hbase⟩ : ∃ b, b = W3.heap.size := ⟨_, rfl⟩
  have hmbb : mb < base := by omega
  have HBS := Lib.hid hbase
  have HS3 := Lib.hid hS3; have HM3 := Lib.hid hM3; have HR3 := Lib.hid hR3; have HC3 := Lib.hid hC3
  have HB3 : Hid (Below q w W3) := Lib.hid (by rw [← hq]; exact hb3)
  clear hS2 hM2 hR2 hC3 hS3 hM3 hR3 hb0 hb3 hsz3 hmb hbase m0 m1 m2 lm hq
  go_loopw [47] (fun iv wr => ∃ (k : Nat) (v : Value), k ≤ n ∧ iv = .int .i64 k ∧ CB 4 W H mb base W3 k (shL W es ps bs k) v wr) (fun iv _ => n - (intOf iv).toNat)
  case atStart => exact ⟨0, _, by omega, rfl, ⟨HC3.out, World.ownsRow_nil _ _ _ _, BelowX.refl (by have := HBS.out; omega)⟩⟩
  case round =>
    obtain ⟨k, v, hk, rfl, hcb⟩ := hrel
    have hbx := hcb.bel
    have HBW : Hid (Below q w wr) := Lib.hid (HB3.out.trans (hbx.below HBS.out.symm (by omega) hmbb))
    have rs := hbx.rowIs HS3.out (by omega) (by omega)
    have rm := hbx.rowIs HM3.out (by omega) (by omega)
    have HRR := Lib.hid (hbx.rowIs HR3.out (by omega) (by omega))
    have s0 : wr.cell? ⟨q, 0, none⟩ = some (.slice ea W ec) := rs.cell (i := 0) (by omega)
    have s1 : wr.cell? ⟨q, 1, none⟩ = some (.slice pa H pc) := rs.cell (i := 1) (by omega)
    have m0 : wr.cell? ⟨q + 1, 0, none⟩ = some (.int .i64 (W)) := rm.cell (i := 0) (by omega)
    have ls : LtW q wr := rs.lt
    have lm : LtW (q + 1) wr := rm.lt
    have HCB := Lib.hid hcb
    have c3 : wr.cell? ⟨mb, 3, none⟩ = some v := hcb.row.cell (i := 3) (by omega)
    have f3 := hcb.row.frozen 3
    have lc : LtW mb wr := hcb.row.lt
    have hsb := hbx.size
    clear rs rm hcb hbx
    by_cases hkn : k < n
    · have HBB := HB.out.bits.below (by rw [HQ.out]; exact HBW.out : Below w.heap.size w wr)
      obtain ⟨bb, bo, rfl, hbl, hbc⟩ := HBB.2 (by omega)
      have b0 := hbc k hkn
      have lb : LtW bb wr := hbl
      obtain ⟨qk, hqk⟩ : ∃ qk, k / W = qk := ⟨_, rfl⟩
      obtain ⟨rk, hrk⟩ : ∃ rk, k % W = rk := ⟨_, rfl⟩
      have hqH : qk < H := by rw [← hqk]; exact Nat.div_lt_of_lt_mul (by rw [← HN.out]; exact hkn)
      have hrW : rk < W := by rw [← hrk]; exact Nat.mod_lt _ (by omega)
      have e1 : (k : Int) / (W : Int) = (qk : Int) := by rw [← hqk]; exact (Int.natCast_ediv k W).symm
      have e2 : (k : Int) % (W : Int) = (rk : Int) := by rw [← hrk]; exact (Int.natCast_emod k W).symm
      have e3 : (k : Int).tdiv (W : Int) = (qk : Int) := by rw [Int.tdiv_eq_ediv_of_nonneg (by omega), e1]
      have e4 : (k : Int).tmod (W : Int) = (rk : Int) := by rw [Int.tmod_eq_emod_of_nonneg (by omega), e2]
      have e5 : IntKind.i64.wrap (qk : Int) = (qk : Int) := IntWalk.i64_in _ (by omega)
      have e6 : IntKind.i64.wrap (rk : Int) = (rk : Int) := IntWalk.i64_in _ (by omega)
      have e7 : ((W : Int) == 0) = false := by simp; omega
      have e8 : (W : Int) ≠ 0 := by omega
      have e9 : ¬ W = 0 := by omega
      have hSA := HS.out.below (by rw [HQ.out]; exact HBW.out : Below w.heap.size w wr)
      obtain ⟨p1, o1, rfl, hp1, hpc1⟩ := hSA.e.2 (by omega)
      obtain ⟨p2, o2, rfl, hp2, hpc2⟩ := hSA.p.2 (by omega)
      have x1 := hpc1 rk hrW
      have x2 := hpc2 qk hqH
      have lp1 : LtW p1 wr := hp1
      have lp2 : LtW p2 wr := hp2
      have HSL := Lib.hid (shL_succ W es ps bs k)
      rw [hqk, hrk] at HSL
      obtain ⟨bit, hbit⟩ : ∃ bit, bs.getD k false = bit := ⟨_, rfl⟩
      rw [hbit] at b0 HSL
      obtain ⟨ex, hex⟩ : ∃ ex, es.getD rk 0 = ex := ⟨_, rfl⟩
      rw [hex] at x1 HSL
      obtain ⟨px, hpx⟩ : ∃ px, ps.getD qk 0 = px := ⟨_, rfl⟩
      rw [hpx] at x2 HSL
      clear hbc hbl hpc1 hpc2 hp1 hp2 hqk hrk hbit hex hpx hSA HBB
      cases bit with
      | false =>
        go_wp2_with fail
        (refine wp_region_ext (by kernel_rfl) (by kernel_rfl) ?_; (repeat (first | ((with_reducible refine ext_step (fun K hK => ?_)); go_simp; first | (refine hK _ ?_; clear hK K) | (apply Exists.intro; refine ⟨fun _ _ => ?_, hK _ ?_⟩; fail; clear hK K)))); refine wpQuiet_nil ?_; intro E d)
        go_upto_region 16 with fail
        have hbx5 : Below wr.heap.size wr (extW wr E d) := (by repeat (first | exact Below.refl _ _ | refine Below.drew ?_ | refine below_drewN ?_ _ | refine Below.alloc ?_ (by first | exact Nat.le_refl _ | (simp; done) | (simp; omega) | omega) _ | refine Below.setCell ?_ (by first | exact Nat.le_refl _ | (simp; done) | (simp; omega) | omega) _ | refine bExtW ?_ (by first | exact Nat.le_refl _ | (simp; done) | (simp; omega) | omega) | refine Below.trans ?_ (Below.mono (by assumption) (by first | exact Nat.le_refl _ | (simp; done) | (simp; omega) | omega))))
        have c3' := bCs hbx5 c3
        have f3' := (hbx5.frozen (p := ⟨mb, 3, none⟩) lc).trans f3
        have lc' : LtW mb (extW wr E d) := Nat.lt_of_lt_of_le lc hbx5.size
        have HC5 : Hid (CB 4 W H mb base W3 k (shL W es ps bs k) v (extW wr E d)) := Lib.hid ⟨rowBelow HCB.out.row hbx5 HCB.out.row.lt, ownBelow HCB.out.own hbx5, HCB.out.bel.trans (BelowX.of_below HCB.out.bel.size (hbx5.mono HCB.out.bel.size))⟩
        clear hbx5 c3 f3 lc HCB s0 s1 m0 ls lm b0 lb x1 x2 lp1 lp2 e1 e2 e3 e4 e5 e6 e7 e8 e9
        generalize extW wr E d = wx at *
        have hsx := HC5.out.bel.size
        have HCE : Hid ((wx.alloc (.cells #[.int .i64 (px)] 3)).cell? ⟨wx.heap.size, 0, none⟩ = some (.int .i64 (px))) := Lib.hid (by rw [World.cell?_alloc_new]; rfl)
        have HOA := Lib.hid (ownBelow HC5.out.own ((Below.refl _ _).alloc (Nat.le_refl _) (.cells #[.int .i64 (px)] 3)))
        have hsa : base ≤ (wx.alloc (.cells #[.int .i64 (px)] 3)).heap.size := by simp; omega
        go_wp2_with (at_builtin; refine wpAppK okI8 rfl (.tmp 70) (.tmp 72) rfl base v k ((shL W es ps bs k).map i64v) (.int .i64 (px)) wx.heap.size rfl HOA.out rfl HCE.out rfl (by omega) (by omega) hsa ?_)
        intro v' w2 hown2 hg2 hat2
        have hb2 : Below base wx w2 := Below.trans ((Below.refl base wx).alloc hsx _) (belowGrown hg2 hsa (fun k hk => (HOA.out.lt k hk).1))
        have c4' : w2.cell? ⟨mb, 3, none⟩ = some v := (hb2.cell (p := ⟨mb, 3, none⟩) hmbb).trans c3'
        have f4' : w2.frozen? ⟨mb, 3, none⟩ = false := (hb2.frozen (p := ⟨mb, 3, none⟩) hmbb).trans f3'
        obtain ⟨A', cp', rfl⟩ := own_form hown2
        have HNB := Lib.hid (HC5.out.app (x := px) hmbb hown2 hb2)
        clear hown2 hg2 hat2 hb2 c3' f3'
        go_wp2
        go_roundw
        case rel => exact ⟨k + 1, _, by omega, by go_num, by rw [HSL.out]; exact HNB.out⟩
        case measure => simp [intOf]; omega
      | true =>
        go_wp2_with fail
        (refine wp_region_ext (by kernel_rfl) (by kernel_rfl) ?_; (repeat (first | ((with_reducible refine ext_step (fun K hK => ?_)); go_simp; first | (refine hK _ ?_; clear hK K) | (apply Exists.intro; refine ⟨fun _ _ => ?_, hK _ ?_⟩; fail; clear hK K)))); refine wpQuiet_nil ?_; intro E d)
        go_wp2_with fail
        refine wp_region_ext (by kernel_rfl) (by kernel_rfl) ?_
        (repeat (first | ((with_reducible refine ext_step (fun K hK => ?_)); go_simp; first | (refine hK _ ?_; clear hK K) | (apply Exists.intro; refine ⟨fun _ _ => ?_, hK _ ?_⟩; fail; clear hK K))))
        refine wpQuiet_nil ?_
        intro E5 d5
        rw [extW_extW]
        go_upto_region 16 with fail
        have hbx5 : Below wr.heap.size wr (extW wr (E ++ E5) d5) := (by repeat (first | exact Below.refl _ _ | refine Below.drew ?_ | refine below_drewN ?_ _ | refine Below.alloc ?_ (by first | exact Nat.le_refl _ | (simp; done) | (simp; omega) | omega) _ | refine Below.setCell ?_ (by first | exact Nat.le_refl _ | (simp; done) | (simp; omega) | omega) _ | refine bExtW ?_ (by first | exact Nat.le_refl _ | (simp; done) | (simp; omega) | omega) | refine Below.trans ?_ (Below.mono (by assumption) (by first | exact Nat.le_refl _ | (simp; done) | (simp; omega) | omega))))
        have c3' := bCs hbx5 c3
        have f3' := (hbx5.frozen (p := ⟨mb, 3, none⟩) lc).trans f3
        have lc' : LtW mb (extW wr (E ++ E5) d5) := Nat.lt_of_lt_of_le lc hbx5.size
        have HC5 : Hid (CB 4 W H mb base W3 k (shL W es ps bs k) v (extW wr (E ++ E5) d5)) := Lib.hid ⟨rowBelow HCB.out.row hbx5 HCB.out.row.lt, ownBelow HCB.out.own hbx5, HCB.out.bel.trans (BelowX.of_below HCB.out.bel.size (hbx5.mono HCB.out.bel.size))⟩
        clear hbx5 c3 f3 lc HCB s0 s1 m0 ls lm b0 lb x1 x2 lp1 lp2 e1 e2 e3 e4 e5 e6 e7 e8 e9
        generalize extW wr (E ++ E5) d5 = wx at *
        have hsx := HC5.out.bel.size
        have HCE : Hid ((wx.alloc (.cells #[.int .i64 (ex)] 3)).cell? ⟨wx.heap.size, 0, none⟩ = some (.int .i64 (ex))) := Lib.hid (by rw [World.cell?_alloc_new]; rfl)
        have HOA := Lib.hid (ownBelow HC5.out.own ((Below.refl _ _).alloc (Nat.le_refl _) (.cells #[.int .i64 (ex)] 3)))
        have hsa : base ≤ (wx.alloc (.cells #[.int .i64 (ex)] 3)).heap.size := by simp; omega
        go_wp2_with (at_builtin; refine wpAppK okI8 rfl (.tmp 70) (.tmp 72) rfl base v k ((shL W es ps bs k).map i64v) (.int .i64 (ex)) wx.heap.size rfl HOA.out rfl HCE.out rfl (by omega) (by omega) hsa ?_)
        intro v' w2 hown2 hg2 hat2
        have hb2 : Below base wx w2 := Below.trans ((Below.refl base wx).alloc hsx _) (belowGrown hg2 hsa (fun k hk => (HOA.out.lt k hk).1))
        have c4' : w2.cell? ⟨mb, 3, none⟩ = some v := (hb2.cell (p := ⟨mb, 3, none⟩) hmbb).trans c3'
        have f4' : w2.frozen? ⟨mb, 3, none⟩ = false := (hb2.frozen (p := ⟨mb, 3, none⟩) hmbb).trans f3'
        obtain ⟨A', cp', rfl⟩ := own_form hown2
        have HNB := Lib.hid (HC5.out.app (x := ex) hmbb hown2 hb2)
        clear hown2 hg2 hat2 hb2 c3' f3'
        go_wp2
        go_roundw
        case rel => exact ⟨k + 1, _, by omega, by go_num, by rw [HSL.out]; exact HNB.out⟩
        case measure => simp [intOf]; omega
    · obtain rfl : k = n := by omega
      obtain ⟨a9, c9, e9, h9, z9, g9⟩ := ints_owns (L := shL W es ps bs k) (by rw [shL_len]; exact HCB.out.own)
      rw [shL_len] at e9 h9
      subst e9
      have rm := HCB.out.row
      have n0 : wr.cell? ⟨mb, 0, none⟩ = some (.int .i64 (4)) := rm.cell (i := 0) (by omega)
      have n1 : wr.cell? ⟨mb, 1, none⟩ = some (.int .i64 (W)) := rm.cell (i := 1) (by omega)
      have n2 : wr.cell? ⟨mb, 2, none⟩ = some (.int .i64 (H)) := rm.cell (i := 2) (by omega)
      have r0 : wr.cell? ⟨q + 1 + 1, 0, none⟩ = some (.int .i64 (0)) := HRR.out.cell (i := 0) (by omega)
      have r1 : wr.cell? ⟨q + 1 + 1, 1, none⟩ = some (.int .i64 (0)) := HRR.out.cell (i := 1) (by omega)
      have r2 : wr.cell? ⟨q + 1 + 1, 2, none⟩ = some (.int .i64 (0)) := HRR.out.cell (i := 2) (by omega)
      have r3 : wr.cell? ⟨q + 1 + 1, 3, none⟩ = some (.slice none 0 0) := HRR.out.cell (i := 3) (by omega)
      have g0 := HRR.out.frozen 0; have g1 := HRR.out.frozen 1; have g2 := HRR.out.frozen 2; have g3 := HRR.out.frozen 3
      have lr : LtW (q + 1 + 1) wr := HRR.out.lt
      have H9 := Lib.hid h9; have Z9 := Lib.hid z9; have G9 := Lib.hid g9
      clear h9 z9 g9 rm s0 s1 m0 ls lm f3
      go_wp2
      refine bodyPost_ret (v := .tuple #[.agg #[.int .i64 (4), .int .i64 (W), .int .i64 (H), .slice a9 k c9], .int .i64 (0)]) (by simp [results, Try.results30, go_sem, r0, r1, r2, r3]) rfl ?_
      unfold ChPost
      refine ⟨a9, c9, rfl, ?_, Z9.out, ?_⟩
      · exact ints_set (ints_set (ints_set (ints_set H9.out fun b o e => by have := G9.out b o e; omega) fun b o e => by have := G9.out b o e; omega) fun b o e => by have := G9.out b o e; omega) fun b o e => by have := G9.out b o e; omega
      · rw [HQ.out]
        exact (((HBW.out.setCell (by show q ≤ q + 1 + 1; omega) _).setCell (by show q ≤ q + 1 + 1; omega) _).setCell (by show q ≤ q + 1 + 1; omega) _).setCell (by show q ≤ q + 1 + 1; omega) _
end Go.Proofs.Yticplgjpflaelaa
