/- Lemmas and contracts of functions (what each call returns, and that it changes nothing that was there) that the proof of a law of this seat uses; each lemma states its own conditions. -/
import Derived.Test.YticplgjpflaelaaEf6
namespace Go.Proofs.Yticplgjpflaelaa
open Go.RowKit
set_option linter.unusedVariables false
set_option linter.unusedSimpArgs false
/-- How a picture is woven. -/
def clB (W : Nat) (es cs : List Int) (k : Nat) : List Bool := (List.range k).map fun i => decide (es.getD (i % W) 0 = cs.getD i 0)
theorem clB_succ (W : Nat) (es cs : List Int) (k : Nat) : clB W es cs (k + 1) = clB W es cs k ++ [decide (es.getD (k % W) 0 = cs.getD k 0)] := by
  unfold clB
  rw [List.range_succ, List.map_append]; rfl
theorem clB_len (W : Nat) (es cs : List Int) (k : Nat) : (clB W es cs k).length = k := by simp [clB]
def clOk (W : Nat) (es ps cs : List Int) (k : Nat) : Prop := ∀ i, i < k → es.getD (i % W) 0 = cs.getD i 0 ∨ ps.getD (i / W) 0 = cs.getD i 0
theorem FB.appK {base mb : Nat} {W H : Int} {L : List Bool} {W1 w w2 : World} {v v' : Value} {x : Bool} {n : Nat} (h : FB base mb W H L W1 v w) (hl : L.length = n) (hm : mb < base) (hown : w2.ownsRow base 4 1 v' (n + 1) (L.map Value.bool ++ [Value.bool x])) (hb : Below base w w2) : FB base mb W H (L ++ [x]) W1 v' (w2.setCell ⟨mb, 2, none⟩ v') := by
  refine ⟨?_, ?_, ?_⟩
  · refine ((rowBelow h.row hb hm).set 2 _).congr fun i hi => ?_
    have hi3 : i = 0 ∨ i = 1 ∨ i = 2 := by omega
    rcases hi3 with rfl | rfl | rfl <;> rfl
  · rw [List.length_append, List.map_append, hl]
    exact ownsRow_setCell_below hown (a := ⟨mb, 2, none⟩) hm _
  · exact (h.bel.trans (BelowX.of_below h.bel.size hb)).set 2 _
/-- A truth and an error. -/
def TrPost (W H : Int) (n : Nat) (L : List Bool) (e : Int) (w : World) (r : Ending) (w' : World) : Prop := ∃ A C, r = .returned (.tuple #[.agg #[.int .i64 (W), .int .i64 (H), .slice A n C], .int .i64 (e)]) ∧ OkT w' A n C L ∧ Below w.heap.size w w'
def ClPost (W H n : Nat) (es ps cs : List Int) (w : World) (r : Ending) (w' : World) : Prop := (clOk W es ps cs n ∧ TrPost W H n (clB W es cs n) 0 w r w') ∨ (¬ clOk W es ps cs n ∧ TrPost 0 0 0 [] 6 w r w')
theorem okT_none (w : World) : OkT w none 0 0 [] := ⟨⟨rfl, fun h => by omega⟩, Nat.le_refl _, by omega⟩
theorem okT_setK {w : World} {a : Option Addr} {n c q i : Nat} {bs : List Bool} {v : Value} (h : OkT w a n c bs) (hm : ∀ b o, a = some ⟨b, o, none⟩ → b ≠ q) : OkT (w.setCell ⟨q, i, none⟩ v) a n c bs :=
  ((BelowX.refl (base := w.heap.size) (mb := q) (W := w) (Nat.le_refl _)).set i v).okT h rfl hm
set_option maxRecDepth 100000 in
set_option maxHeartbeats 8000000 in
theorem eCl_e1 (ea : Option Addr) (en ec : Nat) (es : List Int) (pa : Option Addr) (pn pc : Nat) (ps : List Int) (G W H : Int) (a : Option Addr) (n c : Nat) (cs : List Int) (w : World) (hS : SArg ea en ec es pa pn pc ps w) (hI : IsInts w a n cs) (he : en ≤ 9223372036854775807) (hp : pn ≤ 9223372036854775807) (z1 : ea = none → ec = 0) (z2 : pa = none → pc = 0) (hne : stE en pn es ps ≠ 0) :
    Calls Try.prog 29 #[.agg #[.slice ea en ec, .slice pa pn pc], .agg #[.int .i64 (G), .int .i64 (W), .int .i64 (H), .slice a n c]] w (TrPost 0 0 0 [] (stE en pn es ps) w) := by
  have HW := Lib.hid (fun w (h : SArg ea en ec es pa pn pc ps w) => ewrong_any ea en ec es pa pn pc ps w h.e h.p he hp z1 z2)
  have hb : (stE en pn es ps != 0) = true := by simpa using hne
  have HS := Lib.hid hS; have HI := Lib.hid hI
  clear hne hS hI
  generalize stE en pn es ps = q at *
  go_enter Try.func29, Try.ntmps29
  (go_wp2_with fail; refine (HW.out _ (HS.out.below (by repeat (first | exact Below.refl _ _ | refine Below.drew ?_ | refine below_drewN ?_ _ | refine Below.alloc ?_ (by first | exact Nat.le_refl _ | (simp; done) | (simp; omega) | omega) _ | refine Below.setCell ?_ (by first | exact Nat.le_refl _ | (simp; done) | (simp; omega) | omega) _ | refine bExtW ?_ (by first | exact Nat.le_refl _ | (simp; done) | (simp; omega) | omega) | refine Below.trans ?_ (Below.mono (by assumption) (by first | exact Nat.le_refl _ | (simp; done) | (simp; omega) | omega)))))).mono ?_; rintro r w1 ⟨rfl, hb⟩; obtain ⟨E, d, rfl⟩ := bExt hb; clear hb)
  go_wp2
  refine bodyPost_ret (v := .tuple #[.agg #[.int .i64 0, .int .i64 0, .slice none 0 0], .int .i64 (q)]) (by simp [results, Try.results29, go_sem]) rfl ?_
  exact ⟨none, 0, rfl, okT_none _, (by repeat (first | exact Below.refl _ _ | refine Below.drew ?_ | refine below_drewN ?_ _ | refine Below.alloc ?_ (by first | exact Nat.le_refl _ | (simp; done) | (simp; omega) | omega) _ | refine Below.setCell ?_ (by first | exact Nat.le_refl _ | (simp; done) | (simp; omega) | omega) _ | refine bExtW ?_ (by first | exact Nat.le_refl _ | (simp; done) | (simp; omega) | omega) | refine Below.trans ?_ (Below.mono (by assumption) (by first | exact Nat.le_refl _ | (simp; done) | (simp; omega) | omega))))⟩
set_option maxRecDepth 100000 in
set_option maxHeartbeats 8000000 in
theorem eCl_e2 (ea : Option Addr) (en ec : Nat) (es : List Int) (pa : Option Addr) (pn pc : Nat) (ps : List Int) (G W H : Int) (a : Option Addr) (n c : Nat) (cs : List Int) (w : World) (hS : SArg ea en ec es pa pn pc ps w) (hI : IsInts w a n cs) (he : en ≤ 9223372036854775807) (hp : pn ≤ 9223372036854775807) (z1 : ea = none → ec = 0) (z2 : pa = none → pc = 0) (h0 : (-9223372036854775808 ≤ G ∧ G ≤ 9223372036854775807)) (h1 : (-9223372036854775808 ≤ W ∧ W ≤ 9223372036854775807)) (h2 : (-9223372036854775808 ≤ H ∧ H ≤ 9223372036854775807)) (h3 : n ≤ 9223372036854775807) (hs0 : stE en pn es ps = 0) (hne : chE G W H n cs ≠ 0) :
    Calls Try.prog 29 #[.agg #[.slice ea en ec, .slice pa pn pc], .agg #[.int .i64 (G), .int .i64 (W), .int .i64 (H), .slice a n c]] w (TrPost 0 0 0 [] (chE G W H n cs) w) := by
  have HW := Lib.hid (fun w (h : SArg ea en ec es pa pn pc ps w) => ewrong_any ea en ec es pa pn pc ps w h.e h.p he hp z1 z2)
  have hb : (chE G W H n cs != 0) = true := by simpa using hne
  have HC := Lib.hid (fun w h => chWrong_any G W H a n c cs w h h0 h1 h2 h3)
  rw [hs0] at HW
  have HS := Lib.hid hS; have HI := Lib.hid hI
  clear hne hS hI hs0
  generalize chE G W H n cs = q at *
  go_enter Try.func29, Try.ntmps29
  (go_wp2_with fail; refine (HW.out _ (HS.out.below (by repeat (first | exact Below.refl _ _ | refine Below.drew ?_ | refine below_drewN ?_ _ | refine Below.alloc ?_ (by first | exact Nat.le_refl _ | (simp; done) | (simp; omega) | omega) _ | refine Below.setCell ?_ (by first | exact Nat.le_refl _ | (simp; done) | (simp; omega) | omega) _ | refine bExtW ?_ (by first | exact Nat.le_refl _ | (simp; done) | (simp; omega) | omega) | refine Below.trans ?_ (Below.mono (by assumption) (by first | exact Nat.le_refl _ | (simp; done) | (simp; omega) | omega)))))).mono ?_; rintro r w1 ⟨rfl, hb⟩; obtain ⟨E, d, rfl⟩ := bExt hb; clear hb)
  (go_wp2_with fail; refine (HC.out _ (HI.out.below (by repeat (first | exact Below.refl _ _ | refine Below.drew ?_ | refine below_drewN ?_ _ | refine Below.alloc ?_ (by first | exact Nat.le_refl _ | (simp; done) | (simp; omega) | omega) _ | refine Below.setCell ?_ (by first | exact Nat.le_refl _ | (simp; done) | (simp; omega) | omega) _ | refine bExtW ?_ (by first | exact Nat.le_refl _ | (simp; done) | (simp; omega) | omega) | refine Below.trans ?_ (Below.mono (by assumption) (by first | exact Nat.le_refl _ | (simp; done) | (simp; omega) | omega)))))).mono ?_; rintro r w1 ⟨rfl, hb⟩; obtain ⟨E, d, rfl⟩ := bExt hb; clear hb)
  go_wp2
  refine bodyPost_ret (v := .tuple #[.agg #[.int .i64 0, .int .i64 0, .slice none 0 0], .int .i64 (q)]) (by simp [results, Try.results29, go_sem]) rfl ?_
  exact ⟨none, 0, rfl, okT_none _, (by repeat (first | exact Below.refl _ _ | refine Below.drew ?_ | refine below_drewN ?_ _ | refine Below.alloc ?_ (by first | exact Nat.le_refl _ | (simp; done) | (simp; omega) | omega) _ | refine Below.setCell ?_ (by first | exact Nat.le_refl _ | (simp; done) | (simp; omega) | omega) _ | refine bExtW ?_ (by first | exact Nat.le_refl _ | (simp; done) | (simp; omega) | omega) | refine Below.trans ?_ (Below.mono (by assumption) (by first | exact Nat.le_refl _ | (simp; done) | (simp; omega) | omega))))⟩
set_option maxRecDepth 100000 in
set_option maxHeartbeats 8000000 in
theorem eCl_e3 (ea : Option Addr) (en ec : Nat) (es : List Int) (pa : Option Addr) (pn pc : Nat) (ps : List Int) (G W H : Int) (a : Option Addr) (n c : Nat) (cs : List Int) (w : World) (hS : SArg ea en ec es pa pn pc ps w) (hI : IsInts w a n cs) (he : en ≤ 9223372036854775807) (hp : pn ≤ 9223372036854775807) (z1 : ea = none → ec = 0) (z2 : pa = none → pc = 0) (h0 : (-9223372036854775808 ≤ G ∧ G ≤ 9223372036854775807)) (h1 : (-9223372036854775808 ≤ W ∧ W ≤ 9223372036854775807)) (h2 : (-9223372036854775808 ≤ H ∧ H ≤ 9223372036854775807)) (h3 : n ≤ 9223372036854775807) (hs0 : stE en pn es ps = 0) (hc0 : chE G W H n cs = 0) (hne : G ≠ 4) :
    Calls Try.prog 29 #[.agg #[.slice ea en ec, .slice pa pn pc], .agg #[.int .i64 (G), .int .i64 (W), .int .i64 (H), .slice a n c]] w (TrPost 0 0 0 [] (8) w) := by
  have HW := Lib.hid (fun w (h : SArg ea en ec es pa pn pc ps w) => ewrong_any ea en ec es pa pn pc ps w h.e h.p he hp z1 z2)
  have b1 : (G != 4) = true := by simpa using hne
  have HC := Lib.hid (fun w h => chWrong_any G W H a n c cs w h h0 h1 h2 h3)
  rw [hs0] at HW
  rw [hc0] at HC
  have HS := Lib.hid hS; have HI := Lib.hid hI
  clear hne hS hI hs0 hc0
  go_enter Try.func29, Try.ntmps29
  (go_wp2_with fail; refine (HW.out _ (HS.out.below (by repeat (first | exact Below.refl _ _ | refine Below.drew ?_ | refine below_drewN ?_ _ | refine Below.alloc ?_ (by first | exact Nat.le_refl _ | (simp; done) | (simp; omega) | omega) _ | refine Below.setCell ?_ (by first | exact Nat.le_refl _ | (simp; done) | (simp; omega) | omega) _ | refine bExtW ?_ (by first | exact Nat.le_refl _ | (simp; done) | (simp; omega) | omega) | refine Below.trans ?_ (Below.mono (by assumption) (by first | exact Nat.le_refl _ | (simp; done) | (simp; omega) | omega)))))).mono ?_; rintro r w1 ⟨rfl, hb⟩; obtain ⟨E, d, rfl⟩ := bExt hb; clear hb)
  (go_wp2_with fail; refine (HC.out _ (HI.out.below (by repeat (first | exact Below.refl _ _ | refine Below.drew ?_ | refine below_drewN ?_ _ | refine Below.alloc ?_ (by first | exact Nat.le_refl _ | (simp; done) | (simp; omega) | omega) _ | refine Below.setCell ?_ (by first | exact Nat.le_refl _ | (simp; done) | (simp; omega) | omega) _ | refine bExtW ?_ (by first | exact Nat.le_refl _ | (simp; done) | (simp; omega) | omega) | refine Below.trans ?_ (Below.mono (by assumption) (by first | exact Nat.le_refl _ | (simp; done) | (simp; omega) | omega)))))).mono ?_; rintro r w1 ⟨rfl, hb⟩; obtain ⟨E, d, rfl⟩ := bExt hb; clear hb)
  go_wp2
  refine bodyPost_ret (v := .tuple #[.agg #[.int .i64 0, .int .i64 0, .slice none 0 0], .int .i64 (8)]) (by simp [results, Try.results29, go_sem]) rfl ?_
  exact ⟨none, 0, rfl, okT_none _, (by repeat (first | exact Below.refl _ _ | refine Below.drew ?_ | refine below_drewN ?_ _ | refine Below.alloc ?_ (by first | exact Nat.le_refl _ | (simp; done) | (simp; omega) | omega) _ | refine Below.setCell ?_ (by first | exact Nat.le_refl _ | (simp; done) | (simp; omega) | omega) _ | refine bExtW ?_ (by first | exact Nat.le_refl _ | (simp; done) | (simp; omega) | omega) | refine Below.trans ?_ (Below.mono (by assumption) (by first | exact Nat.le_refl _ | (simp; done) | (simp; omega) | omega))))⟩
set_option maxRecDepth 100000 in
set_option maxHeartbeats 8000000 in
theorem eCl_e4 (ea : Option Addr) (en ec : Nat) (es : List Int) (pa : Option Addr) (pn pc : Nat) (ps : List Int) (G W H : Int) (a : Option Addr) (n c : Nat) (cs : List Int) (w : World) (hS : SArg ea en ec es pa pn pc ps w) (hI : IsInts w a n cs) (he : en ≤ 9223372036854775807) (hp : pn ≤ 9223372036854775807) (z1 : ea = none → ec = 0) (z2 : pa = none → pc = 0) (h0 : (-9223372036854775808 ≤ G ∧ G ≤ 9223372036854775807)) (h1 : (-9223372036854775808 ≤ W ∧ W ≤ 9223372036854775807)) (h2 : (-9223372036854775808 ≤ H ∧ H ≤ 9223372036854775807)) (h3 : n ≤ 9223372036854775807) (hs0 : stE en pn es ps = 0) (hc0 : chE G W H n cs = 0) (hne : G = 4 ∧ W ≠ en) :
    Calls Try.prog 29 #[.agg #[.slice ea en ec, .slice pa pn pc], .agg #[.int .i64 (G), .int .i64 (W), .int .i64 (H), .slice a n c]] w (TrPost 0 0 0 [] (8) w) := by
  have HW := Lib.hid (fun w (h : SArg ea en ec es pa pn pc ps w) => ewrong_any ea en ec es pa pn pc ps w h.e h.p he hp z1 z2)
  have b1 : (G != 4) = false := by simpa using hne.1
  have b2 : (W != (en : Int)) = true := by simpa using hne.2
  have HC := Lib.hid (fun w h => chWrong_any G W H a n c cs w h h0 h1 h2 h3)
  rw [hs0] at HW
  rw [hc0] at HC
  have HS := Lib.hid hS; have HI := Lib.hid hI
  clear hne hS hI hs0 hc0
  go_enter Try.func29, Try.ntmps29
  (go_wp2_with fail; refine (HW.out _ (HS.out.below (by repeat (first | exact Below.refl _ _ | refine Below.drew ?_ | refine below_drewN ?_ _ | refine Below.alloc ?_ (by first | exact Nat.le_refl _ | (simp; done) | (simp; omega) | omega) _ | refine Below.setCell ?_ (by first | exact Nat.le_refl _ | (simp; done) | (simp; omega) | omega) _ | refine bExtW ?_ (by first | exact Nat.le_refl _ | (simp; done) | (simp; omega) | omega) | refine Below.trans ?_ (Below.mono (by assumption) (by first | exact Nat.le_refl _ | (simp; done) | (simp; omega) | omega)))))).mono ?_; rintro r w1 ⟨rfl, hb⟩; obtain ⟨E, d, rfl⟩ := bExt hb; clear hb)
  (go_wp2_with fail; refine (HC.out _ (HI.out.below (by repeat (first | exact Below.refl _ _ | refine Below.drew ?_ | refine below_drewN ?_ _ | refine Below.alloc ?_ (by first | exact Nat.le_refl _ | (simp; done) | (simp; omega) | omega) _ | refine Below.setCell ?_ (by first | exact Nat.le_refl _ | (simp; done) | (simp; omega) | omega) _ | refine bExtW ?_ (by first | exact Nat.le_refl _ | (simp; done) | (simp; omega) | omega) | refine Below.trans ?_ (Below.mono (by assumption) (by first | exact Nat.le_refl _ | (simp; done) | (simp; omega) | omega)))))).mono ?_; rintro r w1 ⟨rfl, hb⟩; obtain ⟨E, d, rfl⟩ := bExt hb; clear hb)
  go_wp2
  refine bodyPost_ret (v := .tuple #[.agg #[.int .i64 0, .int .i64 0, .slice none 0 0], .int .i64 (8)]) (by simp [results, Try.results29, go_sem]) rfl ?_
  exact ⟨none, 0, rfl, okT_none _, (by repeat (first | exact Below.refl _ _ | refine Below.drew ?_ | refine below_drewN ?_ _ | refine Below.alloc ?_ (by first | exact Nat.le_refl _ | (simp; done) | (simp; omega) | omega) _ | refine Below.setCell ?_ (by first | exact Nat.le_refl _ | (simp; done) | (simp; omega) | omega) _ | refine bExtW ?_ (by first | exact Nat.le_refl _ | (simp; done) | (simp; omega) | omega) | refine Below.trans ?_ (Below.mono (by assumption) (by first | exact Nat.le_refl _ | (simp; done) | (simp; omega) | omega))))⟩
set_option maxRecDepth 100000 in
set_option maxHeartbeats 8000000 in
theorem eCl_e5 (ea : Option Addr) (en ec : Nat) (es : List Int) (pa : Option Addr) (pn pc : Nat) (ps : List Int) (G W H : Int) (a : Option Addr) (n c : Nat) (cs : List Int) (w : World) (hS : SArg ea en ec es pa pn pc ps w) (hI : IsInts w a n cs) (he : en ≤ 9223372036854775807) (hp : pn ≤ 9223372036854775807) (z1 : ea = none → ec = 0) (z2 : pa = none → pc = 0) (h0 : (-9223372036854775808 ≤ G ∧ G ≤ 9223372036854775807)) (h1 : (-9223372036854775808 ≤ W ∧ W ≤ 9223372036854775807)) (h2 : (-9223372036854775808 ≤ H ∧ H ≤ 9223372036854775807)) (h3 : n ≤ 9223372036854775807) (hs0 : stE en pn es ps = 0) (hc0 : chE G W H n cs = 0) (hne : G = 4 ∧ W = en ∧ H ≠ pn) :
    Calls Try.prog 29 #[.agg #[.slice ea en ec, .slice pa pn pc], .agg #[.int .i64 (G), .int .i64 (W), .int .i64 (H), .slice a n c]] w (TrPost 0 0 0 [] (8) w) := by
  have HW := Lib.hid (fun w (h : SArg ea en ec es pa pn pc ps w) => ewrong_any ea en ec es pa pn pc ps w h.e h.p he hp z1 z2)
  have b1 : (G != 4) = false := by simpa using hne.1
  have b2 : (W != (en : Int)) = false := by simpa using hne.2.1
  have b3 : (H != (pn : Int)) = true := by simpa using hne.2.2
  have HC := Lib.hid (fun w h => chWrong_any G W H a n c cs w h h0 h1 h2 h3)
  rw [hs0] at HW
  rw [hc0] at HC
  have HS := Lib.hid hS; have HI := Lib.hid hI
  clear hne hS hI hs0 hc0
  go_enter Try.func29, Try.ntmps29
  (go_wp2_with fail; refine (HW.out _ (HS.out.below (by repeat (first | exact Below.refl _ _ | refine Below.drew ?_ | refine below_drewN ?_ _ | refine Below.alloc ?_ (by first | exact Nat.le_refl _ | (simp; done) | (simp; omega) | omega) _ | refine Below.setCell ?_ (by first | exact Nat.le_refl _ | (simp; done) | (simp; omega) | omega) _ | refine bExtW ?_ (by first | exact Nat.le_refl _ | (simp; done) | (simp; omega) | omega) | refine Below.trans ?_ (Below.mono (by assumption) (by first | exact Nat.le_refl _ | (simp; done) | (simp; omega) | omega)))))).mono ?_; rintro r w1 ⟨rfl, hb⟩; obtain ⟨E, d, rfl⟩ := bExt hb; clear hb)
  (go_wp2_with fail; refine (HC.out _ (HI.out.below (by repeat (first | exact Below.refl _ _ | refine Below.drew ?_ | refine below_drewN ?_ _ | refine Below.alloc ?_ (by first | exact Nat.le_refl _ | (simp; done) | (simp; omega) | omega) _ | refine Below.setCell ?_ (by first | exact Nat.le_refl _ | (simp; done) | (simp; omega) | omega) _ | refine bExtW ?_ (by first | exact Nat.le_refl _ | (simp; done) | (simp; omega) | omega) | refine Below.trans ?_ (Below.mono (by assumption) (by first | exact Nat.le_refl _ | (simp; done) | (simp; omega) | omega)))))).mono ?_; rintro r w1 ⟨rfl, hb⟩; obtain ⟨E, d, rfl⟩ := bExt hb; clear hb)
  go_wp2
  refine bodyPost_ret (v := .tuple #[.agg #[.int .i64 0, .int .i64 0, .slice none 0 0], .int .i64 (8)]) (by simp [results, Try.results29, go_sem]) rfl ?_
  exact ⟨none, 0, rfl, okT_none _, (by repeat (first | exact Below.refl _ _ | refine Below.drew ?_ | refine below_drewN ?_ _ | refine Below.alloc ?_ (by first | exact Nat.le_refl _ | (simp; done) | (simp; omega) | omega) _ | refine Below.setCell ?_ (by first | exact Nat.le_refl _ | (simp; done) | (simp; omega) | omega) _ | refine bExtW ?_ (by first | exact Nat.le_refl _ | (simp; done) | (simp; omega) | omega) | refine Below.trans ?_ (Below.mono (by assumption) (by first | exact Nat.le_refl _ | (simp; done) | (simp; omega) | omega))))⟩
set_option maxRecDepth 100000 in
set_option maxHeartbeats 8000000 in
theorem eCl_ok (W H : Nat) (ea : Option Addr) (ec : Nat) (es : List Int) (pa : Option Addr) (pc : Nat) (ps : List Int) (a : Option Addr) (n c : Nat) (cs : List Int) (w : World) (hS : SArg ea W ec es pa H pc ps w) (z1 : ea = none → ec = 0) (z2 : pa = none → pc = 0) (h0 : stE W H es ps = 0) (hI : IsInts w a n cs) (h1 : W ≤ 64) (h2 : H ≤ 64) (hn : n = W * H) (hCR : ∀ x ∈ cs, 0 ≤ x ∧ x < 62) :
    Calls Try.prog 29 #[.agg #[.slice ea W ec, .slice pa H pc], .agg #[.int .i64 (4), .int .i64 (W), .int .i64 (H), .slice a n c]] w (ClPost W H n es ps cs w) := by
  have hn4 : n ≤ 4096 := by rw [hn]; exact mul64n h1 h2
  have hW1 := (stE_zero h0).1
  have HW := Lib.hid (fun w (h : SArg ea W ec es pa H pc ps w) => ewrong_any ea W ec es pa H pc ps w h.e h.p (by omega) (by omega) z1 z2)
  have HT := Lib.hid (fun w h => chWrong_any 4 W H a n c cs w h (by omega) (by omega) (by omega) (by omega))
  rw [chE_ok (.inl rfl) hW1 h1 (stE_zero h0).2.2.1 h2 hn hCR] at HT
  rw [h0] at HW
  have HS := Lib.hid hS; have HB := Lib.hid hI; have HN := Lib.hid hn
  clear hS h0 hn hI hCR
  go_enter Try.func29, Try.ntmps29
  go_wp2_with fail
  refine (HW.out _ (HS.out.below (by repeat (first | exact Below.refl _ _ | refine Below.drew ?_ | refine below_drewN ?_ _ | refine Below.alloc ?_ (by first | exact Nat.le_refl _ | (simp; done) | (simp; omega) | omega) _ | refine Below.setCell ?_ (by first | exact Nat.le_refl _ | (simp; done) | (simp; omega) | omega) _ | refine bExtW ?_ (by first | exact Nat.le_refl _ | (simp; done) | (simp; omega) | omega) | refine Below.trans ?_ (Below.mono (by assumption) (by first | exact Nat.le_refl _ | (simp; done) | (simp; omega) | omega)))))).mono ?_
  rintro r w1 ⟨rfl, hb⟩
  obtain ⟨E1, d1, rfl⟩ := bExt hb
  clear hb
  go_wp2_with fail
  refine (HT.out _ (HB.out.below (by repeat (first | exact Below.refl _ _ | refine Below.drew ?_ | refine below_drewN ?_ _ | refine Below.alloc ?_ (by first | exact Nat.le_refl _ | (simp; done) | (simp; omega) | omega) _ | refine Below.setCell ?_ (by first | exact Nat.le_refl _ | (simp; done) | (simp; omega) | omega) _ | refine bExtW ?_ (by first | exact Nat.le_refl _ | (simp; done) | (simp; omega) | omega) | refine Below.trans ?_ (Below.mono (by assumption) (by first | exact Nat.le_refl _ | (simp; done) | (simp; omega) | omega)))))).mono ?_
  rintro r w1 ⟨rfl, hb⟩
  obtain ⟨E2, d2, rfl⟩ := bExt hb
  clear hb
  go_upto_region 9 with fail
  have hS1 := ((sF_alloc w (.slice ea W ec) (.slice pa H pc)).alloc (.cells #[.int .i64 (4), .int .i64 (W), .int .i64 (H), .slice a n c] 50)).alloc (.cells #[.int .i64 (0), .int .i64 (0), .slice none 0 0] 24)
  have hM1 := (chG_alloc (w.alloc (.cells #[.slice ea W ec, .slice pa H pc] 48)) 4 W H (.slice a n c)).alloc (.cells #[.int .i64 (0), .int .i64 (0), .slice none 0 0] 24)
  have hR1 := tF_alloc ((w.alloc (.cells #[.slice ea W ec, .slice pa H pc] 48)).alloc (.cells #[.int .i64 (4), .int .i64 (W), .int .i64 (H), .slice a n c] 50)) 0 0 (.slice none 0 0) rfl
  rw [World.size_alloc] at hM1
  rw [World.size_alloc, World.size_alloc] at hR1
  have hbb : Below (w.heap.size + 3) (((w.alloc (.cells #[.slice ea W ec, .slice pa H pc] 48)).alloc (.cells #[.int .i64 (4), .int .i64 (W), .int .i64 (H), .slice a n c] 50)).alloc (.cells #[.int .i64 (0), .int .i64 (0), .slice none 0 0] 24)) (extW (extW (((w.alloc (.cells #[.slice ea W ec, .slice pa H pc] 48)).alloc (.cells #[.int .i64 (4), .int .i64 (W), .int .i64 (H), .slice a n c] 50)).alloc (.cells #[.int .i64 (0), .int .i64 (0), .slice none 0 0] 24)) E1 d1) E2 d2) := (by repeat (first | exact Below.refl _ _ | refine Below.drew ?_ | refine below_drewN ?_ _ | refine Below.alloc ?_ (by first | exact Nat.le_refl _ | (simp; done) | (simp; omega) | omega) _ | refine Below.setCell ?_ (by first | exact Nat.le_refl _ | (simp; done) | (simp; omega) | omega) _ | refine bExtW ?_ (by first | exact Nat.le_refl _ | (simp; done) | (simp; omega) | omega) | refine Below.trans ?_ (Below.mono (by assumption) (by first | exact Nat.le_refl _ | (simp; done) | (simp; omega) | omega))))
  have hb0 : Below w.heap.size w (extW (extW (((w.alloc (.cells #[.slice ea W ec, .slice pa H pc] 48)).alloc (.cells #[.int .i64 (4), .int .i64 (W), .int .i64 (H), .slice a n c] 50)).alloc (.cells #[.int .i64 (0), .int .i64 (0), .slice none 0 0] 24)) E1 d1) E2 d2) := (by repeat (first | exact Below.refl _ _ | refine Below.drew ?_ | refine below_drewN ?_ _ | refine Below.alloc ?_ (by first | exact Nat.le_refl _ | (simp; done) | (simp; omega) | omega) _ | refine Below.setCell ?_ (by first | exact Nat.le_refl _ | (simp; done) | (simp; omega) | omega) _ | refine bExtW ?_ (by first | exact Nat.le_refl _ | (simp; done) | (simp; omega) | omega) | refine Below.trans ?_ (Below.mono (by assumption) (by first | exact Nat.le_refl _ | (simp; done) | (simp; omega) | omega))))
  have hS2 := rowBelow hS1 hbb (by omega)
  have hM2 := rowBelow hM1 hbb (by omega)
  have hR2 := rowBelow hR1 hbb (by omega)
  have hszb : w.heap.size + 3 ≤ (extW (extW (((w.alloc (.cells #[.slice ea W ec, .slice pa H pc] 48)).alloc (.cells #[.int .i64 (4), .int .i64 (W), .int .i64 (H), .slice a n c] 50)).alloc (.cells #[.int .i64 (0), .int .i64 (0), .slice none 0 0] 24)) E1 d1) E2 d2).heap.size := by simp; omega
  clear hS1 hM1 hR1 hbb
  generalize extW (extW (((w.alloc (.cells #[.slice ea W ec, .slice pa H pc] 48)).alloc (.cells #[.int .i64 (4), .int .i64 (W), .int .i64 (H), .slice a n c] 50)).alloc (.cells #[.int .i64 (0), .int .i64 (0), .slice none 0 0] 24)) E1 d1) E2 d2 = wb at *
  obtain ⟨q, hq⟩ : ∃ q, w.heap.size = q := ⟨_, rfl⟩
  have HQ := Lib.hid hq
  rw [hq] at hS2 hM2 hR2 hszb ⊢
  have m0 : wb.cell? ⟨q + 1, 1, none⟩ = some (.int .i64 (W)) := hM2.cell (i := 1) (by omega)
  have m1 : wb.cell? ⟨q + 1, 2, none⟩ = some (.int .i64 (H)) := hM2.cell (i := 2) (by omega)
  have m2 : wb.cell? ⟨q + 1, 3, none⟩ = some (.slice a n c) := hM2.cell (i := 3) (by omega)
  have lm : LtW (q + 1) wb := hM2.lt
  go_wp2_with fail
  have hC3 := tF_alloc wb W H (.slice none 0 0) rfl
  have hS3 := hS2.alloc (.cells #[.int .i64 (W), .int .i64 (H), .slice none 0 0] 24)
  have hM3 := hM2.alloc (.cells #[.int .i64 (W), .int .i64 (H), .slice none 0 0] 24)
  have hR3 := hR2.alloc (.cells #[.int .i64 (W), .int .i64 (H), .slice none 0 0] 24)
  have hb3 : Below w.heap.size w (wb.alloc (.cells #[.int .i64 (W), .int .i64 (H), .slice none 0 0] 24)) := hb0.alloc hb0.size _
  have hsz3 : (wb.alloc (.cells #[.int .i64 (W), .int .i64 (H), .slice none 0 0] 24)).heap.size = wb.heap.size + 1 := by simp
  generalize wb.alloc (.cells #[.int .i64 (W), .int .i64 (H), .slice none 0 0] 24) = W3 at *
  obtain ⟨mb, hmb⟩ : ∃ mb, wb.heap.size = mb := ⟨_, rfl⟩
  rw [hmb] at hC3 hsz3 hszb ⊢
  obtain ⟨base, hbase⟩ : ∃ b, b = W3.heap.size := ⟨_, rfl⟩
  have hmbb : mb < base := by omega
  have HBS := Lib.hid hbase
  have HS3 := Lib.hid hS3; have HM3 := Lib.hid hM3; have HR3 := Lib.hid hR3; have HC3 := Lib.hid hC3
  have HB3 : Hid (Below q w W3) := Lib.hid (by rw [← hq]; exact hb3)
  clear hS2 hM2 hR2 hC3 hS3 hM3 hR3 hb0 hb3 hsz3 hmb hbase m0 m1 m2 lm hq
  go_loopw [52] (fun iv wr => ∃ (k : Nat) (v : Value), k ≤ n ∧ iv = .int .i64 k ∧ FB base mb W H (clB W es cs k) W3 v wr ∧ Hid (clOk W es ps cs k)) (fun iv _ => n - (intOf iv).toNat)
  case atStart => exact ⟨0, _, by omega, rfl, ⟨HC3.out, World.ownsRow_nil _ _ _ _, BelowX.refl (by have := HBS.out; omega)⟩, Lib.hid fun i h => absurd h (by omega)⟩
  case round =>
    obtain ⟨k, v, hk, rfl, hcb, HOK⟩ := hrel
    have hbx := hcb.bel
    have HBW : Hid (Below q w wr) := Lib.hid (HB3.out.trans (hbx.below HBS.out.symm (by omega) hmbb))
    have rs := hbx.rowIs HS3.out (by omega) (by omega)
    have rm := hbx.rowIs HM3.out (by omega) (by omega)
    have HRR := Lib.hid (hbx.rowIs HR3.out (by omega) (by omega))
    have s0 : wr.cell? ⟨q, 0, none⟩ = some (.slice ea W ec) := rs.cell (i := 0) (by omega)
    have s1 : wr.cell? ⟨q, 1, none⟩ = some (.slice pa H pc) := rs.cell (i := 1) (by omega)
    have m0 : wr.cell? ⟨q + 1, 1, none⟩ = some (.int .i64 (W)) := rm.cell (i := 1) (by omega)
    have ls : LtW q wr := rs.lt
    have lm : LtW (q + 1) wr := rm.lt
    have HCB := Lib.hid hcb
    have c3 : wr.cell? ⟨mb, 2, none⟩ = some v := hcb.row.cell (i := 2) (by omega)
    have f3 := hcb.row.frozen 2
    have lc : LtW mb wr := hcb.row.lt
    have hsb := hbx.size
    clear rs rm hcb hbx
    by_cases hkn : k < n
    · have HBB := HB.out.below (by rw [HQ.out]; exact HBW.out : Below w.heap.size w wr)
      obtain ⟨bb, bo, rfl, hbl, hbc⟩ := HBB.2 (by omega)
      have b0 := hbc k hkn
      have lb : LtW bb wr := hbl
      obtain ⟨qk, hqk⟩ : ∃ qk, k / W = qk := ⟨_, rfl⟩
      obtain ⟨rk, hrk⟩ : ∃ rk, k % W = rk := ⟨_, rfl⟩
      have hqH : qk < H := by rw [← hqk]; exact Nat.div_lt_of_lt_mul (by rw [← HN.out]; exact hkn)
      have hrW : rk < W := by rw [← hrk]; exact Nat.mod_lt _ (by omega)
      have e1 : (k : Int) / (W : Int) = (qk : Int) := by rw [← hqk]; exact (Int.natCast_ediv k W).symm
      have e2 : (k : Int) % (W : Int) = (rk : Int) := by rw [← hrk]; exact (Int.natCast_emod k W).symm
      have e3 : (k : Int).tdiv (W : Int) = (qk : Int) := by rw [Int.tdiv_eq_ediv_of_nonneg (by omega), e1]
      have e4 : (k : Int).tmod (W : Int) = (rk : Int) := by rw [Int.tmod_eq_emod_of_nonneg (by omega), e2]
      have e5 : IntKind.i64.wrap (qk : Int) = (qk : Int) := IntWalk.i64_in _ (by omega)
      have e6 : IntKind.i64.wrap (rk : Int) = (rk : Int) := IntWalk.i64_in _ (by omega)
      have e7 : ((W : Int) == 0) = false := by simp; omega
      have e8 : (W : Int) ≠ 0 := by omega
      have e9 : ¬ W = 0 := by omega
      have hSA := HS.out.below (by rw [HQ.out]; exact HBW.out : Below w.heap.size w wr)
      obtain ⟨p1, o1, rfl, hp1, hpc1⟩ := hSA.e.2 (by omega)
      obtain ⟨p2, o2, rfl, hp2, hpc2⟩ := hSA.p.2 (by omega)
      have x1 := hpc1 rk hrW
      have x2 := hpc2 qk hqH
      have lp1 : LtW p1 wr := hp1
      have lp2 : LtW p2 wr := hp2
      have HSL := Lib.hid (clB_succ W es cs k)
      have HOS : Hid (es.getD (k % W) 0 = cs.getD k 0 ∨ ps.getD (k / W) 0 = cs.getD k 0 → clOk W es ps cs (k + 1)) := Lib.hid fun h i hi => by
        by_cases e : i = k
        · subst e; exact h
        · exact HOK.out i (by omega)
      have HNO : Hid (¬ (es.getD (k % W) 0 = cs.getD k 0 ∨ ps.getD (k / W) 0 = cs.getD k 0) → ¬ clOk W es ps cs n) := Lib.hid fun h g => h (g k hkn)
      rw [hqk, hrk] at HOS HNO
      rw [hrk] at HSL
      obtain ⟨cx, hcx⟩ : ∃ cx, cs.getD k 0 = cx := ⟨_, rfl⟩
      rw [hcx] at b0 HSL HOS HNO
      obtain ⟨ex, hex⟩ : ∃ ex, es.getD rk 0 = ex := ⟨_, rfl⟩
      rw [hex] at x1 HSL HOS HNO
      obtain ⟨px, hpx⟩ : ∃ px, ps.getD qk 0 = px := ⟨_, rfl⟩
      rw [hpx] at x2 HOS HNO
      clear hbc hbl hpc1 hpc2 hp1 hp2 hqk hrk hcx hex hpx hSA HBB
      by_cases hec : ex = cx
      · have t1 : (ex == cx) = true := by simpa using hec
        have HOK2 := Lib.hid (HOS.out (.inl hec))
        rw [decide_eq_true hec] at HSL
        clear hec
        go_wp2_with fail
        (refine wp_region_ext (by kernel_rfl) (by kernel_rfl) ?_; (repeat (first | ((with_reducible refine ext_step (fun K hK => ?_)); go_simp; first | (refine hK _ ?_; clear hK K) | (apply Exists.intro; refine ⟨fun _ _ => ?_, hK _ ?_⟩; fail; clear hK K)))); refine wpQuiet_nil ?_; intro E d)
        go_wp2_with fail
        refine wp_region_ext (by kernel_rfl) (by kernel_rfl) ?_
        (repeat (first | ((with_reducible refine ext_step (fun K hK => ?_)); go_simp; first | (refine hK _ ?_; clear hK K) | (apply Exists.intro; refine ⟨fun _ _ => ?_, hK _ ?_⟩; fail; clear hK K))))
        refine wpQuiet_nil ?_
        intro E5 d5
        rw [extW_extW]
        go_upto_region 16 with fail
        have hbx5 : Below wr.heap.size wr (extW wr (E ++ E5) d5) := (by repeat (first | exact Below.refl _ _ | refine Below.drew ?_ | refine below_drewN ?_ _ | refine Below.alloc ?_ (by first | exact Nat.le_refl _ | (simp; done) | (simp; omega) | omega) _ | refine Below.setCell ?_ (by first | exact Nat.le_refl _ | (simp; done) | (simp; omega) | omega) _ | refine bExtW ?_ (by first | exact Nat.le_refl _ | (simp; done) | (simp; omega) | omega) | refine Below.trans ?_ (Below.mono (by assumption) (by first | exact Nat.le_refl _ | (simp; done) | (simp; omega) | omega))))
        have c3' := bCs hbx5 c3
        have f3' := (hbx5.frozen (p := ⟨mb, 2, none⟩) lc).trans f3
        have lc' : LtW mb (extW wr (E ++ E5) d5) := Nat.lt_of_lt_of_le lc hbx5.size
        have HC5 : Hid (FB base mb W H (clB W es cs k) W3 v (extW wr (E ++ E5) d5)) := Lib.hid ⟨rowBelow HCB.out.row hbx5 HCB.out.row.lt, ownBelow HCB.out.own hbx5, HCB.out.bel.trans (BelowX.of_below HCB.out.bel.size (hbx5.mono HCB.out.bel.size))⟩
        clear hbx5 c3 f3 lc HCB s0 s1 m0 ls lm b0 lb x1 x2 lp1 lp2 e1 e2 e3 e4 e5 e6 e7 e8 e9
        generalize extW wr (E ++ E5) d5 = wx at *
        have hsx := HC5.out.bel.size
        have HCE : Hid ((wx.alloc (.cells #[.bool true] 4)).cell? ⟨wx.heap.size, 0, none⟩ = some (.bool true)) := Lib.hid (by rw [World.cell?_alloc_new]; rfl)
        have HOA := Lib.hid (ownBelow HC5.out.own ((Below.refl _ _).alloc (Nat.le_refl _) (.cells #[.bool true] 4)))
        have hsa : base ≤ (wx.alloc (.cells #[.bool true] 4)).heap.size := by simp; omega
        rw [clB_len] at HOA
        go_wp2_with (at_builtin; refine wpAppK okBools rfl (.tmp 83) (.tmp 85) rfl base v k ((clB W es cs k).map Value.bool) (.bool true) wx.heap.size rfl HOA.out rfl HCE.out rfl (by omega) (by omega) hsa ?_)
        intro v' w2 hown2 hg2 hat2
        have hb2 : Below base wx w2 := Below.trans ((Below.refl base wx).alloc hsx _) (belowGrown hg2 hsa (fun k hk => (HOA.out.lt k hk).1))
        have c4' : w2.cell? ⟨mb, 2, none⟩ = some v := (hb2.cell (p := ⟨mb, 2, none⟩) hmbb).trans c3'
        have f4' : w2.frozen? ⟨mb, 2, none⟩ = false := (hb2.frozen (p := ⟨mb, 2, none⟩) hmbb).trans f3'
        obtain ⟨A', cp', rfl⟩ := own_form hown2
        have HNB := Lib.hid (HC5.out.appK (clB_len W es cs k) hmbb hown2 hb2)
        clear hown2 hg2 hat2 hb2 c3' f3'
        go_wp2
        go_roundw
        case rel => exact ⟨k + 1, _, by omega, by go_num, by rw [HSL.out]; exact HNB.out, HOK2⟩
        case measure => simp [intOf]; omega
      · have t1 : (ex == cx) = false := by simpa using hec
        rw [decide_eq_false hec] at HSL
        by_cases hpc : px = cx
        · have t2 : (px != cx) = false := by simpa using hpc
          have HOK2 := Lib.hid (HOS.out (.inr hpc))
          clear hec hpc
          go_wp2_with fail
          (refine wp_region_ext (by kernel_rfl) (by kernel_rfl) ?_; (repeat (first | ((with_reducible refine ext_step (fun K hK => ?_)); go_simp; first | (refine hK _ ?_; clear hK K) | (apply Exists.intro; refine ⟨fun _ _ => ?_, hK _ ?_⟩; fail; clear hK K)))); refine wpQuiet_nil ?_; intro E d)
          go_wp2_with fail
          refine wp_region_ext (by kernel_rfl) (by kernel_rfl) ?_
          (repeat (first | ((with_reducible refine ext_step (fun K hK => ?_)); go_simp; first | (refine hK _ ?_; clear hK K) | (apply Exists.intro; refine ⟨fun _ _ => ?_, hK _ ?_⟩; fail; clear hK K))))
          refine wpQuiet_nil ?_
          intro E5 d5
          rw [extW_extW]
          go_upto_region 16 with fail
          have hbx5 : Below wr.heap.size wr (extW wr (E ++ E5) d5) := (by repeat (first | exact Below.refl _ _ | refine Below.drew ?_ | refine below_drewN ?_ _ | refine Below.alloc ?_ (by first | exact Nat.le_refl _ | (simp; done) | (simp; omega) | omega) _ | refine Below.setCell ?_ (by first | exact Nat.le_refl _ | (simp; done) | (simp; omega) | omega) _ | refine bExtW ?_ (by first | exact Nat.le_refl _ | (simp; done) | (simp; omega) | omega) | refine Below.trans ?_ (Below.mono (by assumption) (by first | exact Nat.le_refl _ | (simp; done) | (simp; omega) | omega))))
          have c3' := bCs hbx5 c3
          have f3' := (hbx5.frozen (p := ⟨mb, 2, none⟩) lc).trans f3
          have lc' : LtW mb (extW wr (E ++ E5) d5) := Nat.lt_of_lt_of_le lc hbx5.size
          have HC5 : Hid (FB base mb W H (clB W es cs k) W3 v (extW wr (E ++ E5) d5)) := Lib.hid ⟨rowBelow HCB.out.row hbx5 HCB.out.row.lt, ownBelow HCB.out.own hbx5, HCB.out.bel.trans (BelowX.of_below HCB.out.bel.size (hbx5.mono HCB.out.bel.size))⟩
          clear hbx5 c3 f3 lc HCB s0 s1 m0 ls lm b0 lb x1 x2 lp1 lp2 e1 e2 e3 e4 e5 e6 e7 e8 e9
          generalize extW wr (E ++ E5) d5 = wx at *
          have hsx := HC5.out.bel.size
          have HCE : Hid ((wx.alloc (.cells #[.bool false] 4)).cell? ⟨wx.heap.size, 0, none⟩ = some (.bool false)) := Lib.hid (by rw [World.cell?_alloc_new]; rfl)
          have HOA := Lib.hid (ownBelow HC5.out.own ((Below.refl _ _).alloc (Nat.le_refl _) (.cells #[.bool false] 4)))
          have hsa : base ≤ (wx.alloc (.cells #[.bool false] 4)).heap.size := by simp; omega
          rw [clB_len] at HOA
          go_wp2_with (at_builtin; refine wpAppK okBools rfl (.tmp 83) (.tmp 85) rfl base v k ((clB W es cs k).map Value.bool) (.bool false) wx.heap.size rfl HOA.out rfl HCE.out rfl (by omega) (by omega) hsa ?_)
          intro v' w2 hown2 hg2 hat2
          have hb2 : Below base wx w2 := Below.trans ((Below.refl base wx).alloc hsx _) (belowGrown hg2 hsa (fun k hk => (HOA.out.lt k hk).1))
          have c4' : w2.cell? ⟨mb, 2, none⟩ = some v := (hb2.cell (p := ⟨mb, 2, none⟩) hmbb).trans c3'
          have f4' : w2.frozen? ⟨mb, 2, none⟩ = false := (hb2.frozen (p := ⟨mb, 2, none⟩) hmbb).trans f3'
          obtain ⟨A', cp', rfl⟩ := own_form hown2
          have HNB := Lib.hid (HC5.out.appK (clB_len W es cs k) hmbb hown2 hb2)
          clear hown2 hg2 hat2 hb2 c3' f3'
          go_wp2
          go_roundw
          case rel => exact ⟨k + 1, _, by omega, by go_num, by rw [HSL.out]; exact HNB.out, HOK2⟩
          case measure => simp [intOf]; omega
        · have t2 : (px != cx) = true := by simpa using hpc
          have HNN := Lib.hid (HNO.out (by rintro (h | h); exact hec h; exact hpc h))
          clear hec hpc
          go_wp2_with fail
          (refine wp_region_ext (by kernel_rfl) (by kernel_rfl) ?_; (repeat (first | ((with_reducible refine ext_step (fun K hK => ?_)); go_simp; first | (refine hK _ ?_; clear hK K) | (apply Exists.intro; refine ⟨fun _ _ => ?_, hK _ ?_⟩; fail; clear hK K)))); refine wpQuiet_nil ?_; intro E d)
          go_wp2_with fail
          refine wp_region_ext (by kernel_rfl) (by kernel_rfl) ?_
          (repeat (first | ((with_reducible refine ext_step (fun K hK => ?_)); go_simp; first | (refine hK _ ?_; clear hK K) | (apply Exists.intro; refine ⟨fun _ _ => ?_, hK _ ?_⟩; fail; clear hK K))))
          refine wpQuiet_nil ?_
          intro E5 d5
          rw [extW_extW]
          have hbx5 : Below wr.heap.size wr (extW wr (E ++ E5) d5) := bExtW (Below.refl _ _) (Nat.le_refl _)
          have HR9 := Lib.hid (rowBelow HRR.out hbx5 HRR.out.lt)
          have HB9 : Hid (Below q w (extW wr (E ++ E5) d5)) := Lib.hid (HBW.out.trans (hbx5.mono (by omega)))
          clear hbx5 HCB HRR c3 f3 lc s0 s1 m0 ls lm
          generalize extW wr (E ++ E5) d5 = wx at *
          have r0 : wx.cell? ⟨q + 1 + 1, 0, none⟩ = some (.int .i64 (0)) := HR9.out.cell (i := 0) (by omega)
          have r1 : wx.cell? ⟨q + 1 + 1, 1, none⟩ = some (.int .i64 (0)) := HR9.out.cell (i := 1) (by omega)
          have r2 : wx.cell? ⟨q + 1 + 1, 2, none⟩ = some (.slice none 0 0) := HR9.out.cell (i := 2) (by omega)
          have g0 := HR9.out.frozen 0; have g1 := HR9.out.frozen 1; have g2 := HR9.out.frozen 2
          have lr : LtW (q + 1 + 1) wx := HR9.out.lt
          go_wp2
          refine bodyPost_ret (v := .tuple #[.agg #[.int .i64 0, .int .i64 0, .slice none 0 0], .int .i64 (6)]) (by simp [results, Try.results29, go_sem, r0, r1, r2]) rfl ?_
          unfold ClPost
          refine .inr ⟨HNN.out, none, 0, rfl, okT_none _, ?_⟩
          rw [HQ.out]
          exact ((HB9.out.setCell (by show q ≤ q + 1 + 1; omega) _).setCell (by show q ≤ q + 1 + 1; omega) _).setCell (by show q ≤ q + 1 + 1; omega) _
    · obtain rfl : k = n := by omega
      obtain ⟨a9, c9, e9, h9, g9⟩ := OkT.of_owns HCB.out.own
      rw [clB_len] at e9 h9
      subst e9
      have rm := HCB.out.row
      have n0 : wr.cell? ⟨mb, 0, none⟩ = some (.int .i64 (W)) := rm.cell (i := 0) (by omega)
      have n1 : wr.cell? ⟨mb, 1, none⟩ = some (.int .i64 (H)) := rm.cell (i := 1) (by omega)
      have n2 : wr.cell? ⟨mb, 2, none⟩ = some (.slice a9 k c9) := rm.cell (i := 2) (by omega)
      have r0 : wr.cell? ⟨q + 1 + 1, 0, none⟩ = some (.int .i64 (0)) := HRR.out.cell (i := 0) (by omega)
      have r1 : wr.cell? ⟨q + 1 + 1, 1, none⟩ = some (.int .i64 (0)) := HRR.out.cell (i := 1) (by omega)
      have r2 : wr.cell? ⟨q + 1 + 1, 2, none⟩ = some (.slice none 0 0) := HRR.out.cell (i := 2) (by omega)
      have g0 := HRR.out.frozen 0; have g1 := HRR.out.frozen 1; have g2 := HRR.out.frozen 2
      have lr : LtW (q + 1 + 1) wr := HRR.out.lt
      have H9 := Lib.hid h9; have G9 := Lib.hid g9
      clear h9 g9 rm s0 s1 m0 ls lm f3
      go_wp2
      refine bodyPost_ret (v := .tuple #[.agg #[.int .i64 (W), .int .i64 (H), .slice a9 k c9], .int .i64 (0)]) (by simp [results, Try.results29, go_sem, r0, r1, r2]) rfl ?_
      unfold ClPost
      refine .inl ⟨HOK.out, a9, c9, rfl, ?_, ?_⟩
      · exact okT_setK (okT_setK (okT_setK H9.out fun b o e => by have := G9.out b o e; omega) fun b o e => by have := G9.out b o e; omega) fun b o e => by have := G9.out b o e; omega
      · rw [HQ.out]
        exact ((HBW.out.setCell (by show q ≤ q + 1 + 1; omega) _).setCell (by show q ≤ q + 1 + 1; omega) _).setCell (by show q ≤ q + 1 + 1; omega) _
end Go.Proofs.Yticplgjpflaelaa
