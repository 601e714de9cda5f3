/- Lemmas on which the law of this seat rests; each states its own conditions. -/
import Derived.Test.YtajdoobkfbdgoaaDoorC06
import Derived.Test.YtajdoobkfbdgoaaDoorC19
import Derived.Test.YtajdoobkfbdgoaaDoorC01
import Derived.Test.YtajdoobkfbdgoaaDoorC10
import Derived.Test.YtajdoobkfbdgoaaDoorC15
import Derived.Test.YtajdoobkfbdgoaaDoorC17
import Derived.Test.YtajdoobkfbdgoaaDoorC12
import Derived.Test.YtajdoobkfbdgoaaDoorC07
import Derived.Test.YtajdoobkfbdgoaaDoorC05
import Derived.Test.YtajdoobkfbdgoaaDoorC04
set_option linter.unusedVariables false
set_option linter.unusedSimpArgs false
namespace Go.Proofs.YtajdoobkfbdgoaaDoor
section
open Go.RowKit
def IntRow (w : World) (v : Value) (zs : List Int) : Prop :=
 (v = .slice none 0 0 ∧ zs = []) ∨ ∃ g cap f c, v = .slice (some ⟨g, 0, none⟩) zs.length c ∧ w.rowIs g 3 cap f ∧ zs.length ≤ cap ∧ ∀ j, j < zs.length → f j = .int .i64 (zs.getD j 0)
def OutL (base : Nat) (v : Value) (LL : List (List Int)) (w : World) : Prop :=
 ∃ vs : List Value, w.ownsRow base 23 1 v LL.length vs ∧ ∀ j, j < LL.length → IntRow w (vs.getD j (.slice none 0 0)) (LL.getD j [])
def natLL (LL : List (List Nat)) : List (List Int) := LL.map natI
end
section
open Go.RowKit
open By (bytesOf hasAt sgL encN decL colAt rowF RowR readS rowsF RdR hdR)
structure RJ (q q1 cb base : Nat) (w0 : World) (G : Int) (LL : List (List Nat)) (v : Value) (w : World) : Prop where
 res : w.rowIs q 25 4 (ctF 0 0 0 (.slice none 0 0))
 flt : w.rowIs q1 28 2 (ftF 0 0)
 row : w.rowIs cb 25 4 (ctF G 0 0 (.slice none 0 0))
 out : OutL base v (natLL LL) w
 bel : Below q w0 w
 siz : base ≤ w.heap.size
structure RK (cb : Nat) (w3 : World) (G wd ht : Int) (acc : List Nat) (v : Value) (w : World) : Prop where
 row : w.rowIs cb 25 4 (ctF G wd ht v)
 own : w.ownsRow w3.heap.size 3 1 v acc.length (colsV acc)
 bel : BelowX w3.heap.size cb w3 w
end
section
open Go.RowKit
def nmB (k : Int) : ByteArray := ([⟨#[112, 49]⟩, ⟨#[112, 50]⟩, ⟨#[112, 109]⟩, ⟨#[112, 103]⟩, ⟨#[99, 109]⟩, ⟨#[112, 109, 109]⟩, ⟨#[112, 109, 103]⟩, ⟨#[112, 103, 103]⟩, ⟨#[99, 109, 109]⟩, ⟨#[112, 52]⟩, ⟨#[112, 52, 109]⟩, ⟨#[112, 52, 103]⟩, ⟨#[112, 51]⟩, ⟨#[112, 51, 109, 49]⟩, ⟨#[112, 51, 49, 109]⟩, ⟨#[112, 54]⟩, ⟨#[112, 54, 109]⟩] : List ByteArray).getD (k.toNat - 1) ⟨#[]⟩
def nmV (k : Int) : Value := if k < 1 ∨ 17 < k then .tuple #[.string ⟨#[]⟩, .int .i64 1] else .tuple #[.string (nmB k), .int .i64 0]
set_option maxRecDepth 100000 in
set_option maxHeartbeats 8000000 in
theorem Name_any (k : Int) (w : World) : Calls Tryd.prog 20 #[.int .i64 (k)] w fun e w' => e = .returned (nmV k) ∧ Below w.heap.size w w' := by
 by_cases h : k < 1 ∨ 17 < k
 ·skip
  by_cases h1 : k < 1
  ·have d1 : decide (k < 1) = true := by simpa using h1
   go_enter Tryd.func20, Tryd.ntmps20
   go_wp2
   refine bodyPost_ret (v := .tuple #[.string ⟨#[]⟩, .int .i64 1]) (by simp [results, Tryd.results20, go_sem]) rfl ⟨by unfold nmV; rw [if_pos (.inl h1)], blw⟩
  ·have h2 : 17 < k := by omega
   have d1 : decide (k < 1) = false := by simpa using h1
   have d2 : decide (17 < k) = true := by simpa using h2
   go_enter Tryd.func20, Tryd.ntmps20
   go_wp2
   refine bodyPost_ret (v := .tuple #[.string ⟨#[]⟩, .int .i64 1]) (by simp [results, Tryd.results20, go_sem]) rfl ⟨by unfold nmV; rw [if_pos (.inr h2)], blw⟩
 ·skip
  have hK : k = 1 ∨ k = 2 ∨ k = 3 ∨ k = 4 ∨ k = 5 ∨ k = 6 ∨ k = 7 ∨ k = 8 ∨ k = 9 ∨ k = 10 ∨ k = 11 ∨ k = 12 ∨ k = 13 ∨ k = 14 ∨ k = 15 ∨ k = 16 ∨ k = 17 := by omega
  clear h
  rcases hK with rfl | rfl | rfl | rfl | rfl | rfl | rfl | rfl | rfl | rfl | rfl | rfl | rfl | rfl | rfl | rfl | rfl
  all_goals
   go_enter Tryd.func20, Tryd.ntmps20
   go_wp2
   refine bodyPost_ret (v := _) (by simp [results, Tryd.results20, go_sem, nmV, nmB]) rfl ⟨rfl, blw⟩
end
section
open Go.RowKit
open Z (torN place pnt Mv To lin okT nrm keepB colP idm md redM both inv stK Sid Upw movesL turnsF waysF kindP alongB)
open By (readS RowsOk)
theorem read_okH {B : List Nat} (hB : ∀ x ∈ B, x < 256) {G : Nat} {rows : List (List Nat)} (h : readS B = (G, .ok rows)) : ChOk G (rows.headD []).length rows.length rows.reverse.flatten.length (natI rows.reverse.flatten) := by
 obtain ⟨hG, W, h0, h1, h2, h3, h4, _⟩ := By.print_read hB h
 have hW : (rows.headD []).length = W := by
  cases rows with
  | nil => simp at h3
  | cons r rs => exact h2.w r (List.mem_cons_self ..)
 have hfl : rows.reverse.flatten.length = W * rows.length := by
  have : ∀ l : List (List Nat), (∀ r ∈ l, r.length = W) → l.flatten.length = W * l.length := fun l => by
   induction l with
   | nil => simp
   | cons r l ih =>
    intro hl
    rw [List.flatten_cons, List.length_append, ih (fun x hx => hl x (List.mem_cons_of_mem _ hx)), hl r (List.mem_cons_self ..), List.length_cons, Nat.mul_succ, Nat.add_comm]
  rw [this rows.reverse (fun r hr => h2.w r (by simpa using hr)), List.length_reverse]
 rw [hW]
 refine ⟨hG, h0, h1, h3, h4, hfl, fun x hx => ?_⟩
 unfold natI at hx
 obtain ⟨k, hk, rfl⟩ := List.mem_map.1 hx
 obtain ⟨r, hr, hkr⟩ := List.mem_flatten.1 hk
 have := h2.c r (by simpa using hr) k hkr
 omega
end
section
open Go.RowKit
def rsL (cs : List Int) (k : Nat) : List Bool := (cs.take k).map fun x => !decide (x = 0)
def rsB (cs : List Int) : List Bool := cs.map fun x => !decide (x = 0)
theorem rsL_succ {cs : List Int} {k : Nat} (hk : k < cs.length) : rsL cs (k + 1) = rsL cs k ++ [!decide (cs.getD k 0 = 0)] := by
 have h : cs.take (k + 1) = cs.take k ++ [cs[k]] := by rw [List.take_add_one, List.getElem?_eq_getElem hk]; rfl
 have h2 : cs.getD k 0 = cs[k] := by rw [List.getD_eq_getElem?_getD, List.getElem?_eq_getElem hk]; rfl
 unfold rsL; rw [h, h2, List.map_append]; rfl
theorem rsL_len {cs : List Int} {k : Nat} (hk : k ≤ cs.length) : (rsL cs k).length = k := by unfold rsL; rw [List.length_map, List.length_take, Nat.min_eq_left hk]
theorem rsL_all (cs : List Int) : rsL cs cs.length = rsB cs := by unfold rsL rsB; rw [List.take_length]
def RsPost (W H : Int) (L : List Bool) (w : World) (r : Ending) (w' : World) : Prop :=
 ∃ A C, r = .returned (.agg #[.int .i64 (W), .int .i64 (H), .slice A L.length C]) ∧ OkT w' A L.length C L ∧ Below w.heap.size w w' ∧ ∀ b o, A = some ⟨b, o, none⟩ → w.heap.size ≤ b
set_option maxRecDepth 100000 in
set_option maxHeartbeats 8000000 in
theorem raised_ok (G W H : Int) (a : Option Addr) (n c : Nat) (cs : List Int) (w : World) (hI : IsInts w a n cs) (hn : n ≤ 4096) (hp : ∀ k, k < n → 0 ≤ cs.getD k 0) :
  Calls Tryd.prog 23 #[.agg #[.int .i64 (G), .int .i64 (W), .int .i64 (H), .slice a n c]] w (RsPost W H (rsB cs) w) := by
 have HP := Lib.hid hp
 have HI0 := Lib.hid hI
 clear hp
 have HI := Lib.hid (hI.below (w' := ((w.alloc (.cells #[.int .i64 G, .int .i64 W, .int .i64 H, .slice a n c] 25)).alloc (.cells #[.int .i64 0, .int .i64 0, .slice none 0 0] 33)).alloc (.cells #[.int .i64 W, .int .i64 H, .slice none 0 0] 33)) blw)
 have hlen := hI.1
 have HLN := Lib.hid hlen
 have HALL := Lib.hid (rsL_all cs)
 rw [hlen] at HALL
 have HNL := Lib.hid (rsL_len (cs := cs) (k := n) (by omega))
 have HLE := Lib.hid (fun k (hk : k ≤ n) => rsL_len (cs := cs) (k := k) (by omega))
 have HSU := Lib.hid (fun k (hk : k < n) => rsL_succ (cs := cs) (k := k) (by omega))
 clear hI
 go_enter Tryd.func23, Tryd.ntmps23
 go_wp2_with fail
 obtain ⟨W1, hW1⟩ : ∃ W1, ((w.alloc (.cells #[.int .i64 G, .int .i64 W, .int .i64 H, .slice a n c] 25)).alloc (.cells #[.int .i64 0, .int .i64 0, .slice none 0 0] 33)).alloc (.cells #[.int .i64 W, .int .i64 H, .slice none 0 0] 33) = W1 := ⟨_, rfl⟩
 have hb1 : Below w.heap.size w W1 := by rw [← hW1]; exact blw
 have hsz : W1.heap.size = w.heap.size + 3 := by rw [← hW1]; simp
 have hr3 : W1.rowIs (w.heap.size + 2) 33 3 (tF W H (.slice none 0 0)) := by
  rw [← hW1]
  have := tF_alloc ((w.alloc (.cells #[.int .i64 G, .int .i64 W, .int .i64 H, .slice a n c] 25)).alloc (.cells #[.int .i64 0, .int .i64 0, .slice none 0 0] 33)) W H (.slice none 0 0) rfl
  rwa [World.size_alloc, World.size_alloc] at this
 have hr2 : W1.rowIs (w.heap.size + 1) 33 3 (tF 0 0 (.slice none 0 0)) := by
  rw [← hW1]
  have := tF_alloc (w.alloc (.cells #[.int .i64 G, .int .i64 W, .int .i64 H, .slice a n c] 25)) 0 0 (.slice none 0 0) rfl
  rw [World.size_alloc] at this
  exact rowBelow this ((Below.refl _ _).alloc (Nat.le_refl _) _) (by simp)
 rw [hW1] at HI ⊢
 have HR2 := Lib.hid hr2
 have HR3 := Lib.hid hr3
 have HB1 := Lib.hid hb1
 have HSZ := Lib.hid hsz
 clear hW1 hr2 hr3 hb1 hsz hlen
 obtain ⟨mb, hmb⟩ : ∃ mb, mb = w.heap.size + 2 := ⟨_, rfl⟩
 obtain ⟨rb, hrb⟩ : ∃ rb, rb = w.heap.size + 1 := ⟨_, rfl⟩
 have hmr : rb < mb := by omega
 have hmW : mb < W1.heap.size := by have := HSZ.out; omega
 have hwr : w.heap.size < rb := by omega
 rw [← hmb] at HR3 ⊢
 rw [← hrb] at HR2 ⊢
 have HWM : Hid (w.heap.size < W1.heap.size) := Lib.hid (by omega)
 clear hmb hrb
 go_loopw [14] (fun iv wr => ∃ (k : Nat) (v : Value), k ≤ n ∧ iv = .int .i64 k ∧ Hid (FB W1.heap.size mb W H (rsL cs k) W1 v wr)) (fun iv _ => n - (intOf iv).toNat)
 case atStart => exact ⟨0, .slice none 0 0, by omega, rfl, Lib.hid ⟨HR3.out, World.ownsRow_nil _ _ _ _, BelowX.refl (Nat.le_refl _)⟩⟩
 case round =>
  obtain ⟨k, v, hk, rfl, HF⟩ := hrel
  by_cases hkn : k < n
  ·have dk : decide ((k : Int) < (n : Int)) = true := by simpa using hkn
   have vk : IntKind.i64.wrap ((k : Int) + 1) = (k : Int) + 1 := IntWalk.i64_in _ (by omega)
   obtain ⟨b, o, rfl, hbb, hc⟩ := HI.out.2 (by omega)
   obtain ⟨hr0, ho0, hx0⟩ := HF.out
   have hbm : b ≠ mb := fun e => by
    obtain ⟨b', o', e', h2, h3⟩ := HI0.out.2 (by omega)
    injection e' with e'; injection e' with e1 e2
    omega
   have c0 : wr.cell? ⟨b, o + k, none⟩ = some (.int .i64 (cs.getD k 0)) := (World.cell?_of_block (hx0.block b hbb hbm)).trans (hc k hkn)
   have lb : LtW b wr := Nat.lt_of_lt_of_le hbb hx0.size
   have hs1 := HSU.out k hkn
   rw [HLE.out k (by omega)] at ho0
   have cM : wr.cell? ⟨mb, 2, none⟩ = some v := hr0.cell (i := 2) (by omega)
   have fM := hr0.frozen 2
   have lm : LtW mb wr := hr0.lt
   have HO := Lib.hid ho0
   have HX := Lib.hid hx0
   have HR := Lib.hid hr0
   have hxs := hx0.size
   obtain ⟨x, hx⟩ : ∃ x, cs.getD k 0 = x := ⟨_, rfl⟩
   rw [hx] at c0 hs1
   have hxp : 0 ≤ x := by rw [← hx]; exact HP.out k hkn
   have HS1 := Lib.hid hs1
   clear hr0 ho0 hx0 hc hs1 hx HF
   obtain ⟨bit, hbit⟩ : ∃ bit, (!decide (x = 0)) = bit := ⟨_, rfl⟩
   have b1 : (x != 0) = bit := by rw [← hbit]; by_cases e : x = 0 <;> simp [e]
   have b2 : decide (0 < x) = bit := by rw [← hbit]; by_cases e : x = 0 <;> simp [e]; omega
   rw [hbit] at HS1
   clear hbit hxp
   go_wp2_with (at_builtin; refine wpApp okBools rfl (.tmp 19) (.tmp 22) rfl W1.heap.size _ _ _ #[.bool bit] rfl HO.out rfl rfl ?_ (by omega) (by omega) hxs ?_)
   ·simp [Value.oneCell']
   intro v' w2 hown2 hb2
   obtain ⟨A', cp', rfl⟩ := own_form hown2
   have hbe := Below.refl wr.heap.size wr
   have cM2 : w2.cell? ⟨mb, 2, none⟩ = some v := (hb2.cell (p := ⟨mb, 2, none⟩) (by simp; omega)).trans cM
   have fM2 : w2.frozen? ⟨mb, 2, none⟩ = false := (hb2.frozen (p := ⟨mb, 2, none⟩) (by simp; omega)).trans fM
   have lm2 : LtW mb w2 := Nat.lt_of_lt_of_le lm hb2.size
   have HNW := Lib.hid (FB.app HR.out HX.out hbe (by omega) hown2 hb2)
   clear hown2 hb2 cM fM hbe c0
   go_wp2
   go_roundw
   case rel => exact ⟨k + 1, _, by omega, by go_num, by rw [HS1.out]; exact HNW.out⟩
   case measure => simp [intOf]; omega
  ·obtain rfl : k = n := by omega
   have dk : decide ((k : Int) < (k : Int)) = false := by simp
   rw [HALL.out] at HF
   obtain ⟨hr0, ho0, hx0⟩ := HF.out
   obtain ⟨A, C, rfl, hT, hfr⟩ := OkT.of_owns ho0
   have hnl : (rsB cs).length = k := by rw [← HALL.out]; exact HNL.out
   have m0 : wr.cell? ⟨mb, 0, none⟩ = some (.int .i64 (W)) := hr0.cell (i := 0) (by omega)
   have m1 : wr.cell? ⟨mb, 1, none⟩ = some (.int .i64 (H)) := hr0.cell (i := 1) (by omega)
   have m2 : wr.cell? ⟨mb, 2, none⟩ = some (.slice A (rsB cs).length C) := hr0.cell (i := 2) (by omega)
   have rr := hx0.rowIs HR2.out (by omega) (by omega)
   have r0 : wr.cell? ⟨rb, 0, none⟩ = some (.int .i64 (0)) := rr.cell (i := 0) (by omega)
   have r1 : wr.cell? ⟨rb, 1, none⟩ = some (.int .i64 (0)) := rr.cell (i := 1) (by omega)
   have r2 : wr.cell? ⟨rb, 2, none⟩ = some (.slice none 0 0) := rr.cell (i := 2) (by omega)
   have f0 := rr.frozen 0; have f1 := rr.frozen 1; have f2 := rr.frozen 2
   have lr : LtW rb wr := rr.lt
   have lm : LtW mb wr := hr0.lt
   have HTT := Lib.hid hT
   have HFR := Lib.hid hfr
   have hbel : Below w.heap.size w wr := HB1.out.trans (hx0.below rfl (by omega) (by omega))
   have HBL := Lib.hid hbel
   have hxs := hx0.size
   clear hr0 ho0 hx0 rr hT hfr hbel HF HALL HI HI0 HLE HSU HNL hnl
   go_wp2
   refine bodyPost_ret (v := .agg #[.int .i64 (W), .int .i64 (H), .slice A (rsB cs).length C]) (by simp [results, Tryd.results23, go_sem, r0, r1, r2]) rfl ?_
   refine ⟨A, C, rfl, ?_, ?_, fun b o e => by have := HFR.out b o e; have := HWM.out; omega⟩
   ·have BX := (((BelowX.refl (base := wr.heap.size) (mb := rb) (W := wr) (Nat.le_refl _)).set 0 (.int .i64 (W))).set 1 (.int .i64 (H))).set 2 (.slice A (rsB cs).length C)
    exact BX.okT HTT.out rfl (fun b o e => by have := HFR.out b o e; omega)
   ·exact ((HBL.out.setCell (by simp; omega) _).setCell (by simp; omega) _).setCell (by simp; omega) _
end
section
def gS (R : Nat → List Bool) : Nat → List (List Bool) × List Nat
 | 0 => ([], [])
 | y + 1 => (if fIdx (gS R y).1 (R y) < (gS R y).1.length then (gS R y).1 else (gS R y).1 ++ [R y], (gS R y).2 ++ [fIdx (gS R y).1 (R y)])
theorem gS_succ (R : Nat → List Bool) (y : Nat) : gS R (y+1) = (if fIdx (gS R y).1 (R y) < (gS R y).1.length then (gS R y).1 else (gS R y).1 ++ [R y], (gS R y).2 ++ [fIdx (gS R y).1 (R y)]) := rfl
theorem getD_l {L M : List Nat} {z : Nat} (h : z < L.length) : (L ++ M).getD z 0 = L.getD z 0 := by
 rw [List.getD_eq_getElem?_getD, List.getD_eq_getElem?_getD, List.getElem?_append_left h]
theorem getD_r {L : List Nat} {k : Nat} : (L ++ [k]).getD L.length 0 = k := by
 rw [List.getD_eq_getElem?_getD, List.getElem?_append_right (Nat.le_refl _)]; simp
theorem aFold_gS (H W : Nat) (bs : List Bool) : ∀ y, y ≤ H → (aFold H W bs ((List.finRange H).take y)).1.map (fun z => rowL bs W z.val) = (gS (rowL bs W) y).1 ∧ (aFold H W bs ((List.finRange H).take y)).2 = (gS (rowL bs W) y).2 := by
 intro y
 induction y with
 | zero => intro _; simp [aFold, gS]
 | succ y ih =>
  intro hy
  obtain ⟨h1, h2⟩ := ih (by omega)
  have e : (List.finRange H).take (y+1) = (List.finRange H).take y ++ [⟨y, hy⟩] := by
   rw [List.take_add_one, List.getElem?_eq_getElem (by simp; omega)]
   simp
  have hl : (aFold H W bs ((List.finRange H).take y)).1.length = (gS (rowL bs W) y).1.length := by rw [← h1, List.length_map]
  rw [e, aFold_snoc]
  unfold aStep
  simp only [h1, h2, hl]
  rw [gS_succ]
  simp only
  refine ⟨?_, trivial⟩
  split
  ·exact h1
  ·rw [List.map_append, h1]; rfl
theorem alike_gS (W H : Nat) (bs : List Bool) : alikeL W H bs = (gS (rowL bs W) H).2 := by
 unfold alikeL
 rw [← (aFold_gS H W bs H (Nat.le_refl _)).2, List.take_of_length_le (by simp)]
theorem gS_len (R : Nat → List Bool) (y : Nat) : (gS R y).2.length = y := by
 induction y with
 | zero => rfl
 | succ y ih => rw [gS_succ]; simp [ih]
theorem fIdx_app {K : List (List Bool)} {L : List (List Bool)} {r : List Bool} (h : fIdx K r < K.length) : fIdx (K ++ L) r = fIdx K r := by
 unfold fIdx at *
 rw [List.findIdx_append, if_pos h]
theorem fIdx_new {K : List (List Bool)} {r : List Bool} (h : ¬ fIdx K r < K.length) : fIdx (K ++ [r]) r = K.length := by
 unfold fIdx at *
 rw [List.findIdx_append, if_neg h]
 simp [List.findIdx_cons]
theorem gS_at (R : Nat → List Bool) : ∀ y z, z < y → (gS R y).2.getD z 0 = fIdx (gS R y).1 (R z) ∧ fIdx (gS R y).1 (R z) < (gS R y).1.length := by
 intro y
 induction y with
 | zero => intro z h; omega
 | succ y ih =>
  intro z hz
  have hl := gS_len R y
  have hle := fIdx_le (gS R y).1 (R y)
  rw [gS_succ]
  simp only
  rcases Nat.lt_or_ge z y with h | h
  ·obtain ⟨h1, h2⟩ := ih z h
   rw [getD_l (by omega), h1]
   split
   ·exact ⟨rfl, h2⟩
   ·rw [fIdx_app h2]
    exact ⟨rfl, by simp; omega⟩
  ·obtain rfl : z = y := by omega
   have e : ((gS R z).2 ++ [fIdx (gS R z).1 (R z)]).getD z 0 = fIdx (gS R z).1 (R z) := by
    have := getD_r (L := (gS R z).2) (k := fIdx (gS R z).1 (R z))
    rwa [hl] at this
   rw [e]
   split
   ·rename_i h3; exact ⟨rfl, h3⟩
   ·rename_i h3
    rw [fIdx_new h3]
    exact ⟨by omega, by simp⟩
theorem gS_mem (R : Nat → List Bool) : ∀ y l, l ∈ (gS R y).1 → ∃ z, z < y ∧ R z = l := by
 intro y
 induction y with
 | zero => intro l h; simp [gS] at h
 | succ y ih =>
  intro l h
  rw [gS_succ] at h
  simp only at h
  split at h
  ·obtain ⟨z, h1, h2⟩ := ih l h
   exact ⟨z, by omega, h2⟩
  ·rcases List.mem_append.1 h with h | h
   ·obtain ⟨z, h1, h2⟩ := ih l h
    exact ⟨z, by omega, h2⟩
   ·exact ⟨y, by omega, (List.mem_singleton.1 h).symm⟩
theorem natI_getD (L : List Nat) (z : Nat) : (natI L).getD z 0 = ((L.getD z 0 : Nat) : Int) := by
 unfold natI
 rw [List.getD_eq_getElem?_getD, List.getD_eq_getElem?_getD, List.getElem?_map]
 cases L[z]? <;> rfl
end
section
open Go.RowKit
def usedN {α : Type} [DecidableEq α] (f : Nat → α) : Nat → Nat
 | 0 => 0
 | k + 1 => usedN f k + (if ∀ j, j < k → f j ≠ f k then 1 else 0)
section
variable {α β : Type} [DecidableEq α] [DecidableEq β]
theorem usedN_le {f : Nat → α} {g : Nat → β} : ∀ k, (∀ i j, i < k → j < k → g i = g j → f i = f j) → usedN f k ≤ usedN g k := by
 intro k
 induction k with
 | zero => intro _; exact Nat.le_refl _
 | succ k ih =>
  intro h
  have h1 := ih fun i j hi hj => h i j (by omega) (by omega)
  show usedN f k + (if ∀ j, j < k → f j ≠ f k then 1 else 0) ≤ usedN g k + (if ∀ j, j < k → g j ≠ g k then 1 else 0)
  by_cases hf : ∀ j, j < k → f j ≠ f k
  ·rw [if_pos hf, if_pos (fun j hj e => hf j hj (h j k (by omega) (by omega) e))]; omega
  ·rw [if_neg hf]; split <;> omega
theorem usedN_eq {f : Nat → α} {g : Nat → β} {k : Nat} (h : ∀ i j, i < k → j < k → (g i = g j ↔ f i = f j)) : usedN f k = usedN g k :=
 Nat.le_antisymm (usedN_le k fun i j hi hj e => (h i j hi hj).1 e) (usedN_le k fun i j hi hj e => (h i j hi hj).2 e)
end
theorem gS_pre (R : Nat → List Bool) {y z H : Nat} (hz : z < y) (hy : y ≤ H) : (gS R H).2.getD z 0 = (gS R y).2.getD z 0 := by
  induction H with
  | zero => obtain rfl : y = 0 := by omega
            rfl
  | succ H ih =>
    by_cases e : y = H + 1
    · rw [e]
    · rw [gS_succ]
      simp only
      rw [getD_l (by rw [gS_len]; omega)]
      exact ih (by omega)
theorem gS_num (R : Nat → List Bool) {y H : Nat} (hy : y < H) : (gS R H).2.getD y 0 = fIdx (gS R y).1 (R y) := by
 rw [gS_pre R (y := y + 1) (by omega) (by omega), gS_succ]
 have := getD_r (L := (gS R y).2) (k := fIdx (gS R y).1 (R y))
 rwa [gS_len] at this
theorem fIdx_inj {K : List (List Bool)} {r s : List Bool} (hr : fIdx K r < K.length) (h : fIdx K r = fIdx K s) : r = s := by
 have hs : fIdx K s < K.length := by omega
 have e1 := List.findIdx_getElem (xs := K) (p := fun l => decide (l = r)) (w := hr)
 have e2 := List.findIdx_getElem (xs := K) (p := fun l => decide (l = s)) (w := hs)
 simp only [decide_eq_true_eq] at e1 e2
 rw [← e1, ← e2]
 congr 1
theorem num_iff (R : Nat → List Bool) {i j H : Nat} (hi : i < H) (hj : j < H) : (gS R H).2.getD i 0 = (gS R H).2.getD j 0 ↔ R i = R j := by
 obtain ⟨e1, l1⟩ := gS_at R H i hi
 obtain ⟨e2, l2⟩ := gS_at R H j hj
 rw [e1, e2]
 exact ⟨fun h => fIdx_inj l1 h, fun h => by rw [h]⟩
theorem mem_gS (R : Nat → List Bool) {y z : Nat} (h : z < y) : R z ∈ (gS R y).1 := by
 obtain ⟨_, l⟩ := gS_at R y z h
 have e := List.findIdx_getElem (xs := (gS R y).1) (p := fun l => decide (l = R z)) (w := l)
 simp only [decide_eq_true_eq] at e
 rw [← e]; exact List.getElem_mem _
theorem fIdx_lt_iff {K : List (List Bool)} {r : List Bool} : fIdx K r < K.length ↔ r ∈ K := by
 unfold fIdx
 rw [List.findIdx_lt_length]
 constructor
 ·rintro ⟨x, hx, e⟩
  simp only [decide_eq_true_eq] at e
  rw [← e]; exact hx
 ·intro h; exact ⟨r, h, by simp⟩
theorem gS_used (R : Nat → List Bool) (y : Nat) : (gS R y).1.length = usedN R y := by
 induction y with
 | zero => rfl
 | succ y ih =>
  rw [gS_succ]
  show _ = usedN R y + (if ∀ j, j < y → R j ≠ R y then 1 else 0)
  simp only
  by_cases h : fIdx (gS R y).1 (R y) < (gS R y).1.length
  ·rw [if_pos h]
   obtain ⟨z, hz, e⟩ := gS_mem R y _ (fIdx_lt_iff.1 h)
   rw [if_neg (fun hh => hh z hz e)]; omega
  ·rw [if_neg h, List.length_append, ih]
   rw [if_pos (fun j hj e => h (fIdx_lt_iff.2 (by rw [← e]; exact mem_gS R hj)))]
   rfl
def frs (l : List Nat) : Nat → List Nat
 | 0 => []
 | k + 1 => if l.getD k 0 = (frs l k).length then frs l k ++ [k] else frs l k
theorem frs_len_le (l : List Nat) (k : Nat) : (frs l k).length ≤ k := by
 induction k with
 | zero => simp [frs]
 | succ k ih =>
  unfold frs
  split
  ·rw [List.length_append, List.length_cons, List.length_nil]; omega
  ·omega
theorem frs_lt (l : List Nat) (k : Nat) : ∀ x ∈ frs l k, x < k := by
 induction k with
 | zero => simp [frs]
 | succ k ih =>
  intro x hx
  unfold frs at hx
  split at hx
  ·rw [List.mem_append, List.mem_singleton] at hx
   rcases hx with h | h
   ·have := ih x h; omega
   ·omega
  ·have := ih x hx; omega
theorem frs_gS (R : Nat → List Bool) {H : Nat} : ∀ y, y ≤ H → (frs (gS R H).2 y).length = (gS R y).1.length ∧ ∀ j, j < (gS R y).1.length → (gS R y).1.getD j [] = R ((frs (gS R H).2 y).getD j 0) := by
 intro y
 induction y with
 | zero => intro _; exact ⟨rfl, fun j h => by simp [gS] at h⟩
 | succ y ih =>
  intro hy
  obtain ⟨h1, h2⟩ := ih (by omega)
  have hn := gS_num R (y := y) (H := H) (by omega)
  have hle := fIdx_le (gS R y).1 (R y)
  rw [gS_succ]
  simp only [frs]
  rw [hn]
  by_cases h : fIdx (gS R y).1 (R y) < (gS R y).1.length
  ·rw [if_pos h, if_neg (by omega)]
   exact ⟨h1, h2⟩
  ·rw [if_neg h, if_pos (by omega)]
   refine ⟨by rw [List.length_append, List.length_append, h1]; rfl, fun j hj => ?_⟩
   rw [List.length_append, List.length_cons, List.length_nil] at hj
   by_cases e : j < (gS R y).1.length
   ·rw [List.getD_eq_getElem?_getD, List.getElem?_append_left e, ← List.getD_eq_getElem?_getD, h2 j e, getD_l (by omega)]
   ·obtain rfl : j = (gS R y).1.length := by omega
    rw [List.getD_eq_getElem?_getD, List.getElem?_append_right (Nat.le_refl _), ← h1, getD_r]
    simp
def trL (W H : Nat) (bs : List Bool) : List Nat := alikeL W H bs
def thL (W H : Nat) (bs : List Bool) : List Nat := alikeL H W (turnL W H bs)
def picks (W H : Nat) (bs : List Bool) : List Nat := frs (trL W H bs) H
def ends (W H : Nat) (bs : List Bool) : List Nat := frs (thL W H bs) W
def tieL (W H : Nat) (bs : List Bool) : List Bool := ((picks W H bs).map fun y => (ends W H bs).map fun x => bs.getD (y * W + x) false).flatten
def ddL (W : Nat) (tie : List Bool) (th tr : List Nat) : List Bool := (tr.map fun t => th.map fun s => tie.getD (t * W + s) false).flatten
theorem grid_get {l m : List Nat} {f : Nat → Nat → Bool} : ∀ {y x : Nat}, y < l.length → x < m.length → ((l.map fun a => m.map fun b => f a b).flatten).getD (y * m.length + x) false = f (l.getD y 0) (m.getD x 0) := by
 induction l with
 | nil => intro y x hy; simp at hy
 | cons a l ih =>
  intro y x hy hx
  rw [List.map_cons, List.flatten_cons]
  cases y with
  | zero =>
   rw [Nat.zero_mul, Nat.zero_add, List.getD_eq_getElem?_getD, List.getElem?_append_left (by simpa using hx), List.getElem?_map, List.getElem?_eq_getElem hx]
   simp [List.getD, hx]
  | succ y =>
   rw [List.getD_eq_getElem?_getD, List.getElem?_append_right (by rw [List.length_map, Nat.add_mul]; omega), List.length_map, show (y + 1) * m.length + x - m.length = y * m.length + x by rw [Nat.add_mul]; omega, ← List.getD_eq_getElem?_getD]
   exact ih (by simpa using hy) hx
theorem grid_len {l m : List Nat} {f : Nat → Nat → Bool} : ((l.map fun a => m.map fun b => f a b).flatten).length = m.length * l.length := by
 induction l with
 | nil => simp
 | cons a l ih => rw [List.map_cons, List.flatten_cons, List.length_append, List.length_map, ih, List.length_cons, Nat.mul_add]; omega
theorem thL_len (W H : Nat) (bs : List Bool) : (thL W H bs).length = W := alikeL_len _ _ _
theorem trL_len (W H : Nat) (bs : List Bool) : (trL W H bs).length = H := alikeL_len _ _ _
theorem getD_memN {L : List Nat} {j : Nat} (h : j < L.length) : L.getD j 0 ∈ L := by
 rw [List.getD_eq_getElem?_getD, List.getElem?_eq_getElem h]; exact List.getElem_mem h
theorem used_tr {W H : Nat} {bs : List Bool} : usedN (fun i => (trL W H bs).getD i 0) H = (picks W H bs).length ∧ usedN (rowL bs W) H = (picks W H bs).length := by
 have h1 : usedN (rowL bs W) H = (picks W H bs).length := by
  rw [← gS_used]
  unfold picks trL
  rw [alike_gS]
  exact ((frs_gS (rowL bs W) (H := H) H (Nat.le_refl _)).1).symm
 refine ⟨?_, h1⟩
 rw [← h1]
 refine usedN_eq fun i j hi hj => ?_
 unfold trL
 rw [alike_gS]
 exact (num_iff (rowL bs W) hi hj).symm
theorem used_th {W H : Nat} {bs : List Bool} : usedN (fun i => (thL W H bs).getD i 0) W = (ends W H bs).length ∧ usedN (rowL (turnL W H bs) H) W = (ends W H bs).length := used_tr (W := H) (H := W) (bs := turnL W H bs)
end
section
open Go.RowKit
def dF (v0 : Value) (W H : Int) (v3 v4 : Value) : Nat → Value := fun j => if j = 0 then v0 else if j = 1 then .int .i64 W else if j = 2 then .int .i64 H else if j = 3 then v3 else v4
theorem dF_alloc (w : World) (v0 : Value) (W H : Int) (v3 v4 : Value) : (w.alloc (.cells #[v0, .int .i64 W, .int .i64 H, v3, v4] 35)).rowIs w.heap.size 35 5 (dF v0 W H v3 v4) :=
 World.rowIs_alloc w #[v0, .int .i64 W, .int .i64 H, v3, v4] 35 (dF v0 W H v3 v4) (by
  intro i hi
  have hi5 : i = 0 ∨ i = 1 ∨ i = 2 ∨ i = 3 ∨ i = 4 := by simp at hi; omega
  rcases hi5 with rfl | rfl | rfl | rfl | rfl <;> rfl)
end
section
open Go.RowKit
open Lo
theorem natI_getN (L : List Nat) (j : Nat) : (natI L).getD j 0 = ((L.getD j 0 : Nat) : Int) := natI_getD L j
def ddF (W nt : Nat) (tie : List Bool) (th tr : List Nat) (p : Nat) : Bool := tie.getD (tr.getD (p / nt) 0 * W + th.getD (p % nt) 0) false
theorem ddF_at {W nt x y : Nat} {tie : List Bool} {th tr : List Nat} (hx : x < nt) : ddF W nt tie th tr (y * nt + x) = tie.getD (tr.getD y 0 * W + th.getD x 0) false := by unfold ddF; rw [dm1 hx, dm2 hx]
theorem dd_bT {W : Nat} {tie : List Bool} {th tr : List Nat} : bT (ddF W th.length tie th tr) (tr.length * th.length) = ddL W tie th tr := by
 refine grid_ext (W := th.length) (H := tr.length) (by rw [bT_len, Nat.mul_comm]) (by unfold ddL; rw [grid_len]) fun y x hy hx => ?_
 have h1 := place_lt' hx hy
 rw [bT_get _ (by rw [Nat.mul_comm tr.length]; exact h1), ddF_at hx]
 unfold ddL
 rw [grid_get hy hx]
def NatsPost (L : List Nat) (w : World) (r : Ending) (w' : World) : Prop := ∃ A C, r = .returned (.slice A L.length C) ∧ IsInts w' A L.length (natI L) ∧ Below w.heap.size w w' ∧ ∀ b o, A = some ⟨b, o, none⟩ → w.heap.size ≤ b
set_option maxRecDepth 100000 in
set_option maxHeartbeats 8000000 in
theorem firsts_any (a : Option Addr) (c : Nat) (L : List Nat) (w : World) (hi : IsInts w a L.length (natI L)) (hl : L.length ≤ 64) :
  Calls Tryd.prog 76 #[.slice a L.length c] w (NatsPost (frs L L.length) w) := by
 have HI := Lib.hid hi
 clear hi
 obtain ⟨n, hn⟩ : ∃ n, L.length = n := ⟨_, rfl⟩
 rw [hn] at HI hl ⊢
 have HN := Lib.hid hn
 clear hn
 go_enter Tryd.func76, Tryd.ntmps76
 go_wp2_with fail
 go_loopw [8, 3] (fun i v wr => ∃ k : Nat, k ≤ n ∧ i = .int .i64 k ∧ wr.ownsRow w.heap.size 3 1 v (frs L k).length (natV (frs L k)) ∧ Below w.heap.size w wr) (fun i _ _ => n - (intOf i).toNat)
 case atStart => exact ⟨0, Nat.zero_le _, rfl, World.ownsRow_nil _ _ _ _, Below.refl _ _⟩
 case round =>
  obtain ⟨k, hk, rfl, hown, hbel⟩ := hrel
  obtain ⟨A, cp, rfl⟩ := own_form hown
  have hfl := frs_len_le L k
  have HO := Lib.hid hown; have HB := Lib.hid hbel
  have hsz := hbel.size
  by_cases hkn : k < n
  ·obtain ⟨b, o, rfl, hb, hc⟩ := (HI.out.below hbel).2 (by omega)
   have c0 := hc k hkn
   rw [natI_getN] at c0
   have lb : LtW b wr := hb
   have HF : Hid (frs L (k+1) = if L.getD k 0 = (frs L k).length then frs L k ++ [k] else frs L k) := Lib.hid rfl
   clear hc hb hown hbel
   generalize frs L k = F at *
   generalize L.getD k 0 = x at *
   obtain ⟨fl, hfl2⟩ : ∃ fl, F.length = fl := ⟨_, rfl⟩
   rw [hfl2] at HO hfl HF ⊢
   have HFL := Lib.hid hfl2
   clear hfl2
   by_cases hx : x = fl
   ·have hd : ((x : Int) == (fl : Int)) = true := by simp [hx]
    have hd2 : (x == fl) = true := by simp [hx]
    have HF2 := Lib.hid (HF.out.trans (if_pos hx))
    clear hx
    go_wp2_with (at_builtin; refine wpApp okInts' rfl (.tmp 17) (.tmp 19) rfl w.heap.size _ _ _ #[.int .i64 k] rfl HO.out rfl rfl ?_ (by omega) (by omega) hsz ?_)
    ·simp [Value.oneCell']
    intro v' w2 hown2 hb2
    rw [← natV_snoc] at hown2
    have HO2 := Lib.hid hown2
    have HB2 := Lib.hid (HB.out.trans hb2)
    clear hown2 hb2 c0
    go_wp2
    go_roundw
    case rel => exact ⟨k + 1, by omega, by go_num, by rw [HF2.out, List.length_append, HFL.out]; exact HO2.out, HB2.out⟩
    case measure => simp [intOf]; omega
   ·have hd : ((x : Int) == (fl : Int)) = false := by simp; omega
    have hd2 : (x == fl) = false := by simp [hx]
    have HF2 := Lib.hid (HF.out.trans (if_neg hx))
    clear hx
    go_wp2
    go_roundw
    case rel => exact ⟨k + 1, by omega, by go_num, by rw [HF2.out, HFL.out]; exact HO.out, HB.out⟩
    case measure => simp [intOf]; omega
  ·obtain rfl : n = k := by omega
   obtain ⟨A', c', e, hI, hIb⟩ := IsInts.of_natsB hown
   injection e with e1 _ e3
   subst e1 e3
   have HII := Lib.hid hI
   clear hown hbel hI
   generalize frs L n = F at *
   go_wp2
   go_ret
   exact ⟨_, _, rfl, HII.out, HB.out, hIb⟩
end
section
open Go.RowKit
open Lo
end
end Go.Proofs.YtajdoobkfbdgoaaDoor
