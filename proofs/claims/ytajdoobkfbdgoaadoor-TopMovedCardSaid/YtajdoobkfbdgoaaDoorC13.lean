/- Lemmas on which the law of this seat rests; each states its own conditions. -/
import Derived.Test.YtajdoobkfbdgoaaDoorC12
import Derived.Maps.OwnOps
import Derived.Maps.OwnSet
import Derived.Maps.Views
import Derived.Maps.RangeWalk
set_option linter.unusedVariables false
set_option linter.unusedSimpArgs false
namespace Go.Proofs.YtajdoobkfbdgoaaDoor
section
open Go.RowKit
open Go.Proofs.YtajdoobkfbdgoaaDoor.Z
def kptK (L : List Pt) : List Value := L.flatMap fun p => [.int .i64 p.1, .int .i64 p.2]
theorem ptK_snoc (L : List Pt) (p : Pt) : kptK (L ++ [p]) = kptK L ++ [.int .i64 p.1, .int .i64 p.2] := by
 unfold kptK
 rw [List.flatMap_append]
 simp
theorem own_pts {w : World} {base : Nat} {A : Option Addr} {n C : Nat} {L : List Pt} (hn : 0 < n) (h : w.ownsRow base 52 2 (.slice A n C) n (kptK L)) : ∃ g, A = some ⟨g, 0, none⟩ ∧ g < w.heap.size ∧ ∀ r u, r < n * 2 → (kptK L)[r]? = some u → w.cell? ⟨g, r, none⟩ = some u := by
 rcases h.2 with ⟨e, e0⟩ | ⟨g, cap, cur, e, hb, hg, h3, h4, h5, h6⟩
 ·omega
 ·injection e with e1
  refine ⟨g, e1, (Array.getElem?_eq_some_iff.1 hg).1, fun r u hr hu => ?_⟩
  have h7 : cur[r]? = some u := by
   rw [← Array.getElem?_toList, ← List.getElem?_take_of_lt hr, h6]
   exact hu
  simp [World.cell?, hg, h7]
theorem okPtK : ElemOk 71 52 2 16 (.agg #[.int .i64 0, .int .i64 0]) := ⟨Tryd.underlying71, by kernel_rfl, rfl, by omega⟩
theorem rf_To (g : Int) (t : Nat) (z : Pt) : To g ⟨t, true, (0, 0)⟩ z = rf g t z := by
 unfold To rf
 apply ext2 <;> simp [add]
theorem kapply (g : Int) (t : Nat) (x y : Int) (w : World) (hg : g = 4 ∨ g = 6) (ht : t < g.toNat) (hx : 0 ≤ x ∧ x ≤ 24) (hy : 0 ≤ y ∧ y ≤ 24) :
  Calls Tryd.prog 53 #[.int .i64 (g), .agg #[.int .i64 (t), .bool (true), .int .i64 (0), .int .i64 (0)], .agg #[.int .i64 (x), .int .i64 (y)]] w fun e w' => e = .returned (.tuple #[.agg #[.int .i64 ((rf g t (x, y)).1), .int .i64 ((rf g t (x, y)).2)], .int .i64 (0)]) ∧ Below w.heap.size w w' := by
 have := Apply_small g t true 0 0 x y w hg ht hx hy (by omega) (by omega)
 rw [rf_To] at this
 exact this
structure WY (q : Nat) (a c b t : Nat) (ox oy : Int) (w0 w : World) : Prop where
 l : w.rowIs q 117 4 (fun j => if j = 0 then .int .i64 (a : Nat) else if j = 1 then .int .i64 0 else if j = 2 then .int .i64 (c : Nat) else .int .i64 (b : Nat))
 f : w.rowIs (q + 1) 56 4 (fun j => if j = 0 then .int .i64 (t : Nat) else if j = 1 then .bool true else if j = 2 then .int .i64 ox else .int .i64 oy)
 r : w.rowIs (q + 1 + 1) 124 2 (fun _ => .bool false)
 p : w.rowIs (q + 1 + 1 + 1) 52 4 (fun j => if j = 0 then .int .i64 (a : Nat) else if j = 1 then .int .i64 0 else if j = 2 then .int .i64 (c : Nat) else .int .i64 (b : Nat))
 bel : Below w0.heap.size w0 w
theorem WY.grow {q a c b t : Nat} {ox oy : Int} {w0 w w' : World} (h : WY q a c b t ox oy w0 w) (hb : Below w.heap.size w w') : WY q a c b t ox oy w0 w' :=
 ⟨rowBelow h.l hb h.l.lt, rowBelow h.f hb h.f.lt, rowBelow h.r hb h.r.lt, rowBelow h.p hb h.p.lt, h.bel.trans (hb.mono h.bel.size)⟩
theorem row4 (w : World) (u0 u1 u2 u3 : Value) (T : TypeId) : (w.alloc (.cells #[u0, u1, u2, u3] T)).rowIs w.heap.size T 4 (fun j => if j = 0 then u0 else if j = 1 then u1 else if j = 2 then u2 else u3) :=
 World.rowIs_alloc w #[u0, u1, u2, u3] T _ (by
  intro i hi
  have hi2 : i = 0 ∨ i = 1 ∨ i = 2 ∨ i = 3 := by simp at hi; omega
  rcases hi2 with rfl | rfl | rfl | rfl <;> rfl)
theorem row2 (w : World) (u0 u1 : Value) (T : TypeId) : (w.alloc (.cells #[u0, u1] T)).rowIs w.heap.size T 2 (fun j => if j = 0 then u0 else u1) :=
 World.rowIs_alloc w #[u0, u1] T _ (by
  intro i hi
  have hi2 : i = 0 ∨ i = 1 := by simp at hi; omega
  rcases hi2 with rfl | rfl <;> rfl)
theorem WY.start (w : World) (a c b t : Nat) (ox oy : Int) : WY w.heap.size a c b t ox oy w (((((w.alloc (.cells #[.int .i64 (a : Nat), .int .i64 0, .int .i64 (c : Nat), .int .i64 (b : Nat)] 117)).alloc (.cells #[.int .i64 (t : Nat), .bool true, .int .i64 ox, .int .i64 oy] 56)).alloc (.cells #[.bool false, .bool false] 124)).alloc (.cells #[.int .i64 (a : Nat), .int .i64 0, .int .i64 (c : Nat), .int .i64 (b : Nat)] 52))) := by
 have h1 := row4 w (.int .i64 (a : Nat)) (.int .i64 0) (.int .i64 (c : Nat)) (.int .i64 (b : Nat)) 117
 have h2 := row4 (w.alloc (.cells #[.int .i64 (a : Nat), .int .i64 0, .int .i64 (c : Nat), .int .i64 (b : Nat)] 117)) (.int .i64 (t : Nat)) (.bool true) (.int .i64 ox) (.int .i64 oy) 56
 have h3 := row2 ((w.alloc (.cells #[.int .i64 (a : Nat), .int .i64 0, .int .i64 (c : Nat), .int .i64 (b : Nat)] 117)).alloc (.cells #[.int .i64 (t : Nat), .bool true, .int .i64 ox, .int .i64 oy] 56)) (.bool false) (.bool false) 124
 have h4 := row4 (((w.alloc (.cells #[.int .i64 (a : Nat), .int .i64 0, .int .i64 (c : Nat), .int .i64 (b : Nat)] 117)).alloc (.cells #[.int .i64 (t : Nat), .bool true, .int .i64 ox, .int .i64 oy] 56)).alloc (.cells #[.bool false, .bool false] 124)) (.int .i64 (a : Nat)) (.int .i64 0) (.int .i64 (c : Nat)) (.int .i64 (b : Nat)) 52
 simp only [World.size_alloc] at h2 h3 h4
 refine ⟨((h1.alloc _).alloc _).alloc _, (h2.alloc _).alloc _, ((h3.alloc _)).congr fun i hi => ?_, h4, blw⟩
 split <;> rfl
theorem al_bd {g : Int} (hg : G g) {t : Nat} (ht : t < g.toNat) {x y : Int} (hx : 0 ≤ x ∧ x ≤ 24) (hy : 0 ≤ y ∧ y ≤ 24) : (-200 ≤ (al g t (x, y)).1 ∧ (al g t (x, y)).1 ≤ 200) ∧ (-200 ≤ (al g t (x, y)).2 ∧ (al g t (x, y)).2 ≤ 200) := by
 have hbd := rf_bd hg ht (x := x) (y := y) (B := 24) (by omega)
 unfold al add
 simp only
 omega
set_option maxRecDepth 100000 in
theorem lfKd30 {P : Prop} (h : P := by
 go_wp2_with fail
 (refine wp_region_ext (by kernel_rfl) (by kernel_rfl) ?_; (repeat (first | ((with_reducible refine ext_step (fun K hK => ?_)); go_simp; first | (refine hK _ ?_; clear hK K) | (apply Exists.intro; refine ⟨fun _ _ => ?_, hK _ ?_⟩; (go_at_call 87; first | with_reducible exact extOf (HT0.out _) | with_reducible exact extOf (HT1.out _)); clear hK K)))); refine wpQuiet_nil ?_; intro E d)
 have hb6 : Below w5.heap.size w5 (extW (w5.alloc (.cells #[.int .i64 (px), .int .i64 (py)] 52)) E d) := bExtW blw (by simp)
 have HW9 := Lib.hid (HW5.out.grow hb6)
 clear hb6 k0 k1 k2 k3 lg5 lgw HW5 m0 m0' m0'' HT0 HT1 HT2
 generalize extW (w5.alloc (.cells #[.int .i64 (px), .int .i64 (py)] 52)) E d = w9 at *
 have r0 : w9.cell? ⟨w.heap.size + 1 + 1, 0, none⟩ = some (.bool false) := HW9.out.r.cell (i := 0) (by omega)
 have r1 : w9.cell? ⟨w.heap.size + 1 + 1, 1, none⟩ = some (.bool false) := HW9.out.r.cell (i := 1) (by omega)
 have g0 := HW9.out.r.frozen 0
 have g1 := HW9.out.r.frozen 1
 have lr : LtW (w.heap.size + 1 + 1) w9 := HW9.out.r.lt
 go_wp2
 have hrs := (HW9.out.r.set 0 (.bool true)).set 1 (.bool true)
 generalize hw8 : (w9.setCell ⟨w.heap.size + 1 + 1, 0, none⟩ (.bool true)).setCell ⟨w.heap.size + 1 + 1, 1, none⟩ (.bool true) = wz at *
 have z0 : wz.cell? ⟨w.heap.size + 1 + 1, 0, none⟩ = some (.bool true) := by
  have := hrs.cell (i := 0) (by omega)
  simpa using this
 have z1 : wz.cell? ⟨w.heap.size + 1 + 1, 1, none⟩ = some (.bool true) := by
  have := hrs.cell (i := 1) (by omega)
  simpa using this
 have lz : LtW (w.heap.size + 1 + 1) wz := hrs.lt
 have HBZ : Hid (Below w.heap.size w wz) := Lib.hid (by
  rw [← hw8]
  exact (HW9.out.bel.setCell (by simp only; omega) _).setCell (by simp only; omega) _)
 clear hw8 r0 r1 g0 g1 lr hrs HW9
 refine bodyPost_ret (v := .agg #[.bool true, .bool true]) (by simp [results, Tryd.results69, go_sem, z0, z1]) rfl ⟨?_, HBZ.out⟩
 rw [HWV2.out] <;> rfl) : P := h
set_option maxRecDepth 100000 in
set_option maxHeartbeats 8000000 in
theorem way_any (g : Int) (a c b t : Nat) (ox oy : Int) (N : Nat) (w : World) (hg : g = 4 ∨ g = 6) (ha : 0 < a ∧ a ≤ 24) (hb : 0 < b ∧ b ≤ 24) (hc : c ≤ 24) (ht : t < g.toNat) (hN : N ≤ 24) (hox : 0 ≤ ox ∧ ox < N) (hoy : 0 ≤ oy ∧ oy < N)
  (hL0 : latB a b c (al g t (a, 0)) = true) (hL1 : latB a b c (al g t (c, b)) = true) :
  Calls Tryd.prog 69 #[.agg #[.int .i64 (a), .int .i64 0, .int .i64 (c), .int .i64 (b)], .int .i64 (g), .agg #[.int .i64 (t), .bool (true), .int .i64 (ox), .int .i64 (oy)]] w fun e w' => e = .returned (.agg #[.bool (wayP g a b c ⟨t, true, (ox, oy)⟩).1, .bool (wayP g a b c ⟨t, true, (ox, oy)⟩).2]) ∧ Below w.heap.size w w' := by
 have HL0 := Lib.hid hL0; have HL1 := Lib.hid hL1
 clear hL0 hL1
 go_enter Tryd.func69, Tryd.ntmps69
 go_wp2_with fail
 have HW1 := Lib.hid (WY.start w a c b t ox oy)
 generalize ((((w.alloc (.cells #[.int .i64 (a : Nat), .int .i64 0, .int .i64 (c : Nat), .int .i64 (b : Nat)] 117)).alloc (.cells #[.int .i64 (t : Nat), .bool true, .int .i64 ox, .int .i64 oy] 56)).alloc (.cells #[.bool false, .bool false] 124)).alloc (.cells #[.int .i64 (a : Nat), .int .i64 0, .int .i64 (c : Nat), .int .i64 (b : Nat)] 52)) = w1 at *
 go_loopw [7, 22] (fun vv iv wr => ∃ (k : Nat) (LP : List Pt), k ≤ 2 ∧ iv = .int .i64 (k) ∧ LP = [al g t ((a : Int), 0), al g t ((c : Int), (b : Int))].take k ∧ Hid (wr.ownsRow w1.heap.size 52 2 vv k (kptK LP)) ∧ Hid (WY w.heap.size a c b t ox oy w wr) ∧ Hid (Below w1.heap.size w1 wr)) (fun _ iv _ => 2 - (intOf iv).toNat)
 case atStart => exact ⟨0, [], by omega, rfl, rfl, Lib.hid ⟨rfl, .inl ⟨rfl, rfl⟩⟩, HW1, Lib.hid (Below.refl _ _)⟩
 case round =>
  obtain ⟨k, LP, hk, rfl, rfl, HO, HW, HB⟩ := hrel
  have hk3 : k = 0 ∨ k = 1 ∨ k = 2 := by omega
  rcases hk3 with rfl | rfl | rfl
  ·skip
   have p0 : wr.cell? ⟨w.heap.size + 1 + 1 + 1, 0, none⟩ = some (.int .i64 ((a : Int))) := HW.out.p.cell (i := 0) (by omega)
   have p1 : wr.cell? ⟨w.heap.size + 1 + 1 + 1, 1, none⟩ = some (.int .i64 ((0 : Int))) := HW.out.p.cell (i := 1) (by omega)
   have lp : LtW (w.heap.size + 1 + 1 + 1) wr := HW.out.p.lt
   have f0 : wr.cell? ⟨w.heap.size + 1, 0, none⟩ = some (.int .i64 ((t : Nat))) := HW.out.f.cell (i := 0) (by omega)
   have lf : LtW (w.heap.size + 1) wr := HW.out.f.lt
   have HAP := Lib.hid (fun w9 => kapply g t ((a : Int)) ((0 : Int)) w9 hg ht (by omega) (by omega))
   have HAL : Hid (al g t ((a : Int), (0 : Int)) = (((a : Int)) + (rf g t ((a : Int), (0 : Int))).1, ((0 : Int)) + (rf g t ((a : Int), (0 : Int))).2)) := Lib.hid rfl
   have hbd := rf_bd hg ht (x := ((a : Int))) (y := ((0 : Int))) (B := 24) (by omega)
   obtain ⟨rx, hrx⟩ : ∃ rx, (rf g t ((a : Int), (0 : Int))).1 = rx := ⟨_, rfl⟩
   obtain ⟨ry, hry⟩ : ∃ ry, (rf g t ((a : Int), (0 : Int))).2 = ry := ⟨_, rfl⟩
   rw [hrx, hry] at HAP HAL hbd
   have HAL2 : Hid (al g t ((a : Int), (0 : Int)) = ((a : Int) + rx, ry)) := Lib.hid (HAL.out.trans (by first | rfl | rw [Int.zero_add]))
   clear hrx hry
   have hb8 : Below wr.heap.size wr (wr.alloc (.cells #[.int .i64 ((a : Int)), .int .i64 ((0 : Int))] 52)) := blw
   have HW8 := Lib.hid (HW.out.grow hb8)
   have HO8 := Lib.hid (ownBelow HO.out hb8)
   have HB8 := Lib.hid (HB.out.trans (hb8.mono HB.out.size))
   have hz8 := row2 wr (.int .i64 ((a : Int))) (.int .i64 ((0 : Int))) 52
   have HZ8 := Lib.hid hz8
   clear hb8 hz8
   go_wp2_with fail
   refine (HAP.out _).mono ?_
   rintro r w5 ⟨rfl, hb5⟩
   have hw5 := HW8.out.grow hb5
   have ho5 := ownBelow HO8.out hb5
   have hbb5 := HB8.out.trans (hb5.mono HB8.out.size)
   have hz5 := rowBelow HZ8.out hb5 HZ8.out.lt
   have v1 : IntKind.i64.wrap (((a : Int)) + rx) = ((a : Int)) + rx := IntWalk.i64_in _ (by omega)
   have v2 : IntKind.i64.wrap (((0 : Int)) + ry) = ((0 : Int)) + ry := IntWalk.i64_in _ (by omega)
   clear p0 p1 lp f0 lf hb5 HO8 HB8 HZ8 HW8 HO HB HW HAP
   obtain ⟨zb, hzb⟩ : ∃ zb, wr.heap.size = zb := ⟨_, rfl⟩
   rw [hzb] at hz5 ⊢
   clear hzb
   have z0 : w5.cell? ⟨zb, 0, none⟩ = some (.int .i64 ((a : Int))) := hz5.cell (i := 0) (by omega)
   have z1 : w5.cell? ⟨zb, 1, none⟩ = some (.int .i64 ((0 : Int))) := hz5.cell (i := 1) (by omega)
   have lz : LtW zb w5 := hz5.lt
   have hb6 : Below w5.heap.size w5 (w5.alloc (.cells #[.int .i64 (rx), .int .i64 (ry)] 52)) := blw
   have HW6 := Lib.hid (hw5.grow hb6)
   have HO6 := Lib.hid (ownBelow ho5 hb6)
   have HB6 := Lib.hid (hbb5.trans (hb6.mono hbb5.size))
   clear hw5 ho5 hbb5 hz5 hb6
   go_wp2_with (at_builtin; refine wpApp okPtK rfl (.tmp 35) (.tmp 47) rfl w1.heap.size _ 0 (kptK ([] : List Pt)) #[.int .i64 ((a : Int) + rx), .int .i64 (ry)] rfl HO6.out (by simp [go_sem]) rfl ?_ (by omega) (by omega) HB6.out.size ?_)
   ·simp [Value.oneCell']
   intro v' w7 hown7 hb7
   have HO7 : Hid (w7.ownsRow w1.heap.size 52 2 v' (0 + 1) (kptK ([al g t ((a : Int), 0)]))) := Lib.hid (by
    rw [show [al g t ((a : Int), 0)] = ([] : List Pt) ++ [al g t ((a : Int), (0 : Int))] from rfl, ptK_snoc, HAL2.out]
    exact hown7)
   have HB7 := Lib.hid (HB6.out.trans hb7)
   have HW7 : Hid (WY w.heap.size a c b t ox oy w w7) := Lib.hid ⟨rowBelow HW1.out.l HB7.out HW1.out.l.lt, rowBelow HW1.out.f HB7.out HW1.out.f.lt, rowBelow HW1.out.r HB7.out HW1.out.r.lt, rowBelow HW1.out.p HB7.out HW1.out.p.lt, HW1.out.bel.trans (HB7.out.mono HW1.out.bel.size)⟩
   clear hown7 hb7 HO6 HB6 HW6 z0 z1 lz
   go_wp2
   go_roundw
   case rel => exact ⟨0 + 1, [al g t ((a : Int), 0)], by omega, by go_num, rfl, HO7, HW7, HB7⟩
   case measure => simp [intOf]
  ·skip
   have p0 : wr.cell? ⟨w.heap.size + 1 + 1 + 1, 2, none⟩ = some (.int .i64 ((c : Int))) := HW.out.p.cell (i := 2) (by omega)
   have p1 : wr.cell? ⟨w.heap.size + 1 + 1 + 1, 3, none⟩ = some (.int .i64 ((b : Int))) := HW.out.p.cell (i := 3) (by omega)
   have lp : LtW (w.heap.size + 1 + 1 + 1) wr := HW.out.p.lt
   have f0 : wr.cell? ⟨w.heap.size + 1, 0, none⟩ = some (.int .i64 ((t : Nat))) := HW.out.f.cell (i := 0) (by omega)
   have lf : LtW (w.heap.size + 1) wr := HW.out.f.lt
   have HAP := Lib.hid (fun w9 => kapply g t ((c : Int)) ((b : Int)) w9 hg ht (by omega) (by omega))
   have HAL : Hid (al g t ((c : Int), (b : Int)) = (((c : Int)) + (rf g t ((c : Int), (b : Int))).1, ((b : Int)) + (rf g t ((c : Int), (b : Int))).2)) := Lib.hid rfl
   have hbd := rf_bd hg ht (x := ((c : Int))) (y := ((b : Int))) (B := 24) (by omega)
   obtain ⟨rx, hrx⟩ : ∃ rx, (rf g t ((c : Int), (b : Int))).1 = rx := ⟨_, rfl⟩
   obtain ⟨ry, hry⟩ : ∃ ry, (rf g t ((c : Int), (b : Int))).2 = ry := ⟨_, rfl⟩
   rw [hrx, hry] at HAP HAL hbd
   have HAL2 : Hid (al g t ((c : Int), (b : Int)) = ((c : Int) + rx, (b : Int) + ry)) := Lib.hid (HAL.out.trans (by first | rfl | rw [Int.zero_add]))
   clear hrx hry
   have hb8 : Below wr.heap.size wr (wr.alloc (.cells #[.int .i64 ((c : Int)), .int .i64 ((b : Int))] 52)) := blw
   have HW8 := Lib.hid (HW.out.grow hb8)
   have HO8 := Lib.hid (ownBelow HO.out hb8)
   have HB8 := Lib.hid (HB.out.trans (hb8.mono HB.out.size))
   have hz8 := row2 wr (.int .i64 ((c : Int))) (.int .i64 ((b : Int))) 52
   have HZ8 := Lib.hid hz8
   clear hb8 hz8
   go_wp2_with fail
   refine (HAP.out _).mono ?_
   rintro r w5 ⟨rfl, hb5⟩
   have hw5 := HW8.out.grow hb5
   have ho5 := ownBelow HO8.out hb5
   have hbb5 := HB8.out.trans (hb5.mono HB8.out.size)
   have hz5 := rowBelow HZ8.out hb5 HZ8.out.lt
   have v1 : IntKind.i64.wrap (((c : Int)) + rx) = ((c : Int)) + rx := IntWalk.i64_in _ (by omega)
   have v2 : IntKind.i64.wrap (((b : Int)) + ry) = ((b : Int)) + ry := IntWalk.i64_in _ (by omega)
   clear p0 p1 lp f0 lf hb5 HO8 HB8 HZ8 HW8 HO HB HW HAP
   obtain ⟨zb, hzb⟩ : ∃ zb, wr.heap.size = zb := ⟨_, rfl⟩
   rw [hzb] at hz5 ⊢
   clear hzb
   have z0 : w5.cell? ⟨zb, 0, none⟩ = some (.int .i64 ((c : Int))) := hz5.cell (i := 0) (by omega)
   have z1 : w5.cell? ⟨zb, 1, none⟩ = some (.int .i64 ((b : Int))) := hz5.cell (i := 1) (by omega)
   have lz : LtW zb w5 := hz5.lt
   have hb6 : Below w5.heap.size w5 (w5.alloc (.cells #[.int .i64 (rx), .int .i64 (ry)] 52)) := blw
   have HW6 := Lib.hid (hw5.grow hb6)
   have HO6 := Lib.hid (ownBelow ho5 hb6)
   have HB6 := Lib.hid (hbb5.trans (hb6.mono hbb5.size))
   clear hw5 ho5 hbb5 hz5 hb6
   go_wp2_with (at_builtin; refine wpApp okPtK rfl (.tmp 35) (.tmp 47) rfl w1.heap.size _ 1 (kptK [al g t ((a : Int), 0)]) #[.int .i64 ((c : Int) + rx), .int .i64 ((b : Int) + ry)] rfl HO6.out (by simp [go_sem]) rfl ?_ (by omega) (by omega) HB6.out.size ?_)
   ·simp [Value.oneCell']
   intro v' w7 hown7 hb7
   have HO7 : Hid (w7.ownsRow w1.heap.size 52 2 v' (1 + 1) (kptK ([al g t ((a : Int), 0), al g t ((c : Int), (b : Int))]))) := Lib.hid (by
    rw [show [al g t ((a : Int), 0), al g t ((c : Int), (b : Int))] = [al g t ((a : Int), 0)] ++ [al g t ((c : Int), (b : Int))] from rfl, ptK_snoc, HAL2.out]
    exact hown7)
   have HB7 := Lib.hid (HB6.out.trans hb7)
   have HW7 : Hid (WY w.heap.size a c b t ox oy w w7) := Lib.hid ⟨rowBelow HW1.out.l HB7.out HW1.out.l.lt, rowBelow HW1.out.f HB7.out HW1.out.f.lt, rowBelow HW1.out.r HB7.out HW1.out.r.lt, rowBelow HW1.out.p HB7.out HW1.out.p.lt, HW1.out.bel.trans (HB7.out.mono HW1.out.bel.size)⟩
   clear hown7 hb7 HO6 HB6 HW6 z0 z1 lz
   go_wp2
   go_roundw
   case rel => exact ⟨1 + 1, [al g t ((a : Int), 0), al g t ((c : Int), (b : Int))], by omega, by go_num, rfl, HO7, HW7, HB7⟩
   case measure => simp [intOf]
  ·obtain ⟨A, C, rfl⟩ := own_form HO.out
   have HA1 : Hid (al g t ((a : Int), 0) = (0, 0) → al g t ((c : Int), (b : Int)) ≠ (0, 0)) := Lib.hid (fun h => al_one hg ht (by omega) (by omega) h)
   have HWP : Hid (wayP g a b c ⟨t, true, (ox, oy)⟩ = wayP g a b c ⟨t, true, (ox, oy)⟩) := Lib.hid rfl
   have HO9 : Hid (wr.ownsRow w1.heap.size 52 2 (.slice A 2 C) 2 (kptK [al g t ((a : Int), 0), al g t ((c : Int), (b : Int))])) := HO
   have hb0 := al_bd hg ht (x := (a : Int)) (y := 0) (by omega) (by omega)
   have hb1 := al_bd hg ht (x := (c : Int)) (y := (b : Int)) (by omega) (by omega)
   have HWV : Hid (wayP g a b c ⟨t, true, (ox, oy)⟩ = if Int.tmod (tms (al g t ((a : Int), 0)) (shoP a b c (if al g t ((a : Int), 0) = (0, 0) then al g t ((c : Int), (b : Int)) else al g t ((a : Int), 0)))) 2 ≠ 0 ∨ Int.tmod (tms (al g t ((c : Int), (b : Int))) (shoP a b c (if al g t ((a : Int), 0) = (0, 0) then al g t ((c : Int), (b : Int)) else al g t ((a : Int), 0)))) 2 ≠ 0 then (true, true) else
    (decide (Int.tmod (tms (both g ⟨t, true, (ox, oy)⟩ ⟨t, true, (ox, oy)⟩).o (shoP a b c (if al g t ((a : Int), 0) = (0, 0) then al g t ((c : Int), (b : Int)) else al g t ((a : Int), 0)))) 2 = 0), !decide (Int.tmod (tms (both g ⟨t, true, (ox, oy)⟩ ⟨t, true, (ox, oy)⟩).o (shoP a b c (if al g t ((a : Int), 0) = (0, 0) then al g t ((c : Int), (b : Int)) else al g t ((a : Int), 0)))) 2 = 0))) := Lib.hid rfl
   obtain ⟨⟨x0, y0⟩, hp0⟩ : ∃ p : Pt, al g t ((a : Int), 0) = p := ⟨_, rfl⟩
   obtain ⟨⟨x1, y1⟩, hp1⟩ : ∃ p : Pt, al g t ((c : Int), (b : Int)) = p := ⟨_, rfl⟩
   rw [hp0] at HL0 HA1 HWV HO9 hb0
   rw [hp1] at HL1 HA1 HWV HO9 hb1
   simp only at hb0 hb1
   clear hp0 hp1 HO HWP
   obtain ⟨V, hV⟩ : ∃ V : Pt, (if (x0, y0) = ((0, 0) : Pt) then (x1, y1) else (x0, y0)) = V := ⟨_, rfl⟩
   rw [hV] at HWV
   have hv0 : V ≠ (0, 0) := by
    rw [← hV]
    split
    ·rename_i h; exact HA1.out h
    ·rename_i h; exact h
   have hlv : latB (a : Int) (b : Int) (c : Int) V = true := by
    rw [← hV]
    split
    ·exact HL1.out
    ·exact HL0.out
   have HSP := Lib.hid (shoP_spec hv0 hlv)
   obtain ⟨gB, rfl, hgl, hcs⟩ := own_pts (by omega) HO9.out
   have c0 := hcs 0 _ (by omega) rfl
   have c1 := hcs 1 _ (by omega) rfl
   have c2 := hcs 2 _ (by omega) rfl
   have c3 := hcs 3 _ (by omega) rfl
   simp only at c0 c1 c2 c3
   have lg : LtW gB wr := hgl
   have HSH := Lib.hid (shortest_any a c b x0 y0 x1 y1 gB C wr ha hb hc hb0 hb1 c0 c1 c2 c3 V hV hv0 hlv)
   have HC0 := Lib.hid c0; have HC1 := Lib.hid c1; have HC2 := Lib.hid c2; have HC3 := Lib.hid c3
   have l0 : wr.cell? ⟨w.heap.size, 0, none⟩ = some (.int .i64 (a : Nat)) := HW.out.l.cell (i := 0) (by omega)
   have l1 : wr.cell? ⟨w.heap.size, 1, none⟩ = some (.int .i64 0) := HW.out.l.cell (i := 1) (by omega)
   have l2 : wr.cell? ⟨w.heap.size, 2, none⟩ = some (.int .i64 (c : Nat)) := HW.out.l.cell (i := 2) (by omega)
   have l3 : wr.cell? ⟨w.heap.size, 3, none⟩ = some (.int .i64 (b : Nat)) := HW.out.l.cell (i := 3) (by omega)
   have ll : LtW w.heap.size wr := HW.out.l.lt
   clear hv0 hlv hcs hgl HL0 HL1 HA1 hV HO9 c0 c1 c2 c3 HB
   go_wp2_with fail
   refine HSH.out.mono ?_
   rintro r w5 ⟨rfl, hb5⟩
   have HW5 := Lib.hid (HW.out.grow hb5)
   have k0 := bCs hb5 HC0.out
   have k1 := bCs hb5 HC1.out
   have k2 := bCs hb5 HC2.out
   have k3 := bCs hb5 HC3.out
   have lg5 : LtW gB w5 := World.block_lt_of_cell? _ _ k0
   have hsp := HSP.out
   obtain ⟨⟨px, py⟩, hpp⟩ : ∃ p : Pt, shoP a b c V = p := ⟨_, rfl⟩
   rw [hpp] at HWV hsp ⊢
   simp only
   have HPN := Lib.hid hsp.2.1
   clear l0 l1 l2 l3 ll HSH HC0 HC1 HC2 HC3 HW hb5 lg hpp hsp HSP
   have HT0 := Lib.hid (fun w9 => ktimes_any x0 y0 px py w9 (by omega) HPN.out)
   have HT1 := Lib.hid (fun w9 => ktimes_any x1 y1 px py w9 (by omega) HPN.out)
   have hbb := To_small hg t true (x := ox) (y := oy) (ox := ox) (oy := oy) (by omega) (by omega) (by omega) (by omega)
   have HT2 := Lib.hid (fun w9 => ktimes_any (both g ⟨t, true, (ox, oy)⟩ ⟨t, true, (ox, oy)⟩).o.1 (both g ⟨t, true, (ox, oy)⟩ ⟨t, true, (ox, oy)⟩).o.2 px py w9 (by
    have e : (both g ⟨t, true, (ox, oy)⟩ ⟨t, true, (ox, oy)⟩).o = To g ⟨t, true, (ox, oy)⟩ (ox, oy) := rfl
    rw [e]; omega) HPN.out)
   obtain ⟨T0, hT0⟩ : ∃ T0, tms (x0, y0) (px, py) = T0 := ⟨_, rfl⟩
   obtain ⟨T1, hT1⟩ : ∃ T1, tms (x1, y1) (px, py) = T1 := ⟨_, rfl⟩
   rw [hT0] at HT0 HWV
   rw [hT1] at HT1 HWV
   clear hT0 hT1 hbb
   have e2 : ¬ ((2 : Int) = 0) := by decide
   have lgw : gB ≠ w5.heap.size := by unfold LtW at lg5; omega
   by_cases h0 : Int.tmod T0 2 = 0
   ·have m0 : (Int.tmod T0 2 == 0) = true := by simpa using h0
    have m0' : (Int.tmod T0 2 != 0) = false := by simpa using h0
    have m0'' : T0 % 2 = 0 := Int.emod_eq_zero_of_dvd (Int.dvd_of_tmod_eq_zero h0)
    by_cases h1 : Int.tmod T1 2 = 0
    ·have m1 : (Int.tmod T1 2 == 0) = true := by simpa using h1
     have m1' : (Int.tmod T1 2 != 0) = false := by simpa using h1
     have m1'' : T1 % 2 = 0 := Int.emod_eq_zero_of_dvd (Int.dvd_of_tmod_eq_zero h1)
     have HWV2 := Lib.hid (HWV.out.trans (if_neg (by rintro (h | h); exact h h0; exact h h1)))
     clear HWV h0 h1
     go_wp2_with fail
     (refine wp_region_ext (by kernel_rfl) (by kernel_rfl) ?_; (repeat (first | ((with_reducible refine ext_step (fun K hK => ?_)); go_simp; first | (refine hK _ ?_; clear hK K) | (apply Exists.intro; refine ⟨fun _ _ => ?_, hK _ ?_⟩; (go_at_call 87; first | with_reducible exact extOf (HT0.out _) | with_reducible exact extOf (HT1.out _)); clear hK K)))); refine wpQuiet_nil ?_; intro E d)
     have hb6 : Below w5.heap.size w5 (extW (w5.alloc (.cells #[.int .i64 (px), .int .i64 (py)] 52)) E d) := bExtW blw (by simp)
     have HW6 := Lib.hid (HW5.out.grow hb6)
     have hp6 := rowBelow (row2 w5 (.int .i64 (px)) (.int .i64 (py)) 52) (bExtW (Below.refl _ _) (Nat.le_refl _) : Below _ _ (extW (w5.alloc (.cells #[.int .i64 (px), .int .i64 (py)] 52)) E d)) (by simp)
     have HP6 := Lib.hid hp6
     obtain ⟨pb, hpb⟩ : ∃ pb, w5.heap.size = pb := ⟨_, rfl⟩
     rw [hpb] at HP6 ⊢
     clear hb6 hp6 k0 k1 k2 k3 lg5 lgw hpb HW5 m0 m0' m0'' m1 m1' m1'' HT0 HT1
     generalize extW (w5.alloc (.cells #[.int .i64 (px), .int .i64 (py)] 52)) E d = w6 at *
     have HCO := Lib.hid (fun w9 => Compose_torus g N ⟨t, true, (ox, oy)⟩ ⟨t, true, (ox, oy)⟩ w9 hg hN ht ht (by simp only; omega) (by simp only; omega))
     obtain ⟨⟨bt, bf, bx, by9⟩, hB⟩ : ∃ B, both g ⟨t, true, (ox, oy)⟩ ⟨t, true, (ox, oy)⟩ = B := ⟨_, rfl⟩
     rw [hB] at HCO HT2 HWV2
     clear hB
     have f0 : w6.cell? ⟨w.heap.size + 1, 0, none⟩ = some (.int .i64 ((t : Nat))) := HW6.out.f.cell (i := 0) (by omega)
     have f1 : w6.cell? ⟨w.heap.size + 1, 1, none⟩ = some (.bool true) := HW6.out.f.cell (i := 1) (by omega)
     have f2 : w6.cell? ⟨w.heap.size + 1, 2, none⟩ = some (.int .i64 (ox)) := HW6.out.f.cell (i := 2) (by omega)
     have f3 : w6.cell? ⟨w.heap.size + 1, 3, none⟩ = some (.int .i64 (oy)) := HW6.out.f.cell (i := 3) (by omega)
     have lf : LtW (w.heap.size + 1) w6 := HW6.out.f.lt
     go_wp2_with fail
     refine (HCO.out w6).mono ?_
     rintro r w7 ⟨rfl, hb7⟩
     have HW7 := Lib.hid (HW6.out.grow hb7)
     have HP7 := Lib.hid (rowBelow HP6.out hb7 HP6.out.lt)
     have q0 : w7.cell? ⟨pb, 0, none⟩ = some (.int .i64 (px)) := HP7.out.cell (i := 0) (by omega)
     have q1 : w7.cell? ⟨pb, 1, none⟩ = some (.int .i64 (py)) := HP7.out.cell (i := 1) (by omega)
     have lq : LtW pb w7 := HP7.out.lt
     have lqw : pb ≠ w7.heap.size := by unfold LtW at lq; omega
     have hb8 : Below w7.heap.size w7 (w7.alloc (.cells #[.int .i64 (bt : Nat), .bool bf, .int .i64 bx, .int .i64 by9] 56)) := blw
     have HW8 := Lib.hid (HW7.out.grow hb8)
     unfold mvV
     simp only
     clear hb7 hb8 f0 f1 f2 f3 lf HW6 HW7 HP6 HCO
     go_wp2_with fail
     generalize w7.alloc (.cells #[.int .i64 (bt : Nat), .bool bf, .int .i64 bx, .int .i64 by9] 56) = w8 at *
     refine (HT2.out w8).mono ?_
     rintro r w9 ⟨rfl, hb9⟩
     have HW9 := Lib.hid (HW8.out.grow hb9)
     obtain ⟨T2, hT2⟩ : ∃ T2, tms (bx, by9) (px, py) = T2 := ⟨_, rfl⟩
     rw [hT2] at HWV2 ⊢
     clear hb9 hT2 q0 q1 lq lqw HW8 HT2
     have r0 : w9.cell? ⟨w.heap.size + 1 + 1, 0, none⟩ = some (.bool false) := HW9.out.r.cell (i := 0) (by omega)
     have r1 : w9.cell? ⟨w.heap.size + 1 + 1, 1, none⟩ = some (.bool false) := HW9.out.r.cell (i := 1) (by omega)
     have g0 := HW9.out.r.frozen 0
     have g1 := HW9.out.r.frozen 1
     have lr : LtW (w.heap.size + 1 + 1) w9 := HW9.out.r.lt
     by_cases h2 : Int.tmod T2 2 = 0
     ·have m2 : (Int.tmod T2 2 == 0) = true := by simpa using h2
      have m2'' : T2 % 2 = 0 := Int.emod_eq_zero_of_dvd (Int.dvd_of_tmod_eq_zero h2)
      rw [decide_eq_true h2] at HWV2
      clear h2
      go_wp2
      have hrs := (HW9.out.r.set 0 (.bool true)).set 1 (.bool false)
      generalize hw8 : (w9.setCell ⟨w.heap.size + 1 + 1, 0, none⟩ (.bool true)).setCell ⟨w.heap.size + 1 + 1, 1, none⟩ (.bool false) = wz at *
      have z0 : wz.cell? ⟨w.heap.size + 1 + 1, 0, none⟩ = some (.bool true) := by
       have := hrs.cell (i := 0) (by omega)
       simpa using this
      have z1 : wz.cell? ⟨w.heap.size + 1 + 1, 1, none⟩ = some (.bool false) := by
       have := hrs.cell (i := 1) (by omega)
       simpa using this
      have lz : LtW (w.heap.size + 1 + 1) wz := hrs.lt
      have HBZ : Hid (Below w.heap.size w wz) := Lib.hid (by
       rw [← hw8]
       exact (HW9.out.bel.setCell (by simp only; omega) _).setCell (by simp only; omega) _)
      clear hw8 r0 r1 g0 g1 lr hrs HW9
      refine bodyPost_ret (v := .agg #[.bool true, .bool false]) (by simp [results, Tryd.results69, go_sem, z0, z1]) rfl ⟨?_, HBZ.out⟩
      rw [HWV2.out] <;> rfl
     ·have m2 : (Int.tmod T2 2 == 0) = false := by simpa using h2
      have m2'' : ¬ T2 % 2 = 0 := fun h => h2 (Int.tmod_eq_zero_of_dvd (Int.dvd_of_emod_eq_zero h))
      rw [decide_eq_false h2] at HWV2
      clear h2
      go_wp2
      have hrs := (HW9.out.r.set 0 (.bool false)).set 1 (.bool true)
      generalize hw8 : (w9.setCell ⟨w.heap.size + 1 + 1, 0, none⟩ (.bool false)).setCell ⟨w.heap.size + 1 + 1, 1, none⟩ (.bool true) = wz at *
      have z0 : wz.cell? ⟨w.heap.size + 1 + 1, 0, none⟩ = some (.bool false) := by
       have := hrs.cell (i := 0) (by omega)
       simpa using this
      have z1 : wz.cell? ⟨w.heap.size + 1 + 1, 1, none⟩ = some (.bool true) := by
       have := hrs.cell (i := 1) (by omega)
       simpa using this
      have lz : LtW (w.heap.size + 1 + 1) wz := hrs.lt
      have HBZ : Hid (Below w.heap.size w wz) := Lib.hid (by
       rw [← hw8]
       exact (HW9.out.bel.setCell (by simp only; omega) _).setCell (by simp only; omega) _)
      clear hw8 r0 r1 g0 g1 lr hrs HW9
      refine bodyPost_ret (v := .agg #[.bool false, .bool true]) (by simp [results, Tryd.results69, go_sem, z0, z1]) rfl ⟨?_, HBZ.out⟩
      rw [HWV2.out] <;> rfl
    ·have m1 : (Int.tmod T1 2 == 0) = false := by simpa using h1
     have m1' : (Int.tmod T1 2 != 0) = true := by simpa using h1
     have m1'' : ¬ T1 % 2 = 0 := fun h => h1 (Int.tmod_eq_zero_of_dvd (Int.dvd_of_emod_eq_zero h))
     have HWV2 := Lib.hid (HWV.out.trans (if_pos (.inr h1)))
     clear HWV h0 h1
     exact lfKd30
   ·have m0 : (Int.tmod T0 2 == 0) = false := by simpa using h0
    have m0' : (Int.tmod T0 2 != 0) = true := by simpa using h0
    have m0'' : ¬ T0 % 2 = 0 := fun h => h0 (Int.tmod_eq_zero_of_dvd (Int.dvd_of_emod_eq_zero h))
    have HWV2 := Lib.hid (HWV.out.trans (if_pos (.inl h0)))
    clear HWV h0
    exact lfKd30
end
section
open Go.RowKit
open Go.Proofs.YtajdoobkfbdgoaaDoor.Z Go.Maps
theorem lawKI : Keyed Tryd.prog 3 := int_keyed Tryd.underlying3
theorem i64wfK {k : Int} (h : (-9223372036854775808 ≤ k ∧ k ≤ 9223372036854775807)) : (Lit.int .i64 k).wf = true := by
 simpa [Lit.wf, IntKind.min, IntKind.max, IntKind.signed, IntKind.bits] using h
theorem keyOfK {k : Int} (h : (-9223372036854775808 ≤ k ∧ k ≤ 9223372036854775807)) : keyOf Tryd.prog 3 (.int .i64 k) = some (.int .i64 k) := keyOf_int_mk Tryd.underlying3 (i64wfK h)
def FT (mb n : Nat) (T : List Nat) (w : World) : Prop :=
 ∃ D : DataW Unit, w.ownsMap Tryd.prog 3 (plainElem Tryd.prog 4) mb n D ∧ Tidy D ∧ Maps.size D = T.length ∧ ∀ k : Int, Maps.has D (.int .i64 k) = T.any fun t => ((t : Nat) : Int) == k
theorem FT.made (w : World) : FT w.heap.size 0 [] (w.alloc (.map #[] 0)) := ⟨.map [], World.ownsMap_made _ _ _ _, tidy_empty, rfl, fun k => rfl⟩
theorem FT.kept {mb n : Nat} {T : List Nat} {w w' : World} (h : FT mb n T w) (hb : w'.heap[mb]? = w.heap[mb]?) : FT mb n T w' := by
 obtain ⟨D, ⟨es, c, h1, h2⟩, h3⟩ := h
 exact ⟨D, ⟨es, c, hb.trans h1, h2⟩, h3⟩
theorem FT.lt {mb n : Nat} {T : List Nat} {w : World} (h : FT mb n T w) : mb < w.heap.size := by
 obtain ⟨D, h1, _⟩ := h
 exact h1.lt
theorem FT.store {mb n : Nat} {T : List Nat} {w : World} (h : FT mb n T w) (f : Mv) (hf : f.f = false) (ht : f.t ≤ 100) (hn : n ≤ 1000000) :
    ∃ w', (Instr.mapUpdate 155 (.map (some mb)) (.int .i64 ((f.t : Nat))) (.bool true)).run Tryd.prog w = .ok () w' ∧ FT mb (n + 1) (turnS T f) w' ∧ w.grownBy w' (some mb) := by
  obtain ⟨D, hown, hT, hs, hh⟩ := h
  obtain ⟨w', hrun, hown', hg⟩ := hown.store lawKI Tryd.underlying155 (by unfold maxLen; omega) (keyOfK (k := ((f.t : Nat) : Int)) (by omega)) (plainElem_bool Tryd.underlying4 true)
  have hkey := lawKI.key (keyOfK (k := ((f.t : Nat) : Int)) (by omega))
  refine ⟨w', hrun, ⟨_, hown', hT.put hkey _, ?_, fun k => ?_⟩, hg.grown⟩
  · rw [size_put hT, hh, hs]
    unfold turnS
    by_cases hm : f.t ∈ T
    · rw [if_pos (List.any_eq_true.2 ⟨f.t, hm, by simp⟩), if_pos (.inr hm)]
    · rw [if_neg (by
        intro h2
        obtain ⟨x, hx, e⟩ := List.any_eq_true.1 h2
        have e : ((x : Nat) : Int) = ((f.t : Nat) : Int) := by simpa using e
        have : x = f.t := by omega
        exact hm (this ▸ hx)), if_neg (by rintro (h | h); · rw [hf] at h; cases h
                                          · exact hm h), List.length_append]
      rfl
  · by_cases hk : k = ((f.t : Nat) : Int)
    · subst hk
      rw [has_put_same hT.isMap hkey]
      unfold turnS
      split
      · rename_i h
        rcases h with h | h
        · rw [hf] at h; cases h
        · exact (List.any_eq_true.2 ⟨f.t, h, by simp⟩).symm
      · rw [List.any_append]; simp
    · rw [has_put_other (by intro e; injection e with _ e; exact hk e), hh k]
      unfold turnS
      split
      · rfl
      · rw [List.any_append]
        simp
        intro e; exact absurd e.symm hk
def codeW (p : Bool × Bool) : Int := (if p.1 then 1 else 0) + (if p.2 then 2 else 0)
theorem codeW_inj {p q : Bool × Bool} (h : codeW p = codeW q) : p = q := by
 obtain ⟨a, b⟩ := p
 obtain ⟨c, d⟩ := q
 revert h
 cases a <;> cases b <;> cases c <;> cases d <;> simp [codeW]
def wayR (v : Value) : Option (DataW Unit × List MemPlace) :=
 match v with
 | .agg cs => match cs.toList with
  | [.bool a, .bool b] => some (.lit (.int .i64 (codeW (a, b))), [])
  | _ => none
 | _ => none
theorem wayR_mk (p : Bool × Bool) : wayR (.agg #[.bool p.1, .bool p.2]) = some (.lit (.int .i64 (codeW p)), []) := rfl
theorem wayR_inv {v : Value} {y : DataW Unit × List MemPlace} (h : wayR v = some y) : ∃ p : Bool × Bool, v = .agg #[.bool p.1, .bool p.2] ∧ y = (.lit (.int .i64 (codeW p)), []) := by
 cases v with
 | agg cs =>
  have h2 : (match cs.toList with
   | [.bool a, .bool b] => some (.lit (.int .i64 (codeW (a, b))), [])
   | _ => none) = some y := h
  clear h
  rcases hc : cs.toList with _ | ⟨x, _ | ⟨x2, _ | ⟨x3, l⟩⟩⟩
  ·rw [hc] at h2; simp at h2
  ·rw [hc] at h2; simp at h2
  ·rw [hc] at h2
   cases x <;> cases x2 <;> simp at h2
   rename_i a b
   exact ⟨(a, b), by rw [show cs = #[.bool a, .bool b] from Array.toList_inj.1 hc], h2.symm⟩
  ·rw [hc] at h2; simp at h2
 | _ => exact absurd h (by simp [wayR])
theorem zeroW (w : World) : (zeroValue 124).run Tryd.prog w = .ok (.agg #[.bool false, .bool false]) w := by kernel_rfl
def FW (mb : Nat) (E : List (Nat × Bool × Bool)) (w : World) : Prop :=
 ∃ D : DataW Unit, w.ownsMap Tryd.prog 3 wayR mb E.length D ∧ Tidy D ∧ (∀ k : Int, Maps.has D (.int .i64 k) = E.any fun e => ((e.1 : Nat) : Int) == k) ∧ ∀ e ∈ E, ∀ z, D.atKey (.int .i64 ((e.1 : Nat) : Int)) z = .lit (.int .i64 (codeW e.2))
theorem FW.made (w : World) : FW w.heap.size [] (w.alloc (.map #[] 0)) := ⟨.map [], World.ownsMap_made _ _ _ _, tidy_empty, fun k => rfl, fun e he => by simp at he⟩
theorem FW.kept {mb : Nat} {E : List (Nat × Bool × Bool)} {w w' : World} (h : FW mb E w) (hb : w'.heap[mb]? = w.heap[mb]?) : FW mb E w' := by
 obtain ⟨D, ⟨es, c, h1, h2⟩, h3⟩ := h
 exact ⟨D, ⟨es, c, hb.trans h1, h2⟩, h3⟩
theorem FW.lt {mb : Nat} {E : List (Nat × Bool × Bool)} {w : World} (h : FW mb E w) : mb < w.heap.size := by
 obtain ⟨D, h1, _⟩ := h
 exact h1.lt
theorem FW.look {mb : Nat} {E : List (Nat × Bool × Bool)} {w : World} (h : FW mb E w) {k : Nat} (hk : k ≤ 100) : ∃ u v : Bool, (Instr.lookup 115 (.map (some mb)) (.int .i64 ((k : Nat))) true).run Tryd.prog w = .ok (.tuple #[.agg #[.bool u, .bool v], .bool (E.any fun e => e.1 == k)]) w := by
 obtain ⟨D, hown, _, hh, _⟩ := h
 obtain ⟨v, ps, hrun, hv⟩ := hown.look_ok lawKI Tryd.underlying115 (zeroW w) (wayR_mk (false, false)) (keyOfK (k := ((k : Nat) : Int)) (by omega))
 obtain ⟨p, rfl, _⟩ := wayR_inv hv
 refine ⟨p.1, p.2, ?_⟩
 rw [hrun, hh]
 have : (E.any fun e => ((e.1 : Nat) : Int) == ((k : Nat) : Int)) = E.any fun e => e.1 == k := by
  refine congrArg (List.any E) (funext fun e => ?_)
  rw [Bool.eq_iff_iff, beq_iff_eq, beq_iff_eq]
  omega
 rw [this]
theorem FW.store {mb : Nat} {E : List (Nat × Bool × Bool)} {w : World} (h : FW mb E w) (t : Nat) (p : Bool × Bool) (ht : t ≤ 100) (hn : E.length ≤ 1000000) (hnew : (E.any fun e => e.1 == t) = false) :
  ∃ w', (Instr.mapUpdate 115 (.map (some mb)) (.int .i64 ((t : Nat))) (.agg #[.bool p.1, .bool p.2])).run Tryd.prog w = .ok () w' ∧ FW mb (E ++ [(t, p)]) w' ∧ w.grownBy w' (some mb) := by
 obtain ⟨D, hown, hT, hh, ha⟩ := h
 obtain ⟨w', hrun, hown', hg⟩ := hown.store lawKI Tryd.underlying115 (by unfold maxLen; omega) (keyOfK (k := ((t : Nat) : Int)) (by omega)) (wayR_mk p)
 have hkey := lawKI.key (keyOfK (k := ((t : Nat) : Int)) (by omega))
 have hne : ∀ e ∈ E, e.1 ≠ t := fun e he h2 => by
  have := List.any_eq_false.1 hnew e he
  simp [h2] at this
 refine ⟨w', hrun, ⟨_, by rw [List.length_append]; exact hown', hT.put hkey _, fun k => ?_, fun e he z => ?_⟩, hg.grown⟩
 ·rw [List.any_append]
  by_cases hk : k = ((t : Nat) : Int)
  ·subst hk
   rw [has_put_same hT.isMap hkey]
   simp
  ·rw [has_put_other (by intro e; injection e with _ e; exact hk e), hh k]
   simp
   intro e; exact absurd e.symm hk
 ·rcases List.mem_append.1 he with he | he
  ·rw [atKey_put_other (by intro e2; injection e2 with _ e2; exact hne e he (by omega))]
   exact ha e he z
  ·simp at he
   subst he
   exact atKey_put_same hT.isMap hkey _ _
theorem FW.len {mb : Nat} {E : List (Nat × Bool × Bool)} {w : World} (h : FW mb E w) (ty : TypeId) : ∃ n : Nat, (Builtin.len_ #[115] ty #[.map (some mb)]).run Tryd.prog w = .ok (.int .i64 (n)) w ∧ (n = 0 ↔ E = []) := by
 obtain ⟨D, hown, hT, hh, _⟩ := h
 refine ⟨_, hown.len Tryd.underlying115 ty, fun h0 => ?_, fun h0 => ?_⟩
 ·obtain ⟨es, rfl, _⟩ := hT
  rw [size_eq] at h0
  obtain rfl : es = [] := List.length_eq_zero_iff.1 h0
  cases E with
  | nil => rfl
  | cons e E =>
   have := hh ((e.1 : Nat) : Int)
   simp [Maps.has] at this
 ·subst h0
  have := hown.size_le
  simpa using this
end
section
open Go.RowKit
open Go.Proofs.YtajdoobkfbdgoaaDoor.Z Go.Maps
theorem row6 (w : World) (u0 u1 u2 u3 u4 u5 : Value) (T : TypeId) : (w.alloc (.cells #[u0, u1, u2, u3, u4, u5] T)).rowIs w.heap.size T 6 (fun j => if j = 0 then u0 else if j = 1 then u1 else if j = 2 then u2 else if j = 3 then u3 else if j = 4 then u4 else u5) :=
 World.rowIs_alloc w #[u0, u1, u2, u3, u4, u5] T _ (by
  intro i hi
  have hi2 : i = 0 ∨ i = 1 ∨ i = 2 ∨ i = 3 ∨ i = 4 ∨ i = 5 := by simp at hi; omega
  rcases hi2 with rfl | rfl | rfl | rfl | rfl | rfl <;> rfl)
def chR (G W H : Int) (v : Value) : Nat → Value := fun j => if j = 0 then .int .i64 G else if j = 1 then .int .i64 W else if j = 2 then .int .i64 H else v
def sgF (t : Int) (m : Value) (a c b : Int) : Nat → Value := fun j => if j = 0 then .int .i64 t else if j = 1 then m else if j = 2 then .int .i64 a else if j = 3 then .int .i64 0 else if j = 4 then .int .i64 c else .int .i64 b
theorem row_map {w w' : World} {mb b t n : Nat} {f : Nat → Value} {es : Array MapEntry} {c : Nat} (hr : w.rowIs b t n f) (hm : w.heap[mb]? = some (.map es c)) (hg : w.grownBy w' (some mb)) : w'.rowIs b t n f := by
 refine hr.of_block (hg.block b hr.lt fun e => ?_)
 obtain ⟨cs, h1, _⟩ := hr
 injection e with e
 subst e
 rw [hm] at h1
 cases h1
theorem own_map {w w' : World} {mb base e size n : Nat} {v : Value} {xs : List Value} {es : Array MapEntry} {c : Nat} (h : w.ownsRow base e size v n xs) (hm : w.heap[mb]? = some (.map es c)) (hg : w.grownBy w' (some mb)) : w'.ownsRow base e size v n xs := by
 refine ⟨h.1, ?_⟩
 rcases h.2 with h2 | ⟨g, cap, cur, e1, e2, e3, e4⟩
 ·exact .inl h2
 ·refine .inr ⟨g, cap, cur, e1, e2, ?_, e4⟩
  rw [hg.block g (Array.getElem?_eq_some_iff.1 e3).1 (fun e5 => by
   injection e5 with e5
   subst e5
   rw [hm] at e3
   cases e3)]
  exact e3
structure LK (q sb mb tb : Nat) (G W H : Int) (A0 : Option Addr) (n0 c0 : Nat) (sa uc ub : Nat) (B : Option Addr) (D : Nat) (L : List Mv) (k : Nat) (T : List Nat) (E : List (Nat × Bool × Bool)) (w0 w : World) : Prop where
 ch : w.rowIs q 25 4 (chR G W H (.slice A0 n0 c0))
 re : w.rowIs (q + 1) 119 6 (sgF 0 (.map none) 0 0 0)
 st : w.rowIs sb 119 6 (sgF 0 (.map (some mb)) sa uc ub)
 fw : FW mb E w
 ft : FT tb k T w
 mt : mb ≠ tb
 mv : OwnM w w0.heap.size B L.length D L
 bel : Below w0.heap.size w0 w
 om : w0.heap.size ≤ mb
 ot : w0.heap.size ≤ tb
section
variable {q sb mb tb : Nat} {G W H : Int} {A0 : Option Addr} {n0 c0 : Nat} {sa uc ub : Nat} {B : Option Addr} {D : Nat} {L : List Mv} {k : Nat} {T : List Nat} {E : List (Nat × Bool × Bool)} {w0 w w' : World}
theorem LK.grow (h : LK q sb mb tb G W H A0 n0 c0 sa uc ub B D L k T E w0 w) (hb : Below w.heap.size w w') : LK q sb mb tb G W H A0 n0 c0 sa uc ub B D L k T E w0 w' :=
 ⟨rowBelow h.ch hb h.ch.lt, rowBelow h.re hb h.re.lt, rowBelow h.st hb h.st.lt, h.fw.kept (hb.block mb h.fw.lt), h.ft.kept (hb.block tb h.ft.lt), h.mt, h.mv.below hb, h.bel.trans (hb.mono h.bel.size), h.om, h.ot⟩
theorem LK.putT {k' : Nat} {T' : List Nat} (h : LK q sb mb tb G W H A0 n0 c0 sa uc ub B D L k T E w0 w) (hg : w.grownBy w' (some tb)) (hf : FT tb k' T' w') : LK q sb mb tb G W H A0 n0 c0 sa uc ub B D L k' T' E w0 w' := by
 obtain ⟨Dm, ⟨es, cl, h1, _⟩, _⟩ := h.ft
 exact ⟨row_map h.ch h1 hg, row_map h.re h1 hg, row_map h.st h1 hg, h.fw.kept (hg.block mb h.fw.lt (by intro e; injection e with e; exact h.mt e)), hf, h.mt, ⟨h.mv.1, own_map h.mv.2 h1 hg⟩, h.bel.grown hg h.bel.size (fun j e => by injection e with e; have := h.ot; omega), h.om, h.ot⟩
theorem LK.putW {E' : List (Nat × Bool × Bool)} (h : LK q sb mb tb G W H A0 n0 c0 sa uc ub B D L k T E w0 w) (hg : w.grownBy w' (some mb)) (hf : FW mb E' w') : LK q sb mb tb G W H A0 n0 c0 sa uc ub B D L k T E' w0 w' := by
 obtain ⟨Dm, ⟨es, cl, h1, _⟩, _⟩ := h.fw
 exact ⟨row_map h.ch h1 hg, row_map h.re h1 hg, row_map h.st h1 hg, hf, h.ft.kept (hg.block tb h.ft.lt (by intro e; injection e with e; exact h.mt e.symm)), h.mt, ⟨h.mv.1, own_map h.mv.2 h1 hg⟩, h.bel.grown hg h.bel.size (fun j e => by injection e with e; have := h.om; omega), h.om, h.ot⟩
end
theorem set6 {w : World} {b t : Nat} {f : Nat → Value} (h : w.rowIs b t 6 f) (u0 u1 u2 u3 u4 u5 : Value) : ((((((((w).setCell ⟨b, 0, none⟩ (u0)).setCell ⟨b, 1, none⟩ (u1)).setCell ⟨b, 2, none⟩ (u2)).setCell ⟨b, 3, none⟩ (u3)).setCell ⟨b, 4, none⟩ (u4)).setCell ⟨b, 5, none⟩ (u5))).rowIs b t 6 (fun j => if j = 0 then u0 else if j = 1 then u1 else if j = 2 then u2 else if j = 3 then u3 else if j = 4 then u4 else u5) := by
 refine ((((((h.set 0 u0).set 1 u1).set 2 u2).set 3 u3).set 4 u4).set 5 u5).congr fun i hi => ?_
 have hi2 : i = 0 ∨ i = 1 ∨ i = 2 ∨ i = 3 ∨ i = 4 ∨ i = 5 := by omega
 rcases hi2 with rfl | rfl | rfl | rfl | rfl | rfl <;> simp
theorem set6_bel {base : Nat} {w0 w : World} {b : Nat} (h : Below base w0 w) (hb : base ≤ b) (u0 u1 u2 u3 u4 u5 : Value) : Below base w0 ((((((((w).setCell ⟨b, 0, none⟩ (u0)).setCell ⟨b, 1, none⟩ (u1)).setCell ⟨b, 2, none⟩ (u2)).setCell ⟨b, 3, none⟩ (u3)).setCell ⟨b, 4, none⟩ (u4)).setCell ⟨b, 5, none⟩ (u5))) :=
 (((((h.setCell hb _).setCell hb _).setCell hb _).setCell hb _).setCell hb _).setCell hb _
def sightV (t : Int) (mb : Nat) (sa uc ub : Nat) : Value := .agg #[.int .i64 t, .map (some mb), .int .i64 (sa : Nat), .int .i64 0, .int .i64 (uc : Nat), .int .i64 (ub : Nat)]
end
end Go.Proofs.YtajdoobkfbdgoaaDoor
