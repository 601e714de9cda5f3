/- Lemmas on which the law of this seat rests; each states its own conditions. -/
import Derived.Test.YtajdoobkfbdgoaaDoorC10
import Derived.Test.YtajdoobkfbdgoaaDoorC08
import Derived.Test.YtajdoobkfbdgoaaDoorC09
set_option linter.unusedVariables false
set_option linter.unusedSimpArgs false
namespace Go.Proofs.YtajdoobkfbdgoaaDoor
section
open Go.RowKit
open Go.Proofs.YtajdoobkfbdgoaaDoor.Z
theorem tdiv_bdK {x y B : Int} (h : -B ≤ x ∧ x ≤ B) : -B ≤ Int.tdiv x y ∧ Int.tdiv x y ≤ B := by
 have h1 : (Int.tdiv x y).natAbs ≤ x.natAbs := by
  rw [Int.natAbs_tdiv]
  exact Nat.div_le_self _ _
 omega
theorem mul_bdK {x y A B : Int} (hx : -A ≤ x ∧ x ≤ A) (hy : 0 ≤ y ∧ y ≤ B) (hA : 0 ≤ A) : -(A * B) ≤ x * y ∧ x * y ≤ A * B := by
 have h1 : x * y ≤ A * y := Int.mul_le_mul_of_nonneg_right hx.2 hy.1
 have h2 : A * y ≤ A * B := Int.mul_le_mul_of_nonneg_left hy.2 hA
 have h3 : -A * y ≤ x * y := Int.mul_le_mul_of_nonneg_right hx.1 hy.1
 rw [Int.neg_mul] at h3
 omega
set_option maxRecDepth 100000 in
set_option maxHeartbeats 8000000 in
theorem ktimes_any (zx zy px py : Int) (w : World) (hz : (-1000 ≤ zx ∧ zx ≤ 1000) ∧ (-1000 ≤ zy ∧ zy ≤ 1000)) (hne : (px, py) ≠ (0, 0)) :
  Calls Tryd.prog 87 #[.agg #[.int .i64 (zx), .int .i64 (zy)], .agg #[.int .i64 (px), .int .i64 (py)]] w fun e w' => e = .returned (.int .i64 (tms (zx, zy) (px, py))) ∧ Below w.heap.size w w' := by
 have v1 : IntKind.i64.wrap (Int.tdiv zx px) = Int.tdiv zx px := IntWalk.i64_in _ (by have := tdiv_bdK (y := px) hz.1; omega)
 have v2 : IntKind.i64.wrap (Int.tdiv zy py) = Int.tdiv zy py := IntWalk.i64_in _ (by have := tdiv_bdK (y := py) hz.2; omega)
 go_enter Tryd.func87, Tryd.ntmps87
 by_cases h : px = 0
 ·have b1 : (px != 0) = false := by simpa using h
  have h2 : py ≠ 0 := fun h2 => hne (by rw [h, h2])
  have b2 : (py == 0) = false := by simpa using h2
  have HT : Hid (tms (zx, zy) (px, py) = Int.tdiv zy py) := Lib.hid (by unfold tms; rw [if_neg (by simpa using h)])
  go_wp2
  go_ret
  exact ⟨by rw [HT.out]; rfl, blw⟩
 ·have b1 : (px != 0) = true := by simpa using h
  have b2 : (px == 0) = false := by simpa using h
  have HT : Hid (tms (zx, zy) (px, py) = Int.tdiv zx px) := Lib.hid (by unfold tms; rw [if_pos (by simpa using h)])
  go_wp2
  go_ret
  exact ⟨by rw [HT.out]; rfl, blw⟩
theorem lfKd10 {P : Prop} (h : P := by
 go_wp2_with fail
 (refine wp_region_ext (by kernel_rfl) (by kernel_rfl) ?_; (repeat (first | ((with_reducible refine ext_step (fun K hK => ?_)); go_simp; first | (refine hK _ ?_; clear hK K) | (apply Exists.intro; refine ⟨fun _ _ => ?_, hK _ ?_⟩; fail; clear hK K)))); refine wpQuiet_nil ?_; intro E d)
 go_wp2
 go_ret
 exact ⟨by rw [HR.out]; rfl, blw⟩) : P := h
set_option maxRecDepth 100000 in
set_option maxHeartbeats 8000000 in
theorem khas_any (a b c : Nat) (x y : Int) (w : World) (ha : 0 < a ∧ a ≤ 24) (hb : 0 < b ∧ b ≤ 24) (hc : c ≤ 24) (hx : -1000 ≤ x ∧ x ≤ 1000) (hy : -1000 ≤ y ∧ y ≤ 1000) :
  Calls Tryd.prog 70 #[.agg #[.int .i64 (a), .int .i64 0, .int .i64 (c), .int .i64 (b)], .agg #[.int .i64 (x), .int .i64 (y)]] w fun e w' => e = .returned (.bool (latB a b c (x, y))) ∧ Below w.heap.size w w' := by
 obtain ⟨R, hR⟩ : ∃ R, latB a b c (x, y) = R := ⟨_, rfl⟩
 rw [hR]
 have b0 : ((b : Int) == 0) = false := by simp; omega
 have b0' : (b == 0) = false := by simp; omega
 have b0'' : (b : Int) ≠ 0 := by omega
 have b9 : ¬ b = 0 := by omega
 have a9 : ¬ a = 0 := by omega
 have a0 : ((a : Int) == 0) = false := by simp; omega
 have a0' : (a == 0) = false := by simp; omega
 go_enter Tryd.func70, Tryd.ntmps70
 by_cases h : Int.tmod y b = 0
 ·have hd : (b : Int) ∣ y := Int.dvd_of_tmod_eq_zero h
  have hq : Int.tdiv y b = y / b := Int.tdiv_eq_ediv_of_dvd hd
  have hqb : -1000 ≤ y / b ∧ y / b ≤ 1000 := by rw [← hq]; exact tdiv_bdK hy
  have hmb := mul_bdK hqb (show (0 : Int) ≤ (c : Int) ∧ (c : Int) ≤ 24 by omega) (by omega)
  have v0 : IntKind.i64.wrap (Int.tdiv y b) = y / b := by rw [hq]; exact IntWalk.i64_in _ (by omega)
  have v1 : IntKind.i64.wrap (y / b * c) = y / b * c := IntWalk.i64_in _ (by omega)
  have v2 : IntKind.i64.wrap (x - y / b * c) = x - y / b * c := IntWalk.i64_in _ (by omega)
  have HR : Hid (R = (Int.tmod (x - y / b * c) a == 0)) := Lib.hid (by
   rw [← hR]
   unfold latB
   rw [decide_eq_true (Int.emod_eq_zero_of_dvd hd), Bool.true_and]
   apply Bool.eq_iff_iff.2
   rw [decide_eq_true_eq, beq_iff_eq]
   exact ⟨fun h => Int.tmod_eq_zero_of_dvd (Int.dvd_of_emod_eq_zero h), fun h => Int.emod_eq_zero_of_dvd (Int.dvd_of_tmod_eq_zero h)⟩)
  have b1 : (Int.tmod y b == 0) = true := by simpa using h
  have v3 : IntKind.i64.wrap (y / b) = y / b := IntWalk.i64_in _ (by omega)
  have HH := Lib.hid hqb
  clear hR hd hqb hmb
  exact lfKd10
 ·have b1 : (Int.tmod y b == 0) = false := by simpa using h
  have HR : Hid (R = false) := Lib.hid (by
   rw [← hR]
   unfold latB
   rw [decide_eq_false (fun h2 => h (Int.tmod_eq_zero_of_dvd (Int.dvd_of_emod_eq_zero h2)))]
   rfl)
  clear hR h
  exact lfKd10
end
section
open Go.RowKit
open Z (torN place pnt Mv To lin okT nrm keepB colP idm md redM stK Sid Upw)
def ptG (x y : Int) : Nat → Value := fun j => if j = 0 then .int .i64 x else .int .i64 y
theorem ptG_alloc (w : World) (x y : Int) : (w.alloc (.cells #[.int .i64 x, .int .i64 y] 52)).rowIs w.heap.size 52 2 (ptG x y) := by
 refine World.rowIs_alloc w #[.int .i64 x, .int .i64 y] 52 _ ?_
 intro i hi
 have hi2 : i = 0 ∨ i = 1 := by simp at hi; omega
 rcases hi2 with rfl | rfl <;> rfl
structure FS (sb ub xb : Nat) (W0 : World) (g n : Int) (A : Option Addr) (M C : Nat) (X : List Int) (TA : Option Addr) (TC : Nat) (T : List Int) (sx sy ux uy : Int) (w : World) : Prop where
 s : w.rowIs sb 52 2 (ptG sx sy)
 u : w.rowIs ub 52 2 (ptG ux uy)
 x : w.rowIs xb 93 3 (clF g n (.slice A M C))
 ci : ∃ b, OwnI w b A M C X
 ti : ∃ b, OwnI w b TA M TC T
 ne : sb ≠ ub ∧ sb ≠ xb ∧ ub ≠ xb
 lo : W0.heap.size ≤ sb ∧ W0.heap.size ≤ ub
 bel : Below W0.heap.size W0 w
section
variable {sb ub xb M C TC : Nat} {W0 w w' : World} {g n sx sy ux uy : Int} {A TA : Option Addr} {X T : List Int}
theorem FS.grow (h : FS sb ub xb W0 g n A M C X TA TC T sx sy ux uy w) (hb : Below w.heap.size w w') : FS sb ub xb W0 g n A M C X TA TC T sx sy ux uy w' :=
 ⟨rowBelow h.s hb h.s.lt, rowBelow h.u hb h.u.lt, rowBelow h.x hb h.x.lt, h.ci.imp fun _ k => k.below hb, h.ti.imp fun _ k => k.below hb, h.ne, h.lo, h.bel.trans (hb.mono h.bel.size)⟩
theorem FS.setS0 (h : FS sb ub xb W0 g n A M C X TA TC T sx sy ux uy w) (v : Int) : FS sb ub xb W0 g n A M C X TA TC T v sy ux uy (w.setCell ⟨sb, 0, none⟩ (.int .i64 v)) :=
 ⟨(h.s.set 0 _).congr fun i hi => by (have : i = 0 ∨ i = 1 := by omega); rcases this with rfl | rfl <;> rfl, h.u.setOther (a := ⟨sb, 0, none⟩) (fun e => h.ne.1 e.symm) _, h.x.setOther (a := ⟨sb, 0, none⟩) (fun e => h.ne.2.1 e.symm) _, h.ci.imp fun _ k => k.setRow h.s (by decide), h.ti.imp fun _ k => k.setRow h.s (by decide), h.ne, h.lo, h.bel.setCell (p := ⟨sb, 0, none⟩) h.lo.1 _⟩
theorem FS.setU0 (h : FS sb ub xb W0 g n A M C X TA TC T sx sy ux uy w) (v : Int) : FS sb ub xb W0 g n A M C X TA TC T sx sy v uy (w.setCell ⟨ub, 0, none⟩ (.int .i64 v)) :=
 ⟨h.s.setOther (a := ⟨ub, 0, none⟩) (fun e => h.ne.1 e) _, (h.u.set 0 _).congr fun i hi => by (have : i = 0 ∨ i = 1 := by omega); rcases this with rfl | rfl <;> rfl, h.x.setOther (a := ⟨ub, 0, none⟩) (fun e => h.ne.2.2 e.symm) _, h.ci.imp fun _ k => k.setRow h.u (by decide), h.ti.imp fun _ k => k.setRow h.u (by decide), h.ne, h.lo, h.bel.setCell (p := ⟨ub, 0, none⟩) h.lo.2 _⟩
theorem FS.setU1 (h : FS sb ub xb W0 g n A M C X TA TC T sx sy ux uy w) (v : Int) : FS sb ub xb W0 g n A M C X TA TC T sx sy ux v (w.setCell ⟨ub, 1, none⟩ (.int .i64 v)) :=
 ⟨h.s.setOther (a := ⟨ub, 1, none⟩) (fun e => h.ne.1 e) _, (h.u.set 1 _).congr fun i hi => by (have : i = 0 ∨ i = 1 := by omega); rcases this with rfl | rfl <;> rfl, h.x.setOther (a := ⟨ub, 1, none⟩) (fun e => h.ne.2.2 e.symm) _, h.ci.imp fun _ k => k.setRow h.u (by decide), h.ti.imp fun _ k => k.setRow h.u (by decide), h.ne, h.lo, h.bel.setCell (p := ⟨ub, 1, none⟩) h.lo.2 _⟩
theorem FS.ints (h : FS sb ub xb W0 g n A M C X TA TC T sx sy ux uy w) : IsInts w A M X ∧ IsInts w TA M T :=
 ⟨h.ci.elim fun _ k => k.ints, h.ti.elim fun _ k => k.ints⟩
end
set_option maxRecDepth 100000 in
set_option maxHeartbeats 8000000 in
theorem Finest_ok (G W H n N sa uc ub0 : Nat) (a : Option Addr) (c : Nat) (cs : List Int) (w : World) (hI : IsInts w a n cs) (h : ChOk G W H n cs) (hN : torN W H = N) (h24 : N ≤ 24) (hp : 0 < N) (hS : Sid (stK W H cs G N) N sa) (hU : Upw (stK W H cs G N) N sa uc ub0) :
  Calls Tryd.prog 68 #[.agg #[.int .i64 (G), .int .i64 (W), .int .i64 (H), .slice a n c]] w fun r w' => r = .returned (.tuple #[.agg #[.int .i64 (sa), .int .i64 (0)], .agg #[.int .i64 (uc), .int .i64 (ub0)], .int .i64 (0)]) ∧ Below w.heap.size w w' := by
 obtain ⟨M, hM⟩ : ∃ M, N * N = M := ⟨_, rfl⟩
 have hd := Z.torN_dvd W H
 rw [hN] at hd
 have HL := Lib.hid (fun w hI => laid_ok G W H n N M a c cs w hI h hN h24 hM)
 have HIM := Lib.hid (fun a c w => image_ok G N M 0 false a c w (by have := h.g; omega) (by have := h.g; omega) hp h24 hM)
 have HK := Lib.hid (fun a c ta tc (x y : Nat) w (hx : x ≤ 24) (hy : y ≤ 24) hI hT => (keepsM_ok G W H N M 0 false a ta c tc cs x y w hp h24 hM hd.1 hd.2 hI hT (by omega) (by omega)))
 have HSid := Lib.hid hS; have HUp := Lib.hid hU
 have a1 := hS.a1; have an := hS.an; have b1 := hU.b1; have bn := hU.bn; have ca := hU.ca
 have HI := Lib.hid hI
 obtain ⟨P, hP⟩ : ∃ P, stK W H cs G N = P := ⟨_, rfl⟩
 have hKE : ∀ x y : Nat, keepB W H cs G N ⟨0, false, ((x : Int), (y : Int))⟩ = P x y := fun x y => by rw [← hP]; rfl
 rw [hP] at HSid HUp
 simp only [hKE] at HK
 obtain ⟨X, hX⟩ : ∃ X, Z.laidL W H cs N = X := ⟨_, rfl⟩
 obtain ⟨T, hT⟩ : ∃ T, intsN (Z.imageL G N 0 false) = T := ⟨_, rfl⟩
 rw [hX] at HL HK
 rw [hT] at HIM HK
 clear hI hN hM h hd hS hU hKE hP hX hT hp
 go_enter Tryd.func68, Tryd.ntmps68
 go_wp2_with fail
 refine (HL.out _ (HI.out.below blw)).mono ?_
 rintro r w2 ⟨⟨A, C, rfl, hA⟩, hb2⟩
 have HS2 : Hid (w2.rowIs (w.heap.size + 1) 52 2 (ptG 0 0) ∧ w2.rowIs (w.heap.size + 2) 52 2 (ptG 0 0) ∧ Below w.heap.size w w2 ∧ w.heap.size + 3 ≤ w2.heap.size) := Lib.hid (by
  have h1 := ptG_alloc (w.alloc (.cells #[.int .i64 (G : Int), .int .i64 (W : Int), .int .i64 (H : Int), .slice a n c] 25)) 0 0
  have h2 := ptG_alloc ((w.alloc (.cells #[.int .i64 (G : Int), .int .i64 (W : Int), .int .i64 (H : Int), .slice a n c] 25)).alloc (.cells #[.int .i64 0, .int .i64 0] 52)) 0 0
  have h3 := h1.alloc (.cells #[.int .i64 0, .int .i64 0] 52)
  have h4 := hb2.size
  rw [World.size_alloc] at h1 h3
  rw [World.size_alloc, World.size_alloc] at h2
  rw [World.size_alloc, World.size_alloc, World.size_alloc] at h4
  exact ⟨rowBelow h3 hb2 h3.lt, rowBelow h2 hb2 h2.lt, blw, by omega⟩)
 clear hb2
 have HA := Lib.hid hA
 clear hA
 go_wp2_with fail
 refine (HIM.out A C _).mono ?_
 rintro r w3 ⟨⟨TA, TC, rfl, hTA⟩, hb3⟩
 obtain ⟨sb, hsb⟩ : ∃ sb, w.heap.size + 1 = sb := ⟨_, rfl⟩
 obtain ⟨ub, hub⟩ : ∃ ub, sb + 1 = ub := ⟨_, rfl⟩
 obtain ⟨xb, hxb⟩ : ∃ xb, w2.heap.size = xb := ⟨_, rfl⟩
 have HF0 : Hid (FS sb ub xb w G N A M C X TA TC T 0 0 0 0 w3) := Lib.hid (by
  obtain ⟨e1, e2, e3, e4⟩ := HS2.out
  have hx := clF_alloc w2 G N A M C
  have hal : Below w2.heap.size w2 (w2.alloc (.cells #[.int .i64 (G : Int), .int .i64 (N : Int), .slice A M C] 93)) := (Below.refl _ _).alloc (Nat.le_refl _) _
  have hbb := hal.trans (hb3.mono hal.size)
  subst hsb hub hxb
  exact ⟨rowBelow e1 hbb e1.lt, rowBelow e2 hbb e2.lt, rowBelow hx hb3 hx.lt, ⟨_, HA.out.below hbb⟩, ⟨_, hTA⟩, ⟨by omega, by omega, by omega⟩, ⟨by omega, by omega⟩, e3.trans (hbb.mono (by omega))⟩)
 rw [hsb, hub, hxb]
 clear hTA hb3 HS2 HA HIM HL hsb hub hxb
 have s0 : (w3).cell? ⟨sb, 0, none⟩ = _ := (HF0.out).s.cell (i := 0) (by omega)
 have s1 : (w3).cell? ⟨sb, 1, none⟩ = _ := (HF0.out).s.cell (i := 1) (by omega)
 have u0 : (w3).cell? ⟨ub, 0, none⟩ = _ := (HF0.out).u.cell (i := 0) (by omega)
 have u1 : (w3).cell? ⟨ub, 1, none⟩ = _ := (HF0.out).u.cell (i := 1) (by omega)
 have x0 : (w3).cell? ⟨xb, 0, none⟩ = some (.int .i64 (G : Int)) := (HF0.out).x.cell (i := 0) (by omega)
 have x1 : (w3).cell? ⟨xb, 1, none⟩ = some (.int .i64 (N : Int)) := (HF0.out).x.cell (i := 1) (by omega)
 have x2 : (w3).cell? ⟨xb, 2, none⟩ = some (.slice A M C) := (HF0.out).x.cell (i := 2) (by omega)
 simp only [ptG, reduceIte, Nat.one_ne_zero] at s0 s1 u0 u1
 have fs0 := (HF0.out).s.frozen 0
 have fs1 := (HF0.out).s.frozen 1
 have fu0 := (HF0.out).u.frozen 0
 have fu1 := (HF0.out).u.frozen 1
 have ls : LtW sb w3 := (HF0.out).s.lt
 have lu : LtW ub w3 := (HF0.out).u.lt
 have lx : LtW xb w3 := (HF0.out).x.lt
 go_wp2_with fail
 have HF1 := Lib.hid (HF0.out.setS0 1)
 clear s0 s1 u0 u1 x0 x1 x2 fs0 fs1 fu0 fu1 ls lu lx
 clear HF0
 go_loopw [] (fun wr => ∃ (k : Nat), 1 ≤ k ∧ k ≤ sa ∧ Hid (FS sb ub xb w G N A M C X TA TC T (k : Int) 0 0 0 wr)) (fun wr => sa - (cellInt wr sb 0).toNat)
 case atStart => exact ⟨1, by omega, a1, HF1⟩
 case round =>
  clear HF1
  obtain ⟨k, hk1, hk, HF⟩ := hrel
  have HK1 := Lib.hid (fun w hI hT => HK.out A C TA TC k 0 w (by omega) (by omega) hI hT)
  have hm0 := cellInt_of (HF.out.s.cell (i := 0) (by omega))
  by_cases hks : k < sa
  ·have hpk := HSid.out.mn k hk1 hks
   rw [hpk] at HK1
   have s0 : (wr).cell? ⟨sb, 0, none⟩ = _ := (HF.out).s.cell (i := 0) (by omega)
   have s1 : (wr).cell? ⟨sb, 1, none⟩ = _ := (HF.out).s.cell (i := 1) (by omega)
   have u0 : (wr).cell? ⟨ub, 0, none⟩ = _ := (HF.out).u.cell (i := 0) (by omega)
   have u1 : (wr).cell? ⟨ub, 1, none⟩ = _ := (HF.out).u.cell (i := 1) (by omega)
   have x0 : (wr).cell? ⟨xb, 0, none⟩ = some (.int .i64 (G : Int)) := (HF.out).x.cell (i := 0) (by omega)
   have x1 : (wr).cell? ⟨xb, 1, none⟩ = some (.int .i64 (N : Int)) := (HF.out).x.cell (i := 1) (by omega)
   have x2 : (wr).cell? ⟨xb, 2, none⟩ = some (.slice A M C) := (HF.out).x.cell (i := 2) (by omega)
   simp only [ptG, reduceIte, Nat.one_ne_zero] at s0 s1 u0 u1
   have fs0 := (HF.out).s.frozen 0
   have fs1 := (HF.out).s.frozen 1
   have fu0 := (HF.out).u.frozen 0
   have fu1 := (HF.out).u.frozen 1
   have ls : LtW sb wr := (HF.out).s.lt
   have lu : LtW ub wr := (HF.out).u.lt
   have lx : LtW xb wr := (HF.out).x.lt
   have vk : IntKind.i64.wrap ((k : Int) + 1) = (k : Int) + 1 := IntWalk.i64_in _ (by omega)
   go_wp2_with fail
   refine (HK1.out _ HF.out.ints.1 HF.out.ints.2).mono ?_
   rintro r w4 ⟨rfl, hb4⟩
   have HF4 := Lib.hid (HF.out.grow hb4)
   clear s0 s1 u0 u1 x0 x1 x2 fs0 fs1 fu0 fu1 ls lu lx
   clear HF hb4 HK1 hpk
   have s0 : (w4).cell? ⟨sb, 0, none⟩ = _ := (HF4.out).s.cell (i := 0) (by omega)
   have s1 : (w4).cell? ⟨sb, 1, none⟩ = _ := (HF4.out).s.cell (i := 1) (by omega)
   have u0 : (w4).cell? ⟨ub, 0, none⟩ = _ := (HF4.out).u.cell (i := 0) (by omega)
   have u1 : (w4).cell? ⟨ub, 1, none⟩ = _ := (HF4.out).u.cell (i := 1) (by omega)
   have x0 : (w4).cell? ⟨xb, 0, none⟩ = some (.int .i64 (G : Int)) := (HF4.out).x.cell (i := 0) (by omega)
   have x1 : (w4).cell? ⟨xb, 1, none⟩ = some (.int .i64 (N : Int)) := (HF4.out).x.cell (i := 1) (by omega)
   have x2 : (w4).cell? ⟨xb, 2, none⟩ = some (.slice A M C) := (HF4.out).x.cell (i := 2) (by omega)
   simp only [ptG, reduceIte, Nat.one_ne_zero] at s0 s1 u0 u1
   have fs0 := (HF4.out).s.frozen 0
   have fs1 := (HF4.out).s.frozen 1
   have fu0 := (HF4.out).u.frozen 0
   have fu1 := (HF4.out).u.frozen 1
   have ls : LtW sb w4 := (HF4.out).s.lt
   have lu : LtW ub w4 := (HF4.out).u.lt
   have lx : LtW xb w4 := (HF4.out).x.lt
   go_wp2_with fail
   have HF5 := Lib.hid (HF4.out.setS0 ((k : Int) + 1))
   clear s0 s1 u0 u1 x0 x1 x2 fs0 fs1 fu0 fu1 ls lu lx
   go_roundw
   case rel => exact ⟨k + 1, by omega, by omega, by push_cast; exact HF5⟩
   case measure =>
    have h5 := cellInt_of (HF5.out.s.cell (i := 0) (by omega))
    rw [hm0, h5]
    omega
  ·obtain rfl : k = sa := by omega
   have hpk := HSid.out.ka
   rw [hpk] at HK1
   have s0 : (wr).cell? ⟨sb, 0, none⟩ = _ := (HF.out).s.cell (i := 0) (by omega)
   have s1 : (wr).cell? ⟨sb, 1, none⟩ = _ := (HF.out).s.cell (i := 1) (by omega)
   have u0 : (wr).cell? ⟨ub, 0, none⟩ = _ := (HF.out).u.cell (i := 0) (by omega)
   have u1 : (wr).cell? ⟨ub, 1, none⟩ = _ := (HF.out).u.cell (i := 1) (by omega)
   have x0 : (wr).cell? ⟨xb, 0, none⟩ = some (.int .i64 (G : Int)) := (HF.out).x.cell (i := 0) (by omega)
   have x1 : (wr).cell? ⟨xb, 1, none⟩ = some (.int .i64 (N : Int)) := (HF.out).x.cell (i := 1) (by omega)
   have x2 : (wr).cell? ⟨xb, 2, none⟩ = some (.slice A M C) := (HF.out).x.cell (i := 2) (by omega)
   simp only [ptG, reduceIte, Nat.one_ne_zero] at s0 s1 u0 u1
   have fs0 := (HF.out).s.frozen 0
   have fs1 := (HF.out).s.frozen 1
   have fu0 := (HF.out).u.frozen 0
   have fu1 := (HF.out).u.frozen 1
   have ls : LtW sb wr := (HF.out).s.lt
   have lu : LtW ub wr := (HF.out).u.lt
   have lx : LtW xb wr := (HF.out).x.lt
   go_wp2_with fail
   refine (HK1.out _ HF.out.ints.1 HF.out.ints.2).mono ?_
   rintro r w4 ⟨rfl, hb4⟩
   have HF4 := Lib.hid (HF.out.grow hb4)
   clear s0 s1 u0 u1 x0 x1 x2 fs0 fs1 fu0 fu1 ls lu lx
   clear HF hb4 HK1 hpk hm0
   have s0 : (w4).cell? ⟨sb, 0, none⟩ = _ := (HF4.out).s.cell (i := 0) (by omega)
   have s1 : (w4).cell? ⟨sb, 1, none⟩ = _ := (HF4.out).s.cell (i := 1) (by omega)
   have u0 : (w4).cell? ⟨ub, 0, none⟩ = _ := (HF4.out).u.cell (i := 0) (by omega)
   have u1 : (w4).cell? ⟨ub, 1, none⟩ = _ := (HF4.out).u.cell (i := 1) (by omega)
   have x0 : (w4).cell? ⟨xb, 0, none⟩ = some (.int .i64 (G : Int)) := (HF4.out).x.cell (i := 0) (by omega)
   have x1 : (w4).cell? ⟨xb, 1, none⟩ = some (.int .i64 (N : Int)) := (HF4.out).x.cell (i := 1) (by omega)
   have x2 : (w4).cell? ⟨xb, 2, none⟩ = some (.slice A M C) := (HF4.out).x.cell (i := 2) (by omega)
   simp only [ptG, reduceIte, Nat.one_ne_zero] at s0 s1 u0 u1
   have fs0 := (HF4.out).s.frozen 0
   have fs1 := (HF4.out).s.frozen 1
   have fu0 := (HF4.out).u.frozen 0
   have fu1 := (HF4.out).u.frozen 1
   have ls : LtW sb w4 := (HF4.out).s.lt
   have lu : LtW ub w4 := (HF4.out).u.lt
   have lx : LtW xb w4 := (HF4.out).x.lt
   go_wp2_with fail
   have HF5 := Lib.hid (HF4.out.setU1 1)
   clear s0 s1 u0 u1 x0 x1 x2 fs0 fs1 fu0 fu1 ls lu lx
   clear HF4
   go_loopw [] (fun wr => ∃ (y : Nat) (ux : Int), 1 ≤ y ∧ y ≤ ub0 ∧ Hid (FS sb ub xb w G N A M C X TA TC T (k : Int) 0 ux (y : Int) wr)) (fun wr => ub0 + 1 - (cellInt wr ub 1).toNat)
   case atStart => exact ⟨1, 0, by omega, b1, HF5⟩
   case round =>
    clear HF5
    obtain ⟨y, ux, hy1, hy, HF⟩ := hrel
    have hm0 := cellInt_of (HF.out.u.cell (i := 1) (by omega))
    have s0 : (wr).cell? ⟨sb, 0, none⟩ = _ := (HF.out).s.cell (i := 0) (by omega)
    have s1 : (wr).cell? ⟨sb, 1, none⟩ = _ := (HF.out).s.cell (i := 1) (by omega)
    have u0 : (wr).cell? ⟨ub, 0, none⟩ = _ := (HF.out).u.cell (i := 0) (by omega)
    have u1 : (wr).cell? ⟨ub, 1, none⟩ = _ := (HF.out).u.cell (i := 1) (by omega)
    have x0 : (wr).cell? ⟨xb, 0, none⟩ = some (.int .i64 (G : Int)) := (HF.out).x.cell (i := 0) (by omega)
    have x1 : (wr).cell? ⟨xb, 1, none⟩ = some (.int .i64 (N : Int)) := (HF.out).x.cell (i := 1) (by omega)
    have x2 : (wr).cell? ⟨xb, 2, none⟩ = some (.slice A M C) := (HF.out).x.cell (i := 2) (by omega)
    simp only [ptG, reduceIte, Nat.one_ne_zero] at s0 s1 u0 u1
    have fs0 := (HF.out).s.frozen 0
    have fs1 := (HF.out).s.frozen 1
    have fu0 := (HF.out).u.frozen 0
    have fu1 := (HF.out).u.frozen 1
    have ls : LtW sb wr := (HF.out).s.lt
    have lu : LtW ub wr := (HF.out).u.lt
    have lx : LtW xb wr := (HF.out).x.lt
    have vy : IntKind.i64.wrap ((y : Int) + 1) = (y : Int) + 1 := IntWalk.i64_in _ (by omega)
    go_wp2_with fail
    have HF1 := Lib.hid (HF.out.setU0 0)
    clear s0 s1 u0 u1 x0 x1 x2 fs0 fs1 fu0 fu1 ls lu lx
    clear HF
    obtain ⟨wo, rfl⟩ : ∃ wo : World, wo = wr := ⟨_, rfl⟩
    go_loopw [] (fun wr => ∃ (x : Nat), x ≤ k ∧ (y = ub0 → x ≤ uc) ∧ Hid (FS sb ub xb w G N A M C X TA TC T (k : Int) 0 (x : Int) (y : Int) wr)) (fun wr => k + 1 - (cellInt wr ub 0).toNat)
    case atStart => exact ⟨0, by omega, fun _ => by omega, HF1⟩
    case round =>
     clear HF1
     obtain ⟨x, hx, hxy, HF⟩ := hrel
     have hm1 := cellInt_of (HF.out.u.cell (i := 0) (by omega))
     by_cases hxk : x < k
     ·have dx : decide ((x : Int) < (k : Int)) = true := by simpa using hxk
      have vx : IntKind.i64.wrap ((x : Int) + 1) = (x : Int) + 1 := IntWalk.i64_in _ (by omega)
      have HK1 := Lib.hid (fun w hI hT => HK.out A C TA TC x y w (by omega) (by omega) hI hT)
      by_cases hend : x = uc ∧ y = ub0
      ·obtain ⟨rfl, rfl⟩ := hend
       have hpk := HUp.out.kb
       rw [hpk] at HK1
       have s0 : (wr).cell? ⟨sb, 0, none⟩ = _ := (HF.out).s.cell (i := 0) (by omega)
       have s1 : (wr).cell? ⟨sb, 1, none⟩ = _ := (HF.out).s.cell (i := 1) (by omega)
       have u0 : (wr).cell? ⟨ub, 0, none⟩ = _ := (HF.out).u.cell (i := 0) (by omega)
       have u1 : (wr).cell? ⟨ub, 1, none⟩ = _ := (HF.out).u.cell (i := 1) (by omega)
       have x0 : (wr).cell? ⟨xb, 0, none⟩ = some (.int .i64 (G : Int)) := (HF.out).x.cell (i := 0) (by omega)
       have x1 : (wr).cell? ⟨xb, 1, none⟩ = some (.int .i64 (N : Int)) := (HF.out).x.cell (i := 1) (by omega)
       have x2 : (wr).cell? ⟨xb, 2, none⟩ = some (.slice A M C) := (HF.out).x.cell (i := 2) (by omega)
       simp only [ptG, reduceIte, Nat.one_ne_zero] at s0 s1 u0 u1
       have fs0 := (HF.out).s.frozen 0
       have fs1 := (HF.out).s.frozen 1
       have fu0 := (HF.out).u.frozen 0
       have fu1 := (HF.out).u.frozen 1
       have ls : LtW sb wr := (HF.out).s.lt
       have lu : LtW ub wr := (HF.out).u.lt
       have lx : LtW xb wr := (HF.out).x.lt
       go_wp2_with fail
       refine (HK1.out _ HF.out.ints.1 HF.out.ints.2).mono ?_
       rintro r w4 ⟨rfl, hb4⟩
       have HF4 := Lib.hid (HF.out.grow hb4)
       clear s0 s1 u0 u1 x0 x1 x2 fs0 fs1 fu0 fu1 ls lu lx
       clear HF hb4 HK1 hpk hm0 hm1 HSid HUp
       have s0 : (w4).cell? ⟨sb, 0, none⟩ = _ := (HF4.out).s.cell (i := 0) (by omega)
       have s1 : (w4).cell? ⟨sb, 1, none⟩ = _ := (HF4.out).s.cell (i := 1) (by omega)
       have u0 : (w4).cell? ⟨ub, 0, none⟩ = _ := (HF4.out).u.cell (i := 0) (by omega)
       have u1 : (w4).cell? ⟨ub, 1, none⟩ = _ := (HF4.out).u.cell (i := 1) (by omega)
       have x0 : (w4).cell? ⟨xb, 0, none⟩ = some (.int .i64 (G : Int)) := (HF4.out).x.cell (i := 0) (by omega)
       have x1 : (w4).cell? ⟨xb, 1, none⟩ = some (.int .i64 (N : Int)) := (HF4.out).x.cell (i := 1) (by omega)
       have x2 : (w4).cell? ⟨xb, 2, none⟩ = some (.slice A M C) := (HF4.out).x.cell (i := 2) (by omega)
       simp only [ptG, reduceIte, Nat.one_ne_zero] at s0 s1 u0 u1
       have fs0 := (HF4.out).s.frozen 0
       have fs1 := (HF4.out).s.frozen 1
       have fu0 := (HF4.out).u.frozen 0
       have fu1 := (HF4.out).u.frozen 1
       have ls : LtW sb w4 := (HF4.out).s.lt
       have lu : LtW ub w4 := (HF4.out).u.lt
       have lx : LtW xb w4 := (HF4.out).x.lt
       have hne1 := HF4.out.ne.1
       have hne2 := hne1.symm
       go_wp2_with fail
       go_region
       have HBF : Hid (∀ v1 v2 v3 v4, Below w.heap.size w ((((w4.setCell ⟨sb, 0, none⟩ v1).setCell ⟨sb, 1, none⟩ v2).setCell ⟨ub, 0, none⟩ v3).setCell ⟨ub, 1, none⟩ v4).drew) := Lib.hid fun v1 v2 v3 v4 =>
        Below.drew ((((HF4.out.bel.setCell (p := ⟨sb, 0, none⟩) HF4.out.lo.1 v1).setCell (p := ⟨sb, 1, none⟩) HF4.out.lo.1 v2).setCell (p := ⟨ub, 0, none⟩) HF4.out.lo.2 v3).setCell (p := ⟨ub, 1, none⟩) HF4.out.lo.2 v4)
       go_wp2
       refine bodyPost_ret (v := .tuple #[.agg #[.int .i64 (k), .int .i64 (0)], .agg #[.int .i64 (x), .int .i64 (y)], .int .i64 (0)]) (by simp [results, Tryd.results68, go_sem, s0, s1, u0, u1, ls, lu, hne1, hne2]) rfl ⟨rfl, HBF.out _ _ _ _⟩
      ·have hpk : P x y = false := by
        by_cases hyb : y < ub0
        ·exact HUp.out.mn y x hy1 hyb hxk
        ·obtain rfl : y = ub0 := by omega
         exact HUp.out.mx x (by have := hxy rfl; omega)
       rw [hpk] at HK1
       have s0 : (wr).cell? ⟨sb, 0, none⟩ = _ := (HF.out).s.cell (i := 0) (by omega)
       have s1 : (wr).cell? ⟨sb, 1, none⟩ = _ := (HF.out).s.cell (i := 1) (by omega)
       have u0 : (wr).cell? ⟨ub, 0, none⟩ = _ := (HF.out).u.cell (i := 0) (by omega)
       have u1 : (wr).cell? ⟨ub, 1, none⟩ = _ := (HF.out).u.cell (i := 1) (by omega)
       have x0 : (wr).cell? ⟨xb, 0, none⟩ = some (.int .i64 (G : Int)) := (HF.out).x.cell (i := 0) (by omega)
       have x1 : (wr).cell? ⟨xb, 1, none⟩ = some (.int .i64 (N : Int)) := (HF.out).x.cell (i := 1) (by omega)
       have x2 : (wr).cell? ⟨xb, 2, none⟩ = some (.slice A M C) := (HF.out).x.cell (i := 2) (by omega)
       simp only [ptG, reduceIte, Nat.one_ne_zero] at s0 s1 u0 u1
       have fs0 := (HF.out).s.frozen 0
       have fs1 := (HF.out).s.frozen 1
       have fu0 := (HF.out).u.frozen 0
       have fu1 := (HF.out).u.frozen 1
       have ls : LtW sb wr := (HF.out).s.lt
       have lu : LtW ub wr := (HF.out).u.lt
       have lx : LtW xb wr := (HF.out).x.lt
       go_wp2_with fail
       refine (HK1.out _ HF.out.ints.1 HF.out.ints.2).mono ?_
       rintro r w4 ⟨rfl, hb4⟩
       have HF4 := Lib.hid (HF.out.grow hb4)
       clear s0 s1 u0 u1 x0 x1 x2 fs0 fs1 fu0 fu1 ls lu lx
       clear HF hb4 HK1 hpk
       have s0 : (w4).cell? ⟨sb, 0, none⟩ = _ := (HF4.out).s.cell (i := 0) (by omega)
       have s1 : (w4).cell? ⟨sb, 1, none⟩ = _ := (HF4.out).s.cell (i := 1) (by omega)
       have u0 : (w4).cell? ⟨ub, 0, none⟩ = _ := (HF4.out).u.cell (i := 0) (by omega)
       have u1 : (w4).cell? ⟨ub, 1, none⟩ = _ := (HF4.out).u.cell (i := 1) (by omega)
       have x0 : (w4).cell? ⟨xb, 0, none⟩ = some (.int .i64 (G : Int)) := (HF4.out).x.cell (i := 0) (by omega)
       have x1 : (w4).cell? ⟨xb, 1, none⟩ = some (.int .i64 (N : Int)) := (HF4.out).x.cell (i := 1) (by omega)
       have x2 : (w4).cell? ⟨xb, 2, none⟩ = some (.slice A M C) := (HF4.out).x.cell (i := 2) (by omega)
       simp only [ptG, reduceIte, Nat.one_ne_zero] at s0 s1 u0 u1
       have fs0 := (HF4.out).s.frozen 0
       have fs1 := (HF4.out).s.frozen 1
       have fu0 := (HF4.out).u.frozen 0
       have fu1 := (HF4.out).u.frozen 1
       have ls : LtW sb w4 := (HF4.out).s.lt
       have lu : LtW ub w4 := (HF4.out).u.lt
       have lx : LtW xb w4 := (HF4.out).x.lt
       go_wp2_with fail
       have HF5 := Lib.hid (HF4.out.setU0 ((x : Int) + 1))
       clear s0 s1 u0 u1 x0 x1 x2 fs0 fs1 fu0 fu1 ls lu lx
       go_roundw
       case rel => exact ⟨x + 1, by omega, fun e => by have := hxy e; omega, by push_cast; exact HF5⟩
       case measure =>
        have h5 := cellInt_of (HF5.out.u.cell (i := 0) (by omega))
        rw [hm1, h5]
        omega
     ·obtain rfl : x = k := by omega
      have dx : decide ((x : Int) < (x : Int)) = false := by simp
      have hyb : y < ub0 := by
       by_cases e : y = ub0
       ·have := hxy e; omega
       ·omega
      have s0 : (wr).cell? ⟨sb, 0, none⟩ = _ := (HF.out).s.cell (i := 0) (by omega)
      have s1 : (wr).cell? ⟨sb, 1, none⟩ = _ := (HF.out).s.cell (i := 1) (by omega)
      have u0 : (wr).cell? ⟨ub, 0, none⟩ = _ := (HF.out).u.cell (i := 0) (by omega)
      have u1 : (wr).cell? ⟨ub, 1, none⟩ = _ := (HF.out).u.cell (i := 1) (by omega)
      have x0 : (wr).cell? ⟨xb, 0, none⟩ = some (.int .i64 (G : Int)) := (HF.out).x.cell (i := 0) (by omega)
      have x1 : (wr).cell? ⟨xb, 1, none⟩ = some (.int .i64 (N : Int)) := (HF.out).x.cell (i := 1) (by omega)
      have x2 : (wr).cell? ⟨xb, 2, none⟩ = some (.slice A M C) := (HF.out).x.cell (i := 2) (by omega)
      simp only [ptG, reduceIte, Nat.one_ne_zero] at s0 s1 u0 u1
      have fs0 := (HF.out).s.frozen 0
      have fs1 := (HF.out).s.frozen 1
      have fu0 := (HF.out).u.frozen 0
      have fu1 := (HF.out).u.frozen 1
      have ls : LtW sb wr := (HF.out).s.lt
      have lu : LtW ub wr := (HF.out).u.lt
      have lx : LtW xb wr := (HF.out).x.lt
      go_wp2_with fail
      have HF5 := Lib.hid (HF.out.setU1 ((y : Int) + 1))
      clear s0 s1 u0 u1 x0 x1 x2 fs0 fs1 fu0 fu1 ls lu lx
      go_roundw
      case rel => exact ⟨y + 1, _, by omega, by omega, by push_cast; exact HF5⟩
      case measure =>
       have h5 := cellInt_of (HF5.out.u.cell (i := 1) (by omega))
       rw [hm0, h5]
       omega
end
end Go.Proofs.YtajdoobkfbdgoaaDoor
