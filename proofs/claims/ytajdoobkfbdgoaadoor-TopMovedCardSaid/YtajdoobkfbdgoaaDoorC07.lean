/- Lemmas on which the law of this seat rests; each states its own conditions. -/
import Derived.Test.YtajdoobkfbdgoaaDoorC06
import Derived.Test.YtajdoobkfbdgoaaDoorC05
import Derived.Test.YtajdoobkfbdgoaaDoorC04
import Derived.IntWalk
import Derived.Lib.AppendZeros
import Derived.Deep.DeepCutAuto
import Derived.Test.YtajdoobkfbdgoaaDoorC03
import Derived.Test.YtajdoobkfbdgoaaDoorC01
import Derived.Deep.OwnRows
set_option linter.unusedVariables false
set_option linter.unusedSimpArgs false
namespace Go.Proofs.YtajdoobkfbdgoaaDoor
section
open Lo
def bT (f : Nat → Bool) (k : Nat) : List Bool := (List.range k).map f
theorem bT_succ (f : Nat → Bool) (k : Nat) : bT f (k+1) = bT f k ++ [f k] := by simp [bT, List.range_succ]
theorem bT_len (f : Nat → Bool) (k : Nat) : (bT f k).length = k := by simp [bT]
theorem bT_get (f : Nat → Bool) {k p : Nat} (hp : p < k) : (bT f k).getD p false = f p := getD_map_range f hp
theorem dm1 {H x y : Nat} (hy : y < H) : (x * H + y) % H = y := by rw [Nat.mul_comm, Nat.mul_add_mod, Nat.mod_eq_of_lt hy]
theorem dm2 {H x y : Nat} (hy : y < H) : (x * H + y) / H = x := by rw [Nat.mul_comm, Nat.mul_add_div (by omega), Nat.div_eq_of_lt hy]; omega
theorem place_lt' {W H x y : Nat} (hx : x < W) (hy : y < H) : y * W + x < W * H := by
 have : (y + 1) * W ≤ H * W := Nat.mul_le_mul_right W hy
 rw [Nat.add_mul, Nat.one_mul, Nat.mul_comm H W] at this; omega
theorem crun_congr {f g : Nat → Bool} (h : ∀ i, f i = g i) (k : Nat) : ∀ x, crun f x k = crun g x k := by
 induction k with
 | zero => intro x; rfl
 | succ k ih => intro x; unfold crun; rw [h x, ih]
theorem crun_shift (f : Nat → Bool) (s k : Nat) : ∀ x, crun (fun i => f (i + s)) x k = crun f (x + s) k := by
 induction k with
 | zero => intro x; rfl
 | succ k ih => intro x; unfold crun; rw [ih, show x + 1 + s = x + s + 1 by omega]
theorem mx_shift {g : Nat → Nat} {W s : Nat} (hW : 0 < W) (hg : ∀ x, g (x + W) = g x) : mxTo (fun x => g (x + s)) W = mxTo g W := by
 have hper : ∀ i k, g (i + k * W) = g i := by
  intro i k
  induction k with
  | zero => simp
  | succ k ih => rw [Nat.add_mul, Nat.one_mul, ← Nat.add_assoc, hg, ih]
 have hmod : ∀ i, g (i % W) = g i := by
  intro i
  have := hper (i % W) (i / W)
  rw [Nat.mul_comm, Nat.mod_add_div] at this
  exact this.symm
 apply Nat.le_antisymm
 ·refine mxTo_le fun x hx => ?_
  rw [← hmod (x + s)]
  exact le_mxTo (Nat.mod_lt _ hW)
 ·refine mxTo_le fun x hx => ?_
  have e : g x = g ((x + (W - s % W)) % W + s) := by
   rw [← hmod ((x + (W - s % W)) % W + s), Nat.mod_add_mod]
   have h1 : s % W < W := Nat.mod_lt _ hW
   have h2 : s = s % W + W * (s / W) := (Nat.mod_add_div s W).symm
   have h3 : x + (W - s % W) + s = x + (1 + s / W) * W := by
    rw [Nat.add_mul, Nat.one_mul, Nat.mul_comm (s / W) W]; omega
   rw [h3, hmod, hper]
  rw [e]
  exact le_mxTo (g := fun x => g (x + s)) (Nat.mod_lt _ hW)
end
section
open Go.RowKit
end
section
open Go.RowKit
open Lo
theorem BelowX.set {base mb : Nat} {W w : World} (h : BelowX base mb W w) (i : Nat) (v : Value) : BelowX base mb W (w.setCell ⟨mb, i, none⟩ v) :=
 ⟨h.os, h.tape, h.output, by rw [World.size_setCell]; exact h.size, fun k hk hm => by rw [Below.heap_setCell _ _ _ k (fun e => hm (by rw [e]))]; exact h.block k hk hm⟩
theorem BelowX.okT {base mb : Nat} {W w : World} {a : Option Addr} {n c : Nat} {bs : List Bool} (h : BelowX base mb W w) (hT : OkT W a n c bs) (hbs : base = W.heap.size) (hm : ∀ b o, a = some ⟨b, o, none⟩ → b ≠ mb) : OkT w a n c bs := by
 refine ⟨⟨hT.bits.1, fun hn => ?_⟩, hT.cap, hT.lim⟩
 obtain ⟨b, o, h1, h2, h3⟩ := hT.bits.2 hn
 exact ⟨b, o, h1, Nat.lt_of_lt_of_le h2 (hbs ▸ h.size), fun j hj => (World.cell?_of_block (h.block b (by omega) (hm b o h1))).trans (h3 j hj)⟩
theorem wfN (W : Nat) (h : W ≤ 64) : (-9223372036854775808 ≤ (W : Int) ∧ (W : Int) ≤ 9223372036854775807) := by omega
end
section
open Go.RowKit
open Ef
theorem BelowX.trans {base mb : Nat} {W w w' : World} (h : BelowX base mb W w) (k : BelowX base mb w w') : BelowX base mb W w' :=
 ⟨k.os.trans h.os, k.tape.trans h.tape, k.output.trans h.output, k.size, fun b h1 h2 => (k.block b h1 h2).trans (h.block b h1 h2)⟩
theorem BelowX.of_below {base mb : Nat} {W w : World} (hb : base ≤ W.heap.size) (h : Below base W w) : BelowX base mb W w :=
 ⟨h.os, h.tape, h.output, Nat.le_trans hb h.size, fun b h1 _ => h.block b h1⟩
end
section
open Go.RowKit
section
variable {P : Program} {l : List Oper} {n : Nat} {Q : Exit → Act → World → Prop}
end
end
section
open Go.RowKit
open Ef
end
section
open Go.RowKit
end
section
open Go.RowKit
end
section
open Go.RowKit
structure SArg (ea : Option Addr) (en ec : Nat) (es : List Int) (pa : Option Addr) (pn pc : Nat) (ps : List Int) (w : World) : Prop where
 e : IsInts w ea en es
 p : IsInts w pa pn ps
def chG (G W H : Int) (v : Value) : Nat → Value := fun j => if j = 0 then .int .i64 G else if j = 1 then .int .i64 W else if j = 2 then .int .i64 H else v
structure CB (G W H : Int) (mb base : Nat) (W3 : World) (n : Nat) (p : List Int) (v : Value) (w : World) : Prop where
 row : w.rowIs mb 25 4 (chG G W H v)
 own : w.ownsRow base 3 1 v n (p.map i64v)
 bel : BelowX base mb W3 w
end
section
open Go.RowKit
theorem rest_eq {a : Int} {n : Nat} (hn : 0 < n) : a % (n : Int) = if a.tmod n < 0 then a.tmod n + n else a.tmod n := by
 have h0 : (0 : Int) < n := by omega
 have h1 : a = a.tmod n + n * a.tdiv n := (Int.tmod_add_mul_tdiv a n).symm
 have e : a % (n : Int) = (a.tmod n) % (n : Int) := by
  conv => lhs; rw [h1]
  rw [Int.add_mul_emod_self_left]
 have hlt := Int.tmod_lt_of_pos a h0
 have hgt := Int.lt_tmod_of_pos a h0
 rw [e]
 split
 ·rw [← Int.add_emod_right, Int.emod_eq_of_lt (by omega) (by omega)]
 ·exact Int.emod_eq_of_lt (by omega) hlt
def cellAt (W H : Nat) (cs : List Int) (x y : Int) : Int := cs.getD ((y % (H : Int)).toNat * W + (x % (W : Int)).toNat) 0
theorem emod_nat (a : Int) {n : Nat} (hn : 0 < n) : ∃ k : Nat, a % (n : Int) = k ∧ k < n ∧ (a % (n : Int)).toNat = k := by
 have h1 := Int.emod_nonneg a (show (n : Int) ≠ 0 by omega)
 have h2 := Int.emod_lt_of_pos a (show (0 : Int) < n by omega)
 exact ⟨(a % (n : Int)).toNat, by omega, by omega, rfl⟩
end
section
open Go.RowKit
open Z (torN)
structure FL (base mb T nc : Nat) (f : Value → Nat → Value) (e : Nat) (L : List Value) (W1 : World) (v : Value) (w : World) : Prop where
 row : w.rowIs mb T nc (f v)
 own : w.ownsRow base e 1 v L.length L
 bel : BelowX base mb W1 w
structure ChOk (G W H n : Nat) (cs : List Int) : Prop where
 g : G = 4 ∨ G = 6
 w1 : 0 < W
 w2 : W ≤ 64
 h1 : 0 < H
 h2 : H ≤ 64
 hn : n = W * H
 cr : ∀ x ∈ cs, 0 ≤ x ∧ x < 62
section
variable {G W H n : Nat} {cs : List Int}
theorem ChOk.e (h : ChOk G W H n cs) : chE G W H n cs = 0 := chE_ok (by have := h.g; omega) h.w1 h.w2 h.h1 h.h2 h.hn h.cr
theorem ChOk.n4 (h : ChOk G W H n cs) : n ≤ 4096 := by rw [h.hn]; exact Nat.mul_le_mul h.w2 h.h2
theorem ChOk.tpos (h : ChOk G W H n cs) : 0 < torN W H := Z.torN_pos h.w1 h.h1
theorem ChOk.tle (h : ChOk G W H n cs) : torN W H ≤ 4096 := by
 rw [Z.torN_eq]
 exact Nat.mul_le_mul h.w2 (Nat.le_trans (Nat.div_le_self _ _) h.h2)
end
theorem ChOk.of {G W H : Int} {n : Nat} {cs : List Int} (h : chE G W H n cs = 0) : ∃ G' W' H' : Nat, G = G' ∧ W = W' ∧ H = H' ∧ ChOk G' W' H' n cs := by
 obtain ⟨hG, W', H', rfl, rfl, w1, w2, k1, k2, hn, hC⟩ := chE_zero h
 exact ⟨G.toNat, W', H', by omega, rfl, rfl, by omega, w1, w2, k1, k2, hn, hC⟩
set_option maxRecDepth 100000 in
set_option maxHeartbeats 8000000 in
theorem gcd_ok (x y : Nat) (w : World) (hx : x ≤ 64) (hy : y ≤ 64) :
  Calls Tryd.prog 79 #[.int .i64 (x), .int .i64 (y)] w fun e w' => e = .returned (.int .i64 (Nat.gcd x y)) ∧ Below w.heap.size w w' := by
 go_enter Tryd.func79, Tryd.ntmps79
 go_wp2_with fail
 go_loopw [0, 1] (fun a b wr => ∃ (p q : Nat) (E : Array Obj) (d : Nat), p ≤ 64 ∧ q ≤ 64 ∧ a = .int .i64 p ∧ b = .int .i64 q ∧ Hid (Nat.gcd p q = Nat.gcd x y) ∧ wr = extW w E d) (fun _ b _ => (intOf b).toNat)
 case atStart => exact ⟨x, y, #[], w.drawn, hx, hy, rfl, rfl, Lib.hid rfl, extW_zero _⟩
 case round =>
  obtain ⟨p, q, E, d, hp, hq, rfl, rfl, HG, rfl⟩ := hrel
  by_cases hq0 : q = 0
  ·subst hq0
   have HE : Hid (Nat.gcd x y = p) := Lib.hid (by rw [← HG.out, Nat.gcd_zero_right])
   go_wp2
   go_ret
   exact ⟨by rw [HE.out]; rfl, blw⟩
  ·have b0 : ((q : Int) != 0) = true := by simp; omega
   have b1 : ((q : Int) == 0) = false := by simp; omega
   have b2 : (q : Int) ≠ 0 := by omega
   obtain ⟨m, hm⟩ : ∃ m, p % q = m := ⟨_, rfl⟩
   have hm1 : m < q := by rw [← hm]; exact Nat.mod_lt _ (by omega)
   have ht : (p : Int).tmod (q : Int) = (m : Int) := by rw [← hm]; rfl
   have HM := Lib.hid hm
   have v1 : IntKind.i64.wrap (m : Int) = (m : Int) := IntWalk.i64_in _ (by omega)
   clear hm
   go_wp2_with fail
   (refine wp_region_ext (by kernel_rfl) (by kernel_rfl) ?_; (repeat (first | ((with_reducible refine ext_step (fun K hK => ?_)); go_simp; first | (refine hK _ ?_; clear hK K) | (apply Exists.intro; refine ⟨fun _ _ => ?_, hK _ ?_⟩; fail; clear hK K)))); refine wpQuiet_nil ?_; intro E d)
   go_wp2
   go_roundw
   case rel => exact ⟨q, m, _, _, hq, by omega, rfl, rfl, Lib.hid (by rw [← HG.out, ← HM.out, Nat.gcd_comm p q, Nat.gcd_rec q p, Nat.gcd_comm]), by rw [extW_extW]⟩
   case measure => simp [intOf]; omega
set_option maxRecDepth 100000 in
set_option maxHeartbeats 8000000 in
theorem Torus_bad (G W H : Int) (a : Option Addr) (n c : Nat) (cs : List Int) (w : World) (hI : IsInts w a n cs) (h0 : (-9223372036854775808 ≤ G ∧ G ≤ 9223372036854775807)) (h1 : (-9223372036854775808 ≤ W ∧ W ≤ 9223372036854775807)) (h2 : (-9223372036854775808 ≤ H ∧ H ≤ 9223372036854775807)) (h3 : n ≤ 9223372036854775807) (he : chE G W H n cs ≠ 0) :
  Calls Tryd.prog 60 #[.agg #[.int .i64 (G), .int .i64 (W), .int .i64 (H), .slice a n c]] w fun e w' => e = .returned (.tuple #[.int .i64 (0), .int .i64 (chE G W H n cs)]) ∧ Below w.heap.size w w' := by
 have hb : (chE G W H n cs != 0) = true := by simpa using he
 have HT := Lib.hid (fun w hI => chWrong_any G W H a n c cs w hI h0 h1 h2 h3)
 have HI := Lib.hid hI
 clear he hI
 generalize chE G W H n cs = q at *
 go_enter Tryd.func60, Tryd.ntmps60
 (go_wp2_with fail; refine (HT.out _ (HI.out.below blw)).mono ?_; rintro r w1 ⟨rfl, hb⟩; obtain ⟨E, d, rfl⟩ := bExt hb; clear hb)
 go_wp2
 go_ret2
 exact ⟨rfl, blw⟩
def torV (N : Nat) : Value := if 24 < N then .tuple #[.int .i64 (0), .int .i64 (4)] else .tuple #[.int .i64 (N), .int .i64 (0)]
theorem lfGs10 {P : Prop} (h : P := by
 go_wp2_with fail
 (refine wp_region_ext (by kernel_rfl) (by kernel_rfl) ?_; (repeat (first | ((with_reducible refine ext_step (fun K hK => ?_)); go_simp; first | (refine hK _ ?_; clear hK K) | (apply Exists.intro; refine ⟨fun _ _ => ?_, hK _ ?_⟩; (go_at_call 79; exact extOf (HG.out _)); clear hK K)))); refine wpQuiet_nil ?_; intro E d)
 go_wp2
 go_ret2
 exact ⟨by rw [HV.out]; rfl, blw⟩) : P := h
set_option maxRecDepth 100000 in
set_option maxHeartbeats 8000000 in
theorem Torus_ok (G W H n : Nat) (a : Option Addr) (c : Nat) (cs : List Int) (w : World) (hI : IsInts w a n cs) (h : ChOk G W H n cs) :
  Calls Tryd.prog 60 #[.agg #[.int .i64 (G), .int .i64 (W), .int .i64 (H), .slice a n c]] w fun e w' => e = .returned (torV (torN W H)) ∧ Below w.heap.size w w' := by
 have hn4 := h.n4
 have HR := Lib.hid (fun w hI => chWrong_any G W H a n c cs w hI (by have := h.g; omega) (by have := h.w2; omega) (by have := h.h2; omega) (by omega))
 rw [h.e] at HR
 have HI := Lib.hid hI
 have hW := h.w2; have hH := h.h2; have hW1 := h.w1
 have HG := Lib.hid (fun w => gcd_ok W H w hW hH)
 have hN : W / Nat.gcd W H * H = torN W H := rfl
 have hNl := h.tle
 have hg : 0 < Nat.gcd W H := Nat.gcd_pos_of_pos_left H hW1
 have hgl : Nat.gcd W H ≤ W := Nat.le_of_dvd hW1 (Nat.gcd_dvd_left W H)
 generalize Nat.gcd W H = g at *
 generalize torN W H = N at *
 obtain ⟨q, hq⟩ : ∃ q, W / g = q := ⟨_, rfl⟩
 have hqW : q ≤ W := by rw [← hq]; exact Nat.div_le_self _ _
 rw [hq] at hN
 have t1 : (W : Int).tdiv (g : Int) = (q : Int) := by rw [← hq]; rfl
 have t2 : (q : Int) * (H : Int) = (N : Int) := by rw [← hN]; push_cast; rfl
 have b1 : ((g : Int) == 0) = false := by simp; omega
 have b2 : (g : Int) ≠ 0 := by omega
 have b3 : ¬ g = 0 := by omega
 have v1 : IntKind.i64.wrap (q : Int) = (q : Int) := IntWalk.i64_in _ (by omega)
 have v2 : IntKind.i64.wrap (N : Int) = (N : Int) := IntWalk.i64_in _ (by omega)
 clear hI hn4 hq hN h
 by_cases hm : 24 < N
 ·have d1 : decide (24 < N) = true := by simpa using hm
  have d2 : decide ((N : Int) > 24) = true := by simp; omega
  have HV : Hid (torV N = .tuple #[.int .i64 (0), .int .i64 (4)]) := Lib.hid (by unfold torV; rw [if_pos hm])
  go_enter Tryd.func60, Tryd.ntmps60
  (go_wp2_with fail; refine (HR.out _ (HI.out.below blw)).mono ?_; rintro r w1 ⟨rfl, hb⟩; obtain ⟨E, d, rfl⟩ := bExt hb; clear hb)
  exact lfGs10
 ·have d1 : decide (24 < N) = false := by simpa using hm
  have d2 : decide ((N : Int) > 24) = false := by simp; omega
  have HV : Hid (torV N = .tuple #[.int .i64 (N), .int .i64 (0)]) := Lib.hid (by unfold torV; rw [if_neg hm])
  go_enter Tryd.func60, Tryd.ntmps60
  (go_wp2_with fail; refine (HR.out _ (HI.out.below blw)).mono ?_; rintro r w1 ⟨rfl, hb⟩; obtain ⟨E, d, rfl⟩ := bExt hb; clear hb)
  exact lfGs10
end
section
open Go.RowKit
end
section
open Go.RowKit
end
section
open Go.RowKit
theorem allocPt (w : World) : Sem.run Tryd.prog (Instr.alloc 52 true (.tuple #[])) w = .ok (.pointer (some ⟨w.heap.size, 0, none⟩)) (w.alloc (.cells #[.int .i64 (0), .int .i64 (0)] 52)) := by kernel_rfl
theorem tmY_one (g x y : Int) (hg : g = 4 ∨ g = 6) : tmX x y 0 1 = (Z.turn g (x,y)).1 ∧ tmY g x y 0 1 = (Z.turn g (x,y)).2 := by
 rcases hg with rfl | rfl <;> simp [tmX, tmY, Z.turn]
end
section
open Go.RowKit
open Z (IsGcd nrm)
end
section
open Go.RowKit
open Z (IsGcd nrm)
end
section
open Go.RowKit
open Z (IsGcd nrm)
end
section
open Go.RowKit
section
variable {P : Program} {ops : Array Oper} {md : Region.Mode} {C : World → Prop} {R : Value → Prop}
end
end
section
open Go.RowKit
open Z (IsGcd nrm)
end
section
open Go.RowKit
open Z (IsGcd nrm)
end
section
open Go.RowKit
open Z (IsGcd nrm Mv To lin mir okT idm both bothT)
set_option maxRecDepth 100000 in
set_option maxHeartbeats 8000000 in
theorem turnedN (g x y : Int) (n : Nat) (w : World) (hg : g = 4 ∨ g = 6) (hn : n ≤ 6) (hb : nrm g (x,y) ≤ 200000000000000000) :
  Calls Tryd.prog 91 #[.int .i64 (g), .agg #[.int .i64 (x), .int .i64 (y)], .int .i64 (n)] w fun e w' => e = .returned (.agg #[.int .i64 ((Z.tn g n (x,y)).1), .int .i64 ((Z.tn g n (x,y)).2)]) ∧ Below w.heap.size w w' := by
 have hbd : ∀ k : Nat, k ≤ n → (-1073741824 ≤ (Z.tn g k (x,y)).1 ∧ (Z.tn g k (x,y)).1 ≤ 1073741824) ∧ (-1073741824 ≤ (Z.tn g k (x,y)).2 ∧ (Z.tn g k (x,y)).2 ≤ 1073741824) := by
  intro k hk
  have h2 := Z.nrm_tn hg k (x,y)
  exact Z.part_bd hg (by omega) (by omega)
 have HB := Lib.hid hbd
 clear hbd
 go_enter Tryd.func91, Tryd.ntmps91
 go_wp2_with fail
 go_loopw [8] (fun i wr => ∃ (k : Nat) (E : Array Obj) (d : Nat), k ≤ n ∧ i = .int .i64 k ∧ wr = extW ((w.alloc (.cells #[.int .i64 ((Z.tn g k (x,y)).1), .int .i64 ((Z.tn g k (x,y)).2)] 52)).alloc (.cells #[.int .i64 (0), .int .i64 (0)] 52)) E d) (fun i _ => n - (intOf i).toNat)
 case atStart => exact ⟨0, #[], _, Nat.zero_le _, rfl, extW_zero _⟩
 case round =>
  obtain ⟨k, E, d, hk, rfl, rfl⟩ := hrel
  obtain ⟨hb1, hb2⟩ := HB.out k hk
  have H1 := Lib.hid (tmY_one g (Z.tn g k (x,y)).1 (Z.tn g k (x,y)).2 hg)
  have HT : Hid (Z.tn g (k+1) (x,y) = Z.turn g (Z.tn g k (x,y))) := Lib.hid rfl
  generalize hp : Z.tn g k (x,y) = p at *
  have HP := Lib.hid hp
  clear hp
  by_cases hlt : k < n
  ·go_wp2_with fail
   refine (times_any g p.1 p.2 0 1 _ (by omega) (by omega) (by omega) (by omega)).mono ?_
   rintro r w1 ⟨rfl, hb⟩
   obtain ⟨E', d', rfl⟩ := bExt hb
   clear hb
   rw [H1.out.1, H1.out.2]
   go_wp2
   go_roundw
   case rel => exact ⟨k + 1, E ++ E', d', by omega, by go_num, by rw [HT.out, extW_extW]⟩
   case measure => simp [intOf]; omega
  ·have hkn : k = n := by omega
   subst hkn
   go_wp2
   refine bodyPost_ret (v := .agg #[.int .i64 (p.1), .int .i64 (p.2)]) (by simp [results, Tryd.results91, go_sem]) rfl ⟨by rw [HP.out], blw⟩
theorem parts_of {g : Int} (hg : Z.G g) {p : Z.Pt} (h : nrm g p ≤ 200000000000000000) : (-536870912 ≤ p.1 ∧ p.1 ≤ 536870912) ∧ (-536870912 ≤ p.2 ∧ p.2 ≤ 536870912) := Z.part_bd hg (by omega) (by omega)
set_option maxRecDepth 100000 in
set_option maxHeartbeats 8000000 in
theorem apply_any (g x y ox oy : Int) (t : Nat) (f : Bool) (w : World) (hg : g = 4 ∨ g = 6) (ht : t ≤ 6) (hb : nrm g (x,y) ≤ 200000000000000000) (h1 : -1000000000000 ≤ ox ∧ ox ≤ 1000000000000) (h2 : -1000000000000 ≤ oy ∧ oy ≤ 1000000000000) :
  Calls Tryd.prog 74 #[.int .i64 (g), .agg #[.int .i64 (t), .bool (f), .int .i64 (ox), .int .i64 (oy)], .agg #[.int .i64 (x), .int .i64 (y)]] w fun e w' => e = .returned (.agg #[.int .i64 ((To g ⟨t,f,(ox,oy)⟩ (x,y)).1), .int .i64 ((To g ⟨t,f,(ox,oy)⟩ (x,y)).2)]) ∧ Below w.heap.size w w' := by
 have bp := parts_of hg hb
 simp only at bp
 cases f with
 | false =>
  have HT : Hid (To g ⟨t,false,(ox,oy)⟩ (x,y) = ((Z.tn g t (x,y)).1 + ox, (Z.tn g t (x,y)).2 + oy)) := Lib.hid rfl
  have hn : nrm g (Z.tn g t (x,y)) ≤ 200000000000000000 := by rw [Z.nrm_tn hg]; exact hb
  have bn := parts_of hg hn
  go_enter Tryd.func74, Tryd.ntmps74
  (go_wp2_with fail; refine (turnedN g x y t _ hg ht hb).mono ?_; rintro r w1 ⟨rfl, hb⟩; obtain ⟨E, d, rfl⟩ := bExt hb; clear hb)
  generalize Z.tn g t (x,y) = p at *
  go_wp2
  refine bodyPost_ret (v := .agg #[.int .i64 (p.1+ox), .int .i64 (p.2+oy)]) (by simp [results, Tryd.results74, go_sem]) rfl ⟨by rw [HT.out], blw⟩
 | true =>
  have HT : Hid (To g ⟨t,true,(ox,oy)⟩ (x,y) = ((Z.tn g t (miX g x y, -y)).1 + ox, (Z.tn g t (miX g x y, -y)).2 + oy)) := Lib.hid rfl
  have hb2 : nrm g (miX g x y, -y) ≤ 200000000000000000 := by
   have e := Z.nrm_conj hg (x,y)
   have e2 : Z.conj g (x,y) = (miX g x y, -y) := rfl
   rw [e2] at e
   omega
  have hn : nrm g (Z.tn g t (miX g x y, -y)) ≤ 200000000000000000 := by rw [Z.nrm_tn hg]; exact hb2
  have bn := parts_of hg hn
  go_enter Tryd.func74, Tryd.ntmps74
  (go_wp2_with fail; refine (mirrored_any g x y _ (by omega) (by omega)).mono ?_; rintro r w1 ⟨rfl, hb⟩; obtain ⟨E, d, rfl⟩ := bExt hb; clear hb)
  (go_wp2_with fail; refine (turnedN g _ _ t _ hg ht hb2).mono ?_; rintro r w1 ⟨rfl, hb⟩; obtain ⟨E, d, rfl⟩ := bExt hb; clear hb)
  generalize Z.tn g t (miX g x y, -y) = p at *
  go_wp2
  refine bodyPost_ret (v := .agg #[.int .i64 (p.1+ox), .int .i64 (p.2+oy)]) (by simp [results, Tryd.results74, go_sem]) rfl ⟨by rw [HT.out], blw⟩
end
section
open Go.RowKit
open Z (IsGcd nrm Mv To lin mir okT idm both bothT)
def mvV (m : Mv) : Value := .agg #[.int .i64 m.t, .bool m.f, .int .i64 m.o.1, .int .i64 m.o.2]
theorem btI4 : ∀ (a b : Fin 4), (((a.val:Int) + (b.val:Int)).tmod 4 + 4).tmod 4 = ((a.val + b.val) % 4 : Nat) ∧ (((a.val:Int) - (b.val:Int)).tmod 4 + 4).tmod 4 = ((a.val + (4 - b.val)) % 4 : Nat) := by decide +kernel
theorem btI6 : ∀ (a b : Fin 6), (((a.val:Int) + (b.val:Int)).tmod 6 + 6).tmod 6 = ((a.val + b.val) % 6 : Nat) ∧ (((a.val:Int) - (b.val:Int)).tmod 6 + 6).tmod 6 = ((a.val + (6 - b.val)) % 6 : Nat) := by decide +kernel
theorem btI {g : Int} (hg : Z.G g) {a b : Nat} (ha : a < g.toNat) (hb : b < g.toNat) : (((a:Int) + b).tmod g + g).tmod g = ((a + b) % g.toNat : Nat) ∧ (((a:Int) - b).tmod g + g).tmod g = ((a + (g.toNat - b)) % g.toNat : Nat) := by
 rcases hg with rfl | rfl
 ·exact btI4 ⟨a, ha⟩ ⟨b, hb⟩
 ·exact btI6 ⟨a, ha⟩ ⟨b, hb⟩
theorem tmod_bd {a g : Int} (hg : Z.G g) : -6 < a.tmod g ∧ a.tmod g < 6 := by
 rcases hg with rfl | rfl
 ·have h1 := Int.tmod_lt_of_pos a (show (0:Int) < 4 by omega); have h2 := Int.lt_tmod_of_pos a (show (0:Int) < 4 by omega); omega
 ·have h1 := Int.tmod_lt_of_pos a (show (0:Int) < 6 by omega); have h2 := Int.lt_tmod_of_pos a (show (0:Int) < 6 by omega); omega
set_option maxRecDepth 100000 in
set_option maxHeartbeats 8000000 in
theorem both_any (g fx fy hx hy : Int) (tf th : Nat) (ff fh : Bool) (w : World) (hg : g = 4 ∨ g = 6) (htf : tf < g.toNat) (hth : th < g.toNat) (hb : nrm g (hx,hy) ≤ 200000000000000000) (h1 : -1000000000000 ≤ fx ∧ fx ≤ 1000000000000) (h2 : -1000000000000 ≤ fy ∧ fy ≤ 1000000000000) :
  Calls Tryd.prog 95 #[.int .i64 (g), .agg #[.int .i64 (tf), .bool (ff), .int .i64 (fx), .int .i64 (fy)], .agg #[.int .i64 (th), .bool (fh), .int .i64 (hx), .int .i64 (hy)]] w fun e w' => e = .returned (mvV (both g ⟨tf,ff,(fx,fy)⟩ ⟨th,fh,(hx,hy)⟩)) ∧ Below w.heap.size w w' := by
 have hbt := btI hg htf hth
 have hgl : g ≤ 6 := by omega
 have m1 := tmod_bd (a := (tf:Int) + th) hg
 have m2 := tmod_bd (a := (tf:Int) - th) hg
 have hg0 : g ≠ 0 := by omega
 have e1 : ((tf:Int) + th).tmod g = ((tf:Int) + th) % g := Int.tmod_eq_emod_of_nonneg (by omega)
 rw [e1] at hbt m1
 clear e1
 cases ff with
 | false =>
  have hT : (bothT g ⟨tf,false,(fx,fy)⟩ ⟨th,fh,(hx,hy)⟩ : Int) = (((tf:Int) + th) % g + g).tmod g := by rw [hbt.1]; rfl
  clear hbt
  cases fh with
  | false =>
   have hT1 := hT
   clear hT
   (have HT : Hid (mvV (both g ⟨tf,false,(fx,fy)⟩ ⟨th,false,(hx,hy)⟩) = .agg #[.int .i64 ((((tf:Int) + th) % g + g).tmod g), .bool (false), .int .i64 ((To g ⟨tf,false,(fx,fy)⟩ (hx,hy)).1), .int .i64 ((To g ⟨tf,false,(fx,fy)⟩ (hx,hy)).2)]) := Lib.hid (by simp only [mvV, both]; rw [hT1]; rfl); clear hT1; go_enter Tryd.func95, Tryd.ntmps95; go_wp2_with fail; (refine wp_region_ext_tail 18 (by kernel_rfl) (by kernel_rfl) ?_; simp only [List.take_succ_cons, List.take_zero, List.drop_succ_cons, List.drop_zero]; (repeat (first | ((with_reducible refine ext_step (fun K hK => ?_)); go_simp; first | (refine hK _ ?_; clear hK K) | (apply Exists.intro; refine ⟨fun _ _ => ?_, hK _ ?_⟩; (go_at_call 74; exact extOf (apply_any g hx hy fx fy tf false _ hg (by omega) hb h1 h2)); clear hK K)))); refine wpQuiet_nil ?_; intro E d); go_wp2; refine bodyPost_ret (v := .agg #[.int .i64 ((((tf:Int) + th) % g + g).tmod g), .bool (false), .int .i64 ((To g ⟨tf,false,(fx,fy)⟩ (hx,hy)).1), .int .i64 ((To g ⟨tf,false,(fx,fy)⟩ (hx,hy)).2)]) (by simp [results, Tryd.results95, go_sem]) rfl ⟨by rw [HT.out], blw⟩)
  | true =>
   have hT1 := hT
   clear hT
   (have HT : Hid (mvV (both g ⟨tf,false,(fx,fy)⟩ ⟨th,true,(hx,hy)⟩) = .agg #[.int .i64 ((((tf:Int) + th) % g + g).tmod g), .bool (true), .int .i64 ((To g ⟨tf,false,(fx,fy)⟩ (hx,hy)).1), .int .i64 ((To g ⟨tf,false,(fx,fy)⟩ (hx,hy)).2)]) := Lib.hid (by simp only [mvV, both]; rw [hT1]; rfl); clear hT1; go_enter Tryd.func95, Tryd.ntmps95; go_wp2_with fail; (refine wp_region_ext_tail 18 (by kernel_rfl) (by kernel_rfl) ?_; simp only [List.take_succ_cons, List.take_zero, List.drop_succ_cons, List.drop_zero]; (repeat (first | ((with_reducible refine ext_step (fun K hK => ?_)); go_simp; first | (refine hK _ ?_; clear hK K) | (apply Exists.intro; refine ⟨fun _ _ => ?_, hK _ ?_⟩; (go_at_call 74; exact extOf (apply_any g hx hy fx fy tf false _ hg (by omega) hb h1 h2)); clear hK K)))); refine wpQuiet_nil ?_; intro E d); go_wp2; refine bodyPost_ret (v := .agg #[.int .i64 ((((tf:Int) + th) % g + g).tmod g), .bool (true), .int .i64 ((To g ⟨tf,false,(fx,fy)⟩ (hx,hy)).1), .int .i64 ((To g ⟨tf,false,(fx,fy)⟩ (hx,hy)).2)]) (by simp [results, Tryd.results95, go_sem]) rfl ⟨by rw [HT.out], blw⟩)
 | true =>
  have hT : (bothT g ⟨tf,true,(fx,fy)⟩ ⟨th,fh,(hx,hy)⟩ : Int) = (((tf:Int) - th).tmod g + g).tmod g := by rw [hbt.2]; rfl
  clear hbt
  cases fh with
  | false =>
   have hT1 := hT
   clear hT
   (have HT : Hid (mvV (both g ⟨tf,true,(fx,fy)⟩ ⟨th,false,(hx,hy)⟩) = .agg #[.int .i64 ((((tf:Int) - th).tmod g + g).tmod g), .bool (true), .int .i64 ((To g ⟨tf,true,(fx,fy)⟩ (hx,hy)).1), .int .i64 ((To g ⟨tf,true,(fx,fy)⟩ (hx,hy)).2)]) := Lib.hid (by simp only [mvV, both]; rw [hT1]; rfl); clear hT1; go_enter Tryd.func95, Tryd.ntmps95; go_wp2_with fail; (refine wp_region_ext_tail 18 (by kernel_rfl) (by kernel_rfl) ?_; simp only [List.take_succ_cons, List.take_zero, List.drop_succ_cons, List.drop_zero]; (repeat (first | ((with_reducible refine ext_step (fun K hK => ?_)); go_simp; first | (refine hK _ ?_; clear hK K) | (apply Exists.intro; refine ⟨fun _ _ => ?_, hK _ ?_⟩; (go_at_call 74; exact extOf (apply_any g hx hy fx fy tf true _ hg (by omega) hb h1 h2)); clear hK K)))); refine wpQuiet_nil ?_; intro E d); go_wp2; refine bodyPost_ret (v := .agg #[.int .i64 ((((tf:Int) - th).tmod g + g).tmod g), .bool (true), .int .i64 ((To g ⟨tf,true,(fx,fy)⟩ (hx,hy)).1), .int .i64 ((To g ⟨tf,true,(fx,fy)⟩ (hx,hy)).2)]) (by simp [results, Tryd.results95, go_sem]) rfl ⟨by rw [HT.out], blw⟩)
  | true =>
   have hT1 := hT
   clear hT
   (have HT : Hid (mvV (both g ⟨tf,true,(fx,fy)⟩ ⟨th,true,(hx,hy)⟩) = .agg #[.int .i64 ((((tf:Int) - th).tmod g + g).tmod g), .bool (false), .int .i64 ((To g ⟨tf,true,(fx,fy)⟩ (hx,hy)).1), .int .i64 ((To g ⟨tf,true,(fx,fy)⟩ (hx,hy)).2)]) := Lib.hid (by simp only [mvV, both]; rw [hT1]; rfl); clear hT1; go_enter Tryd.func95, Tryd.ntmps95; go_wp2_with fail; (refine wp_region_ext_tail 18 (by kernel_rfl) (by kernel_rfl) ?_; simp only [List.take_succ_cons, List.take_zero, List.drop_succ_cons, List.drop_zero]; (repeat (first | ((with_reducible refine ext_step (fun K hK => ?_)); go_simp; first | (refine hK _ ?_; clear hK K) | (apply Exists.intro; refine ⟨fun _ _ => ?_, hK _ ?_⟩; (go_at_call 74; exact extOf (apply_any g hx hy fx fy tf true _ hg (by omega) hb h1 h2)); clear hK K)))); refine wpQuiet_nil ?_; intro E d); go_wp2; refine bodyPost_ret (v := .agg #[.int .i64 ((((tf:Int) - th).tmod g + g).tmod g), .bool (false), .int .i64 ((To g ⟨tf,true,(fx,fy)⟩ (hx,hy)).1), .int .i64 ((To g ⟨tf,true,(fx,fy)⟩ (hx,hy)).2)]) (by simp [results, Tryd.results95, go_sem]) rfl ⟨by rw [HT.out], blw⟩)
end
section
open Go.RowKit
open Z (IsGcd nrm Mv To lin mir okT idm both bothT)
def wE (g t x y : Int) : Int := if fltE g [(x,y)] ≠ 0 then fltE g [(x,y)] else if t < 0 ∨ g ≤ t then 3 else 0
theorem lfP30 {P : Prop} (h : P := by
 clear he
 go_enter Tryd.func36, Tryd.ntmps36
 go_wp2_with fail
 refine (fault_any g (w.heap.size+1) 1 1 [(x,y)] _ rfl (by simp) (one_cells (by simp [go_sem]) (by simp [go_sem])) HW.out (by omega)).mono ?_
 rintro e w1 ⟨rfl, hb1⟩
 obtain ⟨E1, d1, rfl⟩ := bExt hb1; clear hb1
 rw [HE.out]
 go_wp2
 go_ret
 exact ⟨by rw [HT.out]; rfl, blw⟩) : P := h
set_option maxRecDepth 100000 in
set_option maxHeartbeats 8000000 in
theorem Wrong_any (g t x y : Int) (f : Bool) (w : World) (hw : (-9223372036854775808 ≤ g ∧ g ≤ 9223372036854775807)) (ht : (-9223372036854775808 ≤ t ∧ t ≤ 9223372036854775807)) (h0 : (-9223372036854775808 ≤ x ∧ x ≤ 9223372036854775807)) (h1 : (-9223372036854775808 ≤ y ∧ y ≤ 9223372036854775807)) :
  Calls Tryd.prog 36 #[.int .i64 (g), .agg #[.int .i64 (t), .bool (f), .int .i64 (x), .int .i64 (y)]] w fun e w' => e = .returned (.int .i64 (wE g t x y)) ∧ Below w.heap.size w w' := by
 have HW := Lib.hid (one_wf h0 h1)
 clear h0 h1
 by_cases he : fltE g [(x,y)] = 0
 ·have HE := Lib.hid he
  by_cases ha : t < 0
  ·have HT : Hid (wE g t x y = 3) := Lib.hid (by simp [wE, he, ha])
   exact lfP30
  ·by_cases hb : g ≤ t
   ·have HT : Hid (wE g t x y = 3) := Lib.hid (by simp [wE, he, hb])
    exact lfP30
   ·have HT : Hid (wE g t x y = 0) := Lib.hid (by simp [wE, he, ha, hb])
    exact lfP30
 ·have hb : (fltE g [(x,y)] != 0) = true := by simpa using he
  have HT : Hid (wE g t x y = fltE g [(x,y)]) := Lib.hid (by simp [wE, he])
  clear he
  go_enter Tryd.func36, Tryd.ntmps36
  go_wp2_with fail
  refine (fault_any g (w.heap.size+1) 1 1 [(x,y)] _ rfl (by simp) (one_cells (by simp [go_sem]) (by simp [go_sem])) HW.out (by omega)).mono ?_
  rintro e w1 ⟨rfl, hb1⟩
  obtain ⟨E1, d1, rfl⟩ := bExt hb1; clear hb1
  go_wp2
  go_ret
  exact ⟨by rw [HT.out]; rfl, blw⟩
theorem wE_zero {g t x y : Int} (h : wE g t x y = 0) : (g = 4 ∨ g = 6) ∧ (-1048576 ≤ x ∧ x ≤ 1048576 ∧ -1048576 ≤ y ∧ y ≤ 1048576) ∧ ∃ n : Nat, t = n ∧ n < g.toNat := by
 unfold wE at h
 split at h
 ·exact absurd h (by assumption)
 ·rename_i h0
  split at h
  ·omega
  ·obtain ⟨hg, hs⟩ := fltE_one_ok (Decidable.not_not.1 h0)
   exact ⟨hg, hs, t.toNat, by omega, by omega⟩
theorem nrm_sm {g x y : Int} (hg : Z.G g) (h : -1048576 ≤ x ∧ x ≤ 1048576 ∧ -1048576 ≤ y ∧ y ≤ 1048576) : nrm g (x,y) ≤ 3 * (1048576 * 1048576) := Z.nrm_bd hg (a := (x,y)) (B := 1048576) ⟨h.1, h.2.1⟩ h.2.2
def apV (g t : Int) (f : Bool) (ox oy x y : Int) : Value :=
 if wE g t ox oy ≠ 0 then .tuple #[.agg #[.int .i64 (0), .int .i64 (0)], .int .i64 (wE g t ox oy)] else if smB x y = false then .tuple #[.agg #[.int .i64 (0), .int .i64 (0)], .int .i64 (3)]
 else .tuple #[.agg #[.int .i64 (tdX (To g ⟨t.toNat,f,(ox,oy)⟩ (x,y)).1 (To g ⟨t.toNat,f,(ox,oy)⟩ (x,y)).2), .int .i64 (tdY (To g ⟨t.toNat,f,(ox,oy)⟩ (x,y)).1 (To g ⟨t.toNat,f,(ox,oy)⟩ (x,y)).2)], .int .i64 (tdE (To g ⟨t.toNat,f,(ox,oy)⟩ (x,y)).1 (To g ⟨t.toNat,f,(ox,oy)⟩ (x,y)).2)]
set_option maxRecDepth 100000 in
set_option maxHeartbeats 8000000 in
theorem Apply_any (g t ox oy x y : Int) (f : Bool) (w : World) (hw : (-9223372036854775808 ≤ g ∧ g ≤ 9223372036854775807)) (ht : (-9223372036854775808 ≤ t ∧ t ≤ 9223372036854775807)) (h0 : (-9223372036854775808 ≤ ox ∧ ox ≤ 9223372036854775807)) (h1 : (-9223372036854775808 ≤ oy ∧ oy ≤ 9223372036854775807)) (h2 : (-9223372036854775808 ≤ x ∧ x ≤ 9223372036854775807)) (h3 : (-9223372036854775808 ≤ y ∧ y ≤ 9223372036854775807)) :
  Calls Tryd.prog 53 #[.int .i64 (g), .agg #[.int .i64 (t), .bool (f), .int .i64 (ox), .int .i64 (oy)], .agg #[.int .i64 (x), .int .i64 (y)]] w fun e w' => e = .returned (apV g t f ox oy x y) ∧ Below w.heap.size w w' := by
 have HWR := Lib.hid (Wrong_any g t ox oy f)
 by_cases he : wE g t ox oy = 0
 ·obtain ⟨hg, hs, n, rfl, hn⟩ := wE_zero he
  have hk : knB g = true := by simp [knB]; exact hg
  cases hz : smB x y with
  | false =>
   have HT : Hid (apV g n f ox oy x y = .tuple #[.agg #[.int .i64 (0), .int .i64 (0)], .int .i64 (3)]) := Lib.hid (by simp [apV, he, hz])
   have HF : Hid (fltE g [(x,y)] = 3) := Lib.hid (by simp [fltE, hk, smL, hz])
   have HE := Lib.hid he
   have HW := Lib.hid (one_wf h2 h3)
   clear he hz hk
   go_enter Tryd.func53, Tryd.ntmps53
   (go_wp2_with fail; refine (HWR.out _ hw ht h0 h1).mono ?_; rintro r w1 ⟨rfl, hb⟩; obtain ⟨E, d, rfl⟩ := bExt hb; clear hb)
   rw [HE.out]
   go_wp2_with fail
   refine (fault_any g _ 1 1 [(x,y)] _ rfl (by simp) (one_cells (by simp [go_sem]) (by simp [go_sem])) HW.out (by omega)).mono ?_
   rintro e w1 ⟨rfl, hb1⟩
   obtain ⟨E1, d1, rfl⟩ := bExt hb1; clear hb1
   rw [HF.out]
   go_wp2
   refine bodyPost_ret (v := .tuple #[.agg #[.int .i64 (0), .int .i64 (0)], .int .i64 (3)]) (by simp [results, Tryd.results53, go_sem]) rfl ⟨by rw [HT.out], blw⟩
  | true =>
   have hz' : -1048576 ≤ x ∧ x ≤ 1048576 ∧ -1048576 ≤ y ∧ y ≤ 1048576 := by simpa [smB] using hz
   have HT : Hid (apV g n f ox oy x y = .tuple #[.agg #[.int .i64 (tdX (To g ⟨n,f,(ox,oy)⟩ (x,y)).1 (To g ⟨n,f,(ox,oy)⟩ (x,y)).2), .int .i64 (tdY (To g ⟨n,f,(ox,oy)⟩ (x,y)).1 (To g ⟨n,f,(ox,oy)⟩ (x,y)).2)], .int .i64 (tdE (To g ⟨n,f,(ox,oy)⟩ (x,y)).1 (To g ⟨n,f,(ox,oy)⟩ (x,y)).2)]) := Lib.hid (by simp [apV, he, hz])
   have HF : Hid (fltE g [(x,y)] = 0) := Lib.hid (by simp [fltE, hk, smL, hz])
   have HE := Lib.hid he
   have HW := Lib.hid (one_wf h2 h3)
   have hb := nrm_sm hg hz'
   have hbo := nrm_sm hg hs
   have hbT := Z.nrm_To hg ⟨n,f,(ox,oy)⟩ (x,y)
   have bT := parts_of hg (p := To g ⟨n,f,(ox,oy)⟩ (x,y)) (by simp only at hbT; omega)
   clear he hz hk hbT hbo
   go_enter Tryd.func53, Tryd.ntmps53
   (go_wp2_with fail; refine (HWR.out _ hw ht h0 h1).mono ?_; rintro r w1 ⟨rfl, hb⟩; obtain ⟨E, d, rfl⟩ := bExt hb; clear hb)
   rw [HE.out]
   go_wp2_with fail
   refine (fault_any g _ 1 1 [(x,y)] _ rfl (by simp) (one_cells (by simp [go_sem]) (by simp [go_sem])) HW.out (by omega)).mono ?_
   rintro e w1 ⟨rfl, hb1⟩
   obtain ⟨E1, d1, rfl⟩ := bExt hb1; clear hb1
   rw [HF.out]
   (go_wp2_with fail; refine (apply_any g x y ox oy n f _ hg (by omega) (by omega) (by omega) (by omega)).mono ?_; rintro r w1 ⟨rfl, hb⟩; obtain ⟨E, d, rfl⟩ := bExt hb; clear hb)
   generalize To g ⟨n,f,(ox,oy)⟩ (x,y) = p at *
   (go_wp2_with fail; refine (told_any p.1 p.2 _ (by omega) (by omega)).mono ?_; rintro r w1 ⟨rfl, hb⟩; obtain ⟨E, d, rfl⟩ := bExt hb; clear hb)
   go_wp2
   refine bodyPost_ret (v := .tuple #[.agg #[.int .i64 (tdX p.1 p.2), .int .i64 (tdY p.1 p.2)], .int .i64 (tdE p.1 p.2)]) (by simp [results, Tryd.results53, go_sem]) rfl ⟨by rw [HT.out], blw⟩
 ·have hb : (wE g t ox oy != 0) = true := by simpa using he
  have HT : Hid (apV g t f ox oy x y = .tuple #[.agg #[.int .i64 (0), .int .i64 (0)], .int .i64 (wE g t ox oy)]) := Lib.hid (by simp [apV, he])
  clear he
  go_enter Tryd.func53, Tryd.ntmps53
  (go_wp2_with fail; refine (HWR.out _ hw ht h0 h1).mono ?_; rintro r w1 ⟨rfl, hb⟩; obtain ⟨E, d, rfl⟩ := bExt hb; clear hb)
  go_wp2
  refine bodyPost_ret (v := .tuple #[.agg #[.int .i64 (0), .int .i64 (0)], .int .i64 (wE g t ox oy)]) (by simp [results, Tryd.results53, go_sem]) rfl ⟨by rw [HT.out], blw⟩
end
section
open Go.RowKit
open Z (IsGcd nrm Mv To lin mir okT idm both bothT)
end
section
open Go.RowKit
open Z (IsGcd nrm Mv To lin mir okT idm both bothT)
end
section
open Go.RowKit
open Z (IsGcd nrm Mv To lin mir okT idm both bothT)
end
section
open Go.RowKit
open Z (IsGcd nrm Mv To lin mir okT idm both bothT)
def coV (g tf : Int) (ff : Bool) (fx fy th : Int) (fh : Bool) (hx hy : Int) : Value :=
 if wE g tf fx fy ≠ 0 then .tuple #[.agg #[.int .i64 (0), .bool (false), .int .i64 (0), .int .i64 (0)], .int .i64 (wE g tf fx fy)] else if wE g th hx hy ≠ 0 then .tuple #[.agg #[.int .i64 (0), .bool (false), .int .i64 (0), .int .i64 (0)], .int .i64 (wE g th hx hy)]
 else if smB (both g ⟨tf.toNat,ff,(fx,fy)⟩ ⟨th.toNat,fh,(hx,hy)⟩).o.1 (both g ⟨tf.toNat,ff,(fx,fy)⟩ ⟨th.toNat,fh,(hx,hy)⟩).o.2 = false then .tuple #[.agg #[.int .i64 (0), .bool (false), .int .i64 (0), .int .i64 (0)], .int .i64 (4)]
 else .tuple #[mvV (both g ⟨tf.toNat,ff,(fx,fy)⟩ ⟨th.toNat,fh,(hx,hy)⟩), .int .i64 (0)]
theorem mvV_ex (m : Mv) : ∃ t f x y, m = ⟨t, f, (x, y)⟩ := ⟨m.t, m.f, m.o.1, m.o.2, rfl⟩
end
section
open Go.RowKit
open Z (IsGcd nrm Mv To lin mir okT idm both bothT)
def cmpW (w : World) (tf : Int) (ff : Bool) (fx fy th : Int) (fh : Bool) (hx hy : Int) : World :=
 (((w.alloc (.cells #[.int .i64 (tf), .bool ff, .int .i64 (fx), .int .i64 (fy)] 56)).alloc (.cells #[.int .i64 (th), .bool fh, .int .i64 (hx), .int .i64 (hy)] 56)).alloc (.cells #[.int .i64 (0), .bool false, .int .i64 (0), .int .i64 (0)] 56)).alloc (.cells #[.int .i64 (tf), .bool ff, .int .i64 (fx), .int .i64 (fy), .int .i64 (th), .bool fh, .int .i64 (hx), .int .i64 (hy)] 56)
set_option maxRecDepth 100000 in
set_option maxHeartbeats 8000000 in
theorem Compose_any (g tf fx fy th hx hy : Int) (ff fh : Bool) (w : World) (hw : (-9223372036854775808 ≤ g ∧ g ≤ 9223372036854775807)) (ht : (-9223372036854775808 ≤ tf ∧ tf ≤ 9223372036854775807)) (h0 : (-9223372036854775808 ≤ fx ∧ fx ≤ 9223372036854775807)) (h1 : (-9223372036854775808 ≤ fy ∧ fy ≤ 9223372036854775807)) (ht2 : (-9223372036854775808 ≤ th ∧ th ≤ 9223372036854775807)) (h2 : (-9223372036854775808 ≤ hx ∧ hx ≤ 9223372036854775807)) (h3 : (-9223372036854775808 ≤ hy ∧ hy ≤ 9223372036854775807)) :
  Calls Tryd.prog 88 #[.int .i64 (g), .agg #[.int .i64 (tf), .bool (ff), .int .i64 (fx), .int .i64 (fy)], .agg #[.int .i64 (th), .bool (fh), .int .i64 (hx), .int .i64 (hy)]] w fun e w' => e = .returned (coV g tf ff fx fy th fh hx hy) ∧ Below w.heap.size w w' := by
 have HWF := Lib.hid (Wrong_any g tf fx fy ff)
 have HWH := Lib.hid (Wrong_any g th hx hy fh)
 go_enter Tryd.func88, Tryd.ntmps88
 go_wp2_with fail
 go_loopw [16] (fun i wr => ∃ (n : Nat) (E : Array Obj) (d : Nat), i = .int .i64 n ∧ n ≤ 2 ∧ (1 ≤ n → wE g tf fx fy = 0) ∧ (2 ≤ n → wE g th hx hy = 0) ∧ wr = extW (cmpW w tf ff fx fy th fh hx hy) E d) (fun i _ => 2 - (intOf i).toNat)
 case atStart => exact ⟨0, #[], _, rfl, by omega, by omega, by omega, extW_zero _⟩
 case round =>
  obtain ⟨n, E, d, rfl, hn, q1, q2, rfl⟩ := hrel
  unfold cmpW
  have hn3 : n = 0 ∨ n = 1 ∨ n = 2 := by omega
  clear hn
  rcases hn3 with rfl | rfl | rfl
  ·clear q1 q2
   by_cases he : wE g tf fx fy = 0
   ·have HE := Lib.hid he
    clear he
    (go_wp2_with fail; refine (HWF.out _ hw ht h0 h1).mono ?_; rintro r w1 ⟨rfl, hb⟩; obtain ⟨E, d, rfl⟩ := bExt hb; clear hb)
    rw [HE.out]
    go_wp2
    go_roundw
    case rel => exact ⟨1, _, _, by go_num, by omega, fun _ => HE.out, by omega, by simp only [alloc_extW, extW_extW]; rfl⟩
    case measure => simp [intOf]
   ·have hb : (wE g tf fx fy != 0) = true := by simpa using he
    have HT : Hid (coV g tf ff fx fy th fh hx hy = .tuple #[.agg #[.int .i64 (0), .bool (false), .int .i64 (0), .int .i64 (0)], .int .i64 (wE g tf fx fy)]) := Lib.hid (by simp [coV, he])
    clear he
    (go_wp2_with fail; refine (HWF.out _ hw ht h0 h1).mono ?_; rintro r w1 ⟨rfl, hb⟩; obtain ⟨E, d, rfl⟩ := bExt hb; clear hb)
    go_wp2
    refine bodyPost_ret (v := .tuple #[.agg #[.int .i64 (0), .bool (false), .int .i64 (0), .int .i64 (0)], .int .i64 (wE g tf fx fy)]) (by simp [results, Tryd.results88, go_sem]) rfl ⟨by rw [HT.out], blw⟩
  ·have HQ1 := Lib.hid (q1 (by omega))
   clear q1 q2
   by_cases he : wE g th hx hy = 0
   ·have HE := Lib.hid he
    clear he
    (go_wp2_with fail; refine (HWH.out _ hw ht2 h2 h3).mono ?_; rintro r w1 ⟨rfl, hb⟩; obtain ⟨E, d, rfl⟩ := bExt hb; clear hb)
    rw [HE.out]
    go_wp2
    go_roundw
    case rel => exact ⟨2, _, _, by go_num, by omega, fun _ => HQ1.out, fun _ => HE.out, by simp only [alloc_extW, extW_extW]; rfl⟩
    case measure => simp [intOf]
   ·have hb : (wE g th hx hy != 0) = true := by simpa using he
    have HT : Hid (coV g tf ff fx fy th fh hx hy = .tuple #[.agg #[.int .i64 (0), .bool (false), .int .i64 (0), .int .i64 (0)], .int .i64 (wE g th hx hy)]) := Lib.hid (by simp [coV, he, HQ1.out])
    clear he
    (go_wp2_with fail; refine (HWH.out _ hw ht2 h2 h3).mono ?_; rintro r w1 ⟨rfl, hb⟩; obtain ⟨E, d, rfl⟩ := bExt hb; clear hb)
    go_wp2
    refine bodyPost_ret (v := .tuple #[.agg #[.int .i64 (0), .bool (false), .int .i64 (0), .int .i64 (0)], .int .i64 (wE g th hx hy)]) (by simp [results, Tryd.results88, go_sem]) rfl ⟨by rw [HT.out], blw⟩
  ·have he := q1 (by omega)
   have he2 := q2 (by omega)
   clear q1 q2
   obtain ⟨hg, hs, n, rfl, hn⟩ := wE_zero he
   obtain ⟨_, hs2, k, rfl, hk⟩ := wE_zero he2
   have nf := nrm_sm hg hs
   have nh := nrm_sm hg hs2
   have hTT := both_any g fx fy hx hy n k ff fh
   have nb := Z.nrm_To hg ⟨n,ff,(fx,fy)⟩ (hx,hy)
   have bo := parts_of hg (p := To g ⟨n,ff,(fx,fy)⟩ (hx,hy)) (by simp only at nb; omega)
   have hbo : (both g ⟨n,ff,(fx,fy)⟩ ⟨k,fh,(hx,hy)⟩).o = To g ⟨n,ff,(fx,fy)⟩ (hx,hy) := rfl
   have hV : coV g n ff fx fy k fh hx hy = if smB (both g ⟨n,ff,(fx,fy)⟩ ⟨k,fh,(hx,hy)⟩).o.1 (both g ⟨n,ff,(fx,fy)⟩ ⟨k,fh,(hx,hy)⟩).o.2 = false then .tuple #[.agg #[.int .i64 (0), .bool (false), .int .i64 (0), .int .i64 (0)], .int .i64 (4)] else .tuple #[mvV (both g ⟨n,ff,(fx,fy)⟩ ⟨k,fh,(hx,hy)⟩), .int .i64 (0)] := by simp [coV, he, he2]
   rw [← hbo] at bo
   clear hbo nb
   obtain ⟨T, FF, X, Y, hm⟩ := mvV_ex (both g ⟨n,ff,(fx,fy)⟩ ⟨k,fh,(hx,hy)⟩)
   rw [hm] at hV bo hTT
   simp only [mvV] at hV hTT
   simp only at bo
   have HTT := Lib.hid hTT
   clear hTT he he2 hm HWF HWH
   have HW := Lib.hid (one_wf (x := X) (y := Y) (by omega) (by omega))
   cases hsm : smB X Y with
   | false =>
    have HT : Hid (coV g n ff fx fy k fh hx hy = .tuple #[.agg #[.int .i64 (0), .bool (false), .int .i64 (0), .int .i64 (0)], .int .i64 (4)]) := Lib.hid (by rw [hV, hsm]; rfl)
    have HS : Hid (smL [(X,Y)] = false) := Lib.hid (by simp [smL, hsm])
    clear hV hsm
    (go_wp2_with fail; refine (HTT.out _ hg hn hk (by omega) (by omega) (by omega)).mono ?_; rintro r w1 ⟨rfl, hb⟩; obtain ⟨E, d, rfl⟩ := bExt hb; clear hb)
    go_wp2_with fail
    refine (small_any _ 1 1 [(X,Y)] _ rfl (by simp) (one_cells (by simp [go_sem]) (by simp [go_sem])) HW.out (by omega)).mono ?_
    rintro e w1 ⟨rfl, hb1⟩
    rw [HS.out]
    obtain ⟨E1, d1, rfl⟩ := bExt hb1; clear hb1
    go_wp2
    refine bodyPost_ret (v := .tuple #[.agg #[.int .i64 (0), .bool (false), .int .i64 (0), .int .i64 (0)], .int .i64 (4)]) (by simp [results, Tryd.results88, go_sem]) rfl ⟨by rw [HT.out], blw⟩
   | true =>
    have HT : Hid (coV g n ff fx fy k fh hx hy = .tuple #[.agg #[.int .i64 (T), .bool (FF), .int .i64 (X), .int .i64 (Y)], .int .i64 (0)]) := Lib.hid (by rw [hV, hsm]; rfl)
    have HS : Hid (smL [(X,Y)] = true) := Lib.hid (by simp [smL, hsm])
    clear hV hsm
    (go_wp2_with fail; refine (HTT.out _ hg hn hk (by omega) (by omega) (by omega)).mono ?_; rintro r w1 ⟨rfl, hb⟩; obtain ⟨E, d, rfl⟩ := bExt hb; clear hb)
    go_wp2_with fail
    refine (small_any _ 1 1 [(X,Y)] _ rfl (by simp) (one_cells (by simp [go_sem]) (by simp [go_sem])) HW.out (by omega)).mono ?_
    rintro e w1 ⟨rfl, hb1⟩
    rw [HS.out]
    obtain ⟨E1, d1, rfl⟩ := bExt hb1; clear hb1
    go_wp2
    refine bodyPost_ret (v := .tuple #[.agg #[.int .i64 (T), .bool (FF), .int .i64 (X), .int .i64 (Y)], .int .i64 (0)]) (by simp [results, Tryd.results88, go_sem]) rfl ⟨by rw [HT.out], blw⟩
end
section
open Go.RowKit
open Z (IsGcd nrm Mv To lin mir okT idm both bothT inv invT neg)
theorem To_o0 (g : Int) (t : Nat) (f : Bool) (z : Z.Pt) : To g ⟨t,f,(0,0)⟩ z = lin g t f z := by simp [To, Z.add]
end
section
open Go.RowKit
open Z (IsGcd nrm Mv To lin mir okT idm both bothT inv invT neg)
end
section
open Go.RowKit
open Z (IsGcd nrm Mv To lin mir okT idm both bothT pw)
end
section
open Go.RowKit
open Z (IsGcd nrm Mv To lin mir okT idm both bothT pw)
end
section
open Go.RowKit
open Z (IsGcd nrm Mv To lin mir okT idm both bothT inv pw)
end
section
open Go.RowKit
open Z (IsGcd nrm Mv To lin mir okT idm both bothT inv pw)
theorem smB_true {x y : Int} (h : smB x y = true) : -1048576 ≤ x ∧ x ≤ 1048576 ∧ -1048576 ≤ y ∧ y ≤ 1048576 := by simpa [smB] using h
structure OkM (g : Int) (m : Mv) : Prop where
 gr : g = 4 ∨ g = 6
 t : m.t < g.toNat
 s : smB m.o.1 m.o.2 = true
theorem OkM.w {g : Int} {m : Mv} (h : OkM g m) : wE g m.t m.o.1 m.o.2 = 0 := by
 have hs := smB_true h.s
 have hg := h.gr
 have ht := h.t
 have hk : knB g = true := by simp [knB]; exact hg
 have hf : fltE g [(m.o.1, m.o.2)] = 0 := by simp [fltE, hk, smL, h.s]
 unfold wE
 rw [if_neg (by simp [hf]), if_neg (by omega)]
theorem coV_ok {g : Int} {f h : Mv} (o1 : OkM g f) (o2 : OkM g h) : coV g f.t f.f f.o.1 f.o.2 h.t h.f h.o.1 h.o.2 = if smB (both g f h).o.1 (both g f h).o.2 = false then .tuple #[.agg #[.int .i64 (0), .bool (false), .int .i64 (0), .int .i64 (0)], .int .i64 (4)] else .tuple #[mvV (both g f h), .int .i64 (0)] := by
 unfold coV
 rw [if_neg (by simp [o1.w]), if_neg (by simp [o2.w])]
 rfl
theorem apV_ok {g : Int} {m : Mv} (o : OkM g m) {z : Z.Pt} (hz : smB z.1 z.2 = true) : apV g m.t m.f m.o.1 m.o.2 z.1 z.2 = .tuple #[.agg #[.int .i64 (tdX (To g m z).1 (To g m z).2), .int .i64 (tdY (To g m z).1 (To g m z).2)], .int .i64 (tdE (To g m z).1 (To g m z).2)] := by
 unfold apV
 rw [if_neg (by simp [o.w]), if_neg (by simp [hz])]
 rfl
end
end Go.Proofs.YtajdoobkfbdgoaaDoor
