/- Lemmas on which the law of this seat rests; each states its own conditions. -/
import Derived.Test.YtajdoobkfbdgoaaDoorC07
set_option linter.unusedVariables false
set_option linter.unusedSimpArgs false
namespace Go.Proofs.YtajdoobkfbdgoaaDoor
section
open Go.RowKit
open Z (torN place pnt Mv To lin okT)
theorem torus_pt {n : Nat} (hn : 0 < n) (z : Z.Pt) : ∃ i j : Nat, z.1 % (n : Int) = i ∧ i < n ∧ z.2 % (n : Int) = j ∧ j < n ∧ place n z = j * n + i := by
 obtain ⟨i, e1, h1, e2⟩ := emod_nat z.1 hn
 obtain ⟨j, e3, h3, e4⟩ := emod_nat z.2 hn
 exact ⟨i, j, e1, h1, e3, h3, by unfold place; rw [e2, e4]⟩
theorem lfGs20 {P : Prop} (h : P := by
 go_wp2_with fail
 (refine wp_region_ext (by kernel_rfl) (by kernel_rfl) ?_; (repeat (first | ((with_reducible refine ext_step (fun K hK => ?_)); go_simp; first | (refine hK _ ?_; clear hK K) | (apply Exists.intro; refine ⟨fun _ _ => ?_, hK _ ?_⟩; fail; clear hK K)))); refine wpQuiet_nil ?_; intro E d)
 go_wp2
 go_ret
 exact ⟨rfl, blw⟩) : P := h
set_option maxRecDepth 100000 in
set_option maxHeartbeats 8000000 in
theorem place_ok (g : Int) (n N : Nat) (a : Option Addr) (c : Nat) (x y : Int) (w : World) (hn : 0 < n) (h24 : n ≤ 24) (hx : (-9223372036854775808 ≤ x ∧ x ≤ 9223372036854775807)) (hy : (-9223372036854775808 ≤ y ∧ y ≤ 9223372036854775807)) :
  Calls Tryd.prog 39 #[.agg #[.int .i64 (g), .int .i64 (n), .slice a N c], .agg #[.int .i64 (x), .int .i64 (y)]] w fun e w' => e = .returned (.int .i64 (place n (x, y))) ∧ Below w.heap.size w w' := by
 obtain ⟨i, j, e1, i1, e3, j1, hp⟩ := torus_pt hn (x, y)
 obtain ⟨M, hM⟩ : ∃ M, j * n = M := ⟨_, rfl⟩
 obtain ⟨p, hpp⟩ : ∃ p, M + i = p := ⟨_, rfl⟩
 have hM4 : M ≤ 576 := by rw [← hM]; exact Nat.mul_le_mul (show j ≤ 24 by omega) h24
 have hMi : (j : Int) * (n : Int) = (M : Int) := by rw [← hM]; push_cast; rfl
 have hMp : (M : Int) + (i : Int) = (p : Int) := by rw [← hpp]; push_cast; rfl
 rw [hM, hpp] at hp
 rw [hp]
 have vM : IntKind.i64.wrap (M : Int) = (M : Int) := IntWalk.i64_in _ (by omega)
 have vp : IntKind.i64.wrap (p : Int) = (p : Int) := IntWalk.i64_in _ (by omega)
 have rx := rest_eq (a := x) hn
 have ry := rest_eq (a := y) hn
 simp only at e1 e3
 rw [e1] at rx
 rw [e3] at ry
 have hx1 := Int.tmod_lt_of_pos x (show (0 : Int) < n by omega)
 have hx2 := Int.lt_tmod_of_pos x (show (0 : Int) < n by omega)
 have hy1 := Int.tmod_lt_of_pos y (show (0 : Int) < n by omega)
 have hy2 := Int.lt_tmod_of_pos y (show (0 : Int) < n by omega)
 have w0 : ((n : Int) == 0) = false := by simp; omega
 have w1 : (n : Int) ≠ 0 := by omega
 have w2 : ¬ n = 0 := by omega
 obtain ⟨tx, htx⟩ : ∃ t, x.tmod (n : Int) = t := ⟨_, rfl⟩
 obtain ⟨ty, hty⟩ : ∃ t, y.tmod (n : Int) = t := ⟨_, rfl⟩
 rw [htx] at rx hx1 hx2
 rw [hty] at ry hy1 hy2
 have v1 : IntKind.i64.wrap tx = tx := IntWalk.i64_in _ (by omega)
 have v2 : IntKind.i64.wrap ty = ty := IntWalk.i64_in _ (by omega)
 clear e1 e3 hM hpp hp hn
 by_cases nx : tx < 0
 ·rw [if_pos nx] at rx
  have d1 : decide (tx < 0) = true := by simpa using nx
  have a1 : tx + (n : Int) = (i : Int) := rx.symm
  have v3 : IntKind.i64.wrap (i : Int) = (i : Int) := IntWalk.i64_in _ (by omega)
  by_cases ny : ty < 0
  ·rw [if_pos ny] at ry
   have d2 : decide (ty < 0) = true := by simpa using ny
   have a2 : ty + (n : Int) = (j : Int) := ry.symm
   have v4 : IntKind.i64.wrap (j : Int) = (j : Int) := IntWalk.i64_in _ (by omega)
   clear rx ry nx ny
   go_enter Tryd.func39, Tryd.ntmps39
   exact lfGs20
  ·rw [if_neg ny] at ry
   have d2 : decide (ty < 0) = false := by simpa using ny
   subst ry
   clear rx nx ny
   go_enter Tryd.func39, Tryd.ntmps39
   exact lfGs20
 ·rw [if_neg nx] at rx
  have d1 : decide (tx < 0) = false := by simpa using nx
  subst rx
  by_cases ny : ty < 0
  ·rw [if_pos ny] at ry
   have d2 : decide (ty < 0) = true := by simpa using ny
   have a2 : ty + (n : Int) = (j : Int) := ry.symm
   have v4 : IntKind.i64.wrap (j : Int) = (j : Int) := IntWalk.i64_in _ (by omega)
   clear ry nx ny
   go_enter Tryd.func39, Tryd.ntmps39
   exact lfGs20
  ·rw [if_neg ny] at ry
   have d2 : decide (ty < 0) = false := by simpa using ny
   subst ry
   clear nx ny
   go_enter Tryd.func39, Tryd.ntmps39
   exact lfGs20
def intsN (l : List Nat) : List Int := l.map fun (k : Nat) => (k : Int)
theorem intsN_len (l : List Nat) : (intsN l).length = l.length := by simp [intsN]
theorem intsN_get (l : List Nat) (k : Nat) : (intsN l).getD k 0 = (l.getD k 0 : Nat) := by
 unfold intsN
 rw [List.getD_eq_getElem?_getD, List.getElem?_map, List.getD_eq_getElem?_getD]
 cases l[k]? <;> rfl
def keepsL (xs : List Int) (tos : List Nat) (n : Nat) (o : Z.Pt) : Bool := (List.range (n * n)).all fun k => decide (xs.getD k 0 = xs.getD (place n (Z.add (pnt n (tos.getD k 0)) o)) 0)
theorem keepsL_true {xs : List Int} {tos : List Nat} {n : Nat} {o : Z.Pt} (h : ∀ k, k < n * n → xs.getD k 0 = xs.getD (place n (Z.add (pnt n (tos.getD k 0)) o)) 0) : keepsL xs tos n o = true := by
 unfold keepsL; rw [List.all_eq_true]; exact fun k hk => decide_eq_true (h k (List.mem_range.1 hk))
theorem keepsL_false {xs : List Int} {tos : List Nat} {n k : Nat} {o : Z.Pt} (hk : k < n * n) (h : ¬ xs.getD k 0 = xs.getD (place n (Z.add (pnt n (tos.getD k 0)) o)) 0) : keepsL xs tos n o = false := by
 unfold keepsL; rw [List.all_eq_false]; exact ⟨k, List.mem_range.2 hk, by simpa using h⟩
theorem keepsL_eq {W H n : Nat} {cs : List Int} {g : Int} {t : Nat} {f : Bool} {o : Z.Pt} (hn : 0 < n) (hW : W ∣ n) (hH : H ∣ n) : keepsL (Z.laidL W H cs n) (Z.imageL g n t f) n o = Z.keepB W H cs g n ⟨t, f, o⟩ := by
 unfold keepsL Z.keepB
 rw [Bool.eq_iff_iff, List.all_eq_true, List.all_eq_true]
 refine forall_congr' fun k => forall_congr' fun hk => ?_
 rw [Z.keeps_at hn hW hH (List.mem_range.1 hk), Z.laidL_get (List.mem_range.1 hk)]
set_option maxRecDepth 100000 in
set_option maxHeartbeats 8000000 in
theorem keeps_ok (g : Int) (n N : Nat) (a ta : Option Addr) (c tc : Nat) (xs : List Int) (tos : List Nat) (ox oy : Int) (w : World) (hn : 0 < n) (h24 : n ≤ 24) (hN : n * n = N) (hI : IsInts w a N xs) (hT : IsInts w ta N (intsN tos)) (hlt : ∀ k, k < N → tos.getD k 0 < N) (hx : -1000000000000 ≤ ox ∧ ox ≤ 1000000000000) (hy : -1000000000000 ≤ oy ∧ oy ≤ 1000000000000) :
  Calls Tryd.prog 72 #[.agg #[.int .i64 (g), .int .i64 (n), .slice a N c], .slice ta N tc, .agg #[.int .i64 (ox), .int .i64 (oy)]] w fun e w' => e = .returned (.bool (keepsL xs tos n (ox, oy))) ∧ Below w.heap.size w w' := by
 have hN6 : N ≤ 576 := by rw [← hN]; exact Nat.mul_le_mul h24 h24
 have HP := Lib.hid (fun x y w h1 h2 => place_ok g n N a c x y w hn h24 h1 h2)
 have HF : Hid (∀ k, k < N → ¬ xs.getD k 0 = xs.getD (place n (Z.add (pnt n (tos.getD k 0)) (ox, oy))) 0 → keepsL xs tos n (ox, oy) = false) := Lib.hid fun k hk h => keepsL_false (by rw [hN]; exact hk) h
 have HTr : Hid ((∀ k, k < N → xs.getD k 0 = xs.getD (place n (Z.add (pnt n (tos.getD k 0)) (ox, oy))) 0) → keepsL xs tos n (ox, oy) = true) := Lib.hid fun h => keepsL_true (by rw [hN]; exact h)
 have HPL : Hid (∀ z, place n z < N) := Lib.hid fun z => by rw [← hN]; exact Z.place_lt hn z
 have HNN := Lib.hid hN
 have HI := Lib.hid hI; have HT := Lib.hid hT; have HL := Lib.hid hlt
 generalize keepsL xs tos n (ox, oy) = kk at *
 clear hI hT hlt hN
 go_enter Tryd.func72, Tryd.ntmps72
 go_wp2_with fail
 go_loopw [12] (fun i wr => ∃ (k : Nat) (E : Array Obj) (d : Nat), k ≤ N ∧ i = .int .i64 k ∧ Hid (∀ j, j < k → xs.getD j 0 = xs.getD (place n (Z.add (pnt n (tos.getD j 0)) (ox, oy))) 0) ∧ wr = extW ((w.alloc (.cells #[.int .i64 g, .int .i64 n, .slice a N c] 93)).alloc (.cells #[.int .i64 (ox), .int .i64 (oy)] 52)) E d) (fun i _ => N - (intOf i).toNat)
 case atStart => exact ⟨0, #[], _, by omega, rfl, Lib.hid fun j h => absurd h (by omega), extW_zero _⟩
 case round =>
  obtain ⟨k, E, d, hk, rfl, HK, rfl⟩ := hrel
  by_cases hkN : k < N
  ·obtain ⟨tb, to', rfl, htb, htc⟩ := HT.out.2 (by omega)
   obtain ⟨b, o, rfl, hb, hc⟩ := HI.out.2 (by omega)
   have c0 := htc k hkN
   have c1 := hc k hkN
   rw [intsN_get] at c0
   have l0 : LtW tb w := htb
   have l1 : LtW b w := hb
   have hpN := HL.out k hkN
   obtain ⟨p, hp⟩ : ∃ p, tos.getD k 0 = p := ⟨_, rfl⟩
   have HF1 := Lib.hid (HF.out k hkN)
   rw [hp] at c0 hpN HF1
   obtain ⟨u, hu⟩ : ∃ u, p % n = u := ⟨_, rfl⟩
   obtain ⟨v, hv⟩ : ∃ v, p / n = v := ⟨_, rfl⟩
   have hu1 : u < n := by rw [← hu]; exact Nat.mod_lt _ hn
   have hv1 : v < n := by rw [← hv]; exact Nat.div_lt_of_lt_mul (by rw [HNN.out]; exact hpN)
   have hpn : Z.add (pnt n p) (ox, oy) = ((u : Int) + ox, (v : Int) + oy) := by unfold pnt Z.add; rw [hu, hv]
   have t1 : (p : Int).tmod (n : Int) = (u : Int) := by rw [← hu]; rfl
   have t2 : (p : Int).tdiv (n : Int) = (v : Int) := by rw [← hv]; rfl
   have v1 : IntKind.i64.wrap (u : Int) = (u : Int) := IntWalk.i64_in _ (by omega)
   have v2 : IntKind.i64.wrap (v : Int) = (v : Int) := IntWalk.i64_in _ (by omega)
   have v3 : IntKind.i64.wrap ((u : Int) + ox) = (u : Int) + ox := IntWalk.i64_in _ (by omega)
   have v4 : IntKind.i64.wrap ((v : Int) + oy) = (v : Int) + oy := IntWalk.i64_in _ (by omega)
   have b1 : ((n : Int) == 0) = false := by simp; omega
   have b2 : (n : Int) ≠ 0 := by omega
   have b3 : ¬ n = 0 := by omega
   rw [hpn] at HF1
   have HP1 := Lib.hid (fun w => HP.out ((u : Int) + ox) ((v : Int) + oy) w (by omega) (by omega))
   have hq := HPL.out ((u : Int) + ox, (v : Int) + oy)
   have HE : Hid (place n (Z.add (pnt n (tos.getD k 0)) (ox, oy)) = place n ((u : Int) + ox, (v : Int) + oy)) := Lib.hid (by rw [hp, hpn])
   generalize place n ((u : Int) + ox, (v : Int) + oy) = q at *
   have c2 := hc q hq
   obtain ⟨X1, hX1⟩ : ∃ X, xs.getD k 0 = X := ⟨_, rfl⟩
   obtain ⟨X2, hX2⟩ : ∃ X, xs.getD q 0 = X := ⟨_, rfl⟩
   rw [hX1] at c1 HF1
   rw [hX2] at c2 HF1
   have HX1 := Lib.hid hX1; have HX2 := Lib.hid hX2
   clear hc htc hb htb hu hv hp hpn HP HX1 HX2 hn
   by_cases hxx : X1 = X2
   ·have hd : (X1 != X2) = false := by simpa using hxx
    have HR : Hid (xs.getD k 0 = xs.getD (place n (Z.add (pnt n (tos.getD k 0)) (ox, oy))) 0) := Lib.hid (by rw [HE.out, hX1, hX2]; exact hxx)
    clear hX1 hX2 hxx HE
    go_wp2_with fail
    (refine wp_region_ext (by kernel_rfl) (by kernel_rfl) ?_; (repeat (first | ((with_reducible refine ext_step (fun K hK => ?_)); go_simp; first | (refine hK _ ?_; clear hK K) | (apply Exists.intro; refine ⟨fun _ _ => ?_, hK _ ?_⟩; (go_at_call 39; exact extOf (HP1.out _)); clear hK K)))); refine wpQuiet_nil ?_; intro E d)
    go_wp2_with fail
    (refine wp_region_ext (by kernel_rfl) (by kernel_rfl) ?_; (repeat (first | ((with_reducible refine ext_step (fun K hK => ?_)); go_simp; first | (refine hK _ ?_; clear hK K) | (apply Exists.intro; refine ⟨fun _ _ => ?_, hK _ ?_⟩; fail; clear hK K)))); refine wpQuiet_nil ?_; intro E d)
    go_wp2
    go_roundw
    case rel => exact ⟨k + 1, _, _, by omega, by go_num, Lib.hid fun j hj => (by
     by_cases e : j = k
     ·subst e; exact HR.out
     ·exact HK.out j (by omega)), by simp only [extW_extW]; rfl⟩
    case measure => simp [intOf]; omega
   ·have hd : (X1 != X2) = true := by simpa using hxx
    have HV := Lib.hid (HF1.out hxx)
    clear hX1 hX2 hxx HE HF1 HF
    go_wp2_with fail
    (refine wp_region_ext (by kernel_rfl) (by kernel_rfl) ?_; (repeat (first | ((with_reducible refine ext_step (fun K hK => ?_)); go_simp; first | (refine hK _ ?_; clear hK K) | (apply Exists.intro; refine ⟨fun _ _ => ?_, hK _ ?_⟩; (go_at_call 39; exact extOf (HP1.out _)); clear hK K)))); refine wpQuiet_nil ?_; intro E d)
    go_wp2_with fail
    (refine wp_region_ext (by kernel_rfl) (by kernel_rfl) ?_; (repeat (first | ((with_reducible refine ext_step (fun K hK => ?_)); go_simp; first | (refine hK _ ?_; clear hK K) | (apply Exists.intro; refine ⟨fun _ _ => ?_, hK _ ?_⟩; fail; clear hK K)))); refine wpQuiet_nil ?_; intro E d)
    go_wp2
    go_ret
    exact ⟨by rw [HV.out]; rfl, blw⟩
  ·have HV := Lib.hid (HTr.out (fun j hj => HK.out j (by omega)))
   go_wp2
   go_ret
   exact ⟨by rw [HV.out]; rfl, blw⟩
end
section
open Go.RowKit
open Z (torN place pnt Mv To lin okT nrm)
structure GL (e size : Nat) (L : List Value) (k : Nat) (W1 : World) (v : Value) (w : World) : Prop where
 own : w.ownsRow W1.heap.size e size v k L
 bel : Below W1.heap.size W1 w
theorem GL.below {e size k : Nat} {L : List Value} {W1 w w' : World} {v : Value} (h : GL e size L k W1 v w) (hb : Below w.heap.size w w') : GL e size L k W1 v w' :=
 ⟨ownBelow h.own hb, h.bel.trans (hb.mono h.bel.size)⟩
theorem GL.alloc {e size k : Nat} {L : List Value} {W1 w : World} {v : Value} (h : GL e size L k W1 v w) (o : Obj) : GL e size L k W1 v (w.alloc o) :=
 h.below ((Below.refl _ _).alloc (Nat.le_refl _) _)
theorem makeCap {t e bytes : Nat} {z : Value} (hE : ElemOk t e 1 bytes z) (hz : z.cells = #[z]) (n : Nat) (hb : bytes ≤ 4096) (hn : n ≤ 1000000000) : ∀ w : World,
  (Instr.makeSlice t (.int .i64 0) (.int .i64 (n : Int))).run Tryd.prog w = .ok (.slice (some ⟨w.heap.size, 0, none⟩) 0 n) (w.alloc (.cells (madeCells #[z] n) e)) := by
 intro w
 obtain ⟨h2, h3, h4, h5⟩ := hE
 obtain ⟨i0, hi, hz0, hz1, hz2⟩ := info_parts h3
 have hb' : (i0.bytes : Int) * (n : Int) ≤ 281474976710656 := by
  have h : ((i0.bytes * n : Nat) : Int) ≤ 281474976710656 := by
   have : i0.bytes * n ≤ 4096 * 1000000000 := Nat.mul_le_mul (by omega) hn
   omega
  rwa [Int.natCast_mul] at h
 have hr := run_make (P := Tryd.prog) w t e i0 z h2 hi hz0 .i64 .i64 0 n (Int.le_refl _) (by omega) hb' (by omega)
 simp only [Int.toNat_zero, Int.toNat_natCast, hz1, Nat.mul_one, hz] at hr
 exact hr
theorem GL.made (W1 : World) (e n : Nat) (z : Value) (hn : n ≤ 1000000000) : GL e 1 [] 0 W1 (.slice (some ⟨W1.heap.size, 0, none⟩) 0 n) (W1.alloc (.cells (madeCells #[z] n) e)) :=
 ⟨World.ownsRow_made W1 _ n (Nat.le_refl _) (by unfold maxLen; omega) (by rw [size_madeCells]; simp), (Below.refl _ _).alloc (Nat.le_refl _) _⟩
theorem GL.nil (W1 : World) (e size : Nat) : GL e size [] 0 W1 (.slice none 0 0) W1 := ⟨World.ownsRow_nil _ _ _ _, Below.refl _ _⟩
def OwnI (w : World) (base : Nat) (A : Option Addr) (n C : Nat) (L : List Int) : Prop := L.length = n ∧ w.ownsRow base 3 1 (.slice A n C) n (L.map i64v)
theorem OwnI.ints {w : World} {base n C : Nat} {A : Option Addr} {L : List Int} (h : OwnI w base A n C L) : IsInts w A n L := by
 obtain ⟨rfl, h2⟩ := h
 obtain ⟨a, c, e, h3, _⟩ := ints_owns h2
 injection e with e1
 subst e1
 exact h3
theorem OwnI.below {w w' : World} {base n C : Nat} {A : Option Addr} {L : List Int} (h : OwnI w base A n C L) (hb : Below w.heap.size w w') : OwnI w' base A n C L := ⟨h.1, ownBelow h.2 hb⟩
theorem own_neT {w : World} {b e s n b' e' s' n' : Nat} {v v' : Value} {xs xs' : List Value} (h : w.ownsRow b e s v n xs) (h' : w.ownsRow b' e' s' v' n' xs') (hne : e ≠ e') : ∀ k, v'.ownBlock = some k → v.ownBlock ≠ some k := by
 intro k e1 e2
 rcases h.2 with ⟨rfl, _⟩ | ⟨g, cap, cur, rfl, _, hg, _⟩
 ·simp [Value.ownBlock] at e2
 ·rcases h'.2 with ⟨rfl, _⟩ | ⟨g', cap', cur', rfl, _, hg', _⟩
  ·simp [Value.ownBlock] at e1
  ·simp [Value.ownBlock] at e1 e2
   subst e1 e2
   rw [hg] at hg'
   injection hg' with hg'
   injection hg' with _ h5
   exact hne h5
theorem own_grownT {w w' : World} {b e s n b' e' s' n' : Nat} {v v' : Value} {xs xs' : List Value} (h : w.ownsRow b e s v n xs) (h' : w.ownsRow b' e' s' v' n' xs') (hne : e ≠ e') (hg : w.grownBy w' v'.ownBlock) : w'.ownsRow b e s v n xs := by
 have hn := own_neT h h' hne
 refine ⟨h.1, ?_⟩
 rcases h.2 with h2 | ⟨g, cap, cur, e1, hb, hc, h3⟩
 ·exact .inl h2
 ·refine .inr ⟨g, cap, cur, e1, hb, ?_, h3⟩
  rw [hg.block g (Array.getElem?_eq_some_iff.1 hc).1 (fun e2 => hn g e2.symm (by rw [e1]; rfl))]
  exact hc
theorem own_setRow {w : World} {b e s n rb rt rn : Nat} {f : Nat → Value} {v u : Value} {xs : List Value} {i : Nat} (h : w.ownsRow b e s v n xs) (hr : w.rowIs rb rt rn f) (hne : rt ≠ e) : (w.setCell ⟨rb, i, none⟩ u).ownsRow b e s v n xs := by
 refine ⟨h.1, ?_⟩
 rcases h.2 with h2 | ⟨g, cap, cur, e1, hb, hc, h3⟩
 ·exact .inl h2
 ·refine .inr ⟨g, cap, cur, e1, hb, ?_, h3⟩
  rw [Below.heap_setCell _ _ _ g (fun e2 => ?_)]
  ·exact hc
  ·simp only at e2
   subst e2
   obtain ⟨c, h5, _⟩ := hr
   rw [hc] at h5
   injection h5 with h5
   injection h5 with _ h6
   exact hne h6.symm
theorem OwnI.grownT {w w' : World} {base n C b' e' s' n' : Nat} {A : Option Addr} {L : List Int} {v' : Value} {xs' : List Value} (h : OwnI w base A n C L) (h' : w.ownsRow b' e' s' v' n' xs') (hne : 3 ≠ e') (hg : w.grownBy w' v'.ownBlock) : OwnI w' base A n C L := ⟨h.1, own_grownT h.2 h' hne hg⟩
theorem OwnI.setRow {w : World} {base n C rb rt rn i : Nat} {f : Nat → Value} {A : Option Addr} {L : List Int} {u : Value} (h : OwnI w base A n C L) (hr : w.rowIs rb rt rn f) (hne : rt ≠ 3) : OwnI (w.setCell ⟨rb, i, none⟩ u) base A n C L := ⟨h.1, own_setRow h.2 hr hne⟩
theorem own_baseV {w : World} {base base' e size n : Nat} {v : Value} {xs : List Value} (h : w.ownsRow base e size v n xs) (hb : base' ≤ base) : w.ownsRow base' e size v n xs := by
 refine ⟨h.1, ?_⟩
 rcases h.2 with h2 | ⟨g, cap, cur, e1, hb2, h3⟩
 ·exact .inl h2
 ·exact .inr ⟨g, cap, cur, e1, by omega, h3⟩
theorem lin_small {g : Int} (hg : g = 4 ∨ g = 6) (t : Nat) (f : Bool) {x y : Int} (hx : 0 ≤ x ∧ x ≤ 24) (hy : 0 ≤ y ∧ y ≤ 24) : (-48 ≤ (lin g t f (x,y)).1 ∧ (lin g t f (x,y)).1 ≤ 48) ∧ (-48 ≤ (lin g t f (x,y)).2 ∧ (lin g t f (x,y)).2 ≤ 48) := by
 have h1 := Z.nrm_bd hg (a := (x,y)) (B := 24) (by omega) (by omega)
 have h2 := Z.nrm_lin hg t f (x,y)
 exact Z.part_bd hg (by omega) (by rw [h2]; omega)
theorem To_small {g : Int} (hg : g = 4 ∨ g = 6) (t : Nat) (f : Bool) {x y ox oy : Int} (hx : 0 ≤ x ∧ x ≤ 24) (hy : 0 ≤ y ∧ y ≤ 24) (h1 : 0 ≤ ox ∧ ox ≤ 24) (h2 : 0 ≤ oy ∧ oy ≤ 24) : (-72 ≤ (To g ⟨t, f, (ox,oy)⟩ (x,y)).1 ∧ (To g ⟨t, f, (ox,oy)⟩ (x,y)).1 ≤ 72) ∧ (-72 ≤ (To g ⟨t, f, (ox,oy)⟩ (x,y)).2 ∧ (To g ⟨t, f, (ox,oy)⟩ (x,y)).2 ≤ 72) := by
 have h := lin_small hg t f hx hy
 unfold To Z.add
 simp only
 omega
theorem Apply_small (g : Int) (t : Nat) (f : Bool) (ox oy x y : Int) (w : World) (hg : g = 4 ∨ g = 6) (ht : t < g.toNat) (hx : 0 ≤ x ∧ x ≤ 24) (hy : 0 ≤ y ∧ y ≤ 24) (h1 : 0 ≤ ox ∧ ox ≤ 24) (h2 : 0 ≤ oy ∧ oy ≤ 24) :
  Calls Tryd.prog 53 #[.int .i64 (g), .agg #[.int .i64 (t), .bool (f), .int .i64 (ox), .int .i64 (oy)], .agg #[.int .i64 (x), .int .i64 (y)]] w fun e w' => e = .returned (.tuple #[.agg #[.int .i64 ((To g ⟨t, f, (ox,oy)⟩ (x,y)).1), .int .i64 ((To g ⟨t, f, (ox,oy)⟩ (x,y)).2)], .int .i64 (0)]) ∧ Below w.heap.size w w' := by
 have hb := To_small hg t f hx hy h1 h2
 have o1 : OkM g ⟨t, f, (ox, oy)⟩ := ⟨hg, ht, by simp [smB]; omega⟩
 have h3 : smB (To g ⟨t, f, (ox,oy)⟩ (x,y)).1 (To g ⟨t, f, (ox,oy)⟩ (x,y)).2 = true := by simp [smB]; omega
 have h4 := apV_ok o1 (z := (x, y)) (by simp [smB]; omega)
 have h5 := Apply_any g t ox oy x y f w (by omega) (by omega) (by omega) (by omega) (by omega) (by omega)
 simp only [tdX, tdY, tdE, h3, if_true] at h4
 rw [h4] at h5
 exact h5
def imP (g : Int) (n t : Nat) (f : Bool) (m : Nat) : List Value := (List.range m).map fun j => Value.int .i64 (place n (lin g t f (pnt n j)))
theorem imP_succ (g : Int) (n t : Nat) (f : Bool) (m : Nat) : imP g n t f (m + 1) = imP g n t f m ++ [.int .i64 (place n (lin g t f (pnt n m)))] := by
 unfold imP; rw [List.range_succ, List.map_append]; rfl
theorem imP_all (g : Int) (n t : Nat) (f : Bool) : imP g n t f (n * n) = (intsN (Z.imageL g n t f)).map i64v := by
 unfold imP intsN Z.imageL i64v
 rw [List.map_map, List.map_map]; rfl
set_option maxRecDepth 100000 in
set_option maxHeartbeats 8000000 in
theorem image_ok (g : Int) (n N t : Nat) (f : Bool) (a : Option Addr) (c : Nat) (w : World) (hg : g = 4 ∨ g = 6) (ht : t < g.toNat) (hn : 0 < n) (h24 : n ≤ 24) (hN : n * n = N) :
  Calls Tryd.prog 38 #[.agg #[.int .i64 (g), .int .i64 (n), .slice a N c], .agg #[.int .i64 (t), .bool (f), .int .i64 (0), .int .i64 (0)]] w fun e w' => (∃ A C, e = .returned (.slice A N C) ∧ OwnI w' w.heap.size A N C (intsN (Z.imageL g n t f))) ∧ Below w.heap.size w w' := by
 have hN6 : N ≤ 576 := by rw [← hN]; exact Nat.mul_le_mul h24 h24
 have HP := Lib.hid (fun x y w h1 h2 => place_ok g n N a c x y w hn h24 h1 h2)
 have HA := Lib.hid (fun x y w h1 h2 => Apply_small g t f 0 0 x y w hg ht h1 h2 (by omega) (by omega))
 have HLS := Lib.hid (fun (x y : Int) (h1 : 0 ≤ x ∧ x ≤ 24) (h2 : 0 ≤ y ∧ y ≤ 24) => lin_small hg t f h1 h2)
 have HALL := Lib.hid (imP_all g n t f)
 rw [hN] at HALL
 have hNi : (n : Int) * (n : Int) = (N : Int) := by rw [← hN]; push_cast; rfl
 have vN : IntKind.i64.wrap (N : Int) = (N : Int) := IntWalk.i64_in _ (by omega)
 have hmk := makeCap okI8 rfl N (by omega) (by omega)
 have HN := Lib.hid hN
 have hlen : (Z.imageL g n t f).length = N := by rw [Z.imageL_len, hN]
 have HLEN := Lib.hid hlen
 clear hN hg ht hlen
 go_enter Tryd.func38, Tryd.ntmps38
 go_wp2_with fail
 have hG := GL.made ((w.alloc (.cells #[.int .i64 g, .int .i64 n, .slice a N c] 93)).alloc (.cells #[.int .i64 t, .bool f, .int .i64 0, .int .i64 0] 56)) 3 N (.int .i64 0) (by omega)
 rw [World.size_alloc, World.size_alloc] at hG
 obtain ⟨W1, hW1⟩ : ∃ W1, W1 = (w.alloc (.cells #[.int .i64 g, .int .i64 n, .slice a N c] 93)).alloc (.cells #[.int .i64 t, .bool f, .int .i64 0, .int .i64 0] 56) := ⟨_, rfl⟩
 have HB1 : Hid (Below w.heap.size w W1) := Lib.hid (by rw [hW1]; exact blw)
 have hsz : W1.heap.size = w.heap.size + 2 := by rw [hW1, World.size_alloc, World.size_alloc]
 have hs0 : w.heap.size < W1.heap.size := by omega
 have hs1 : w.heap.size + 1 < W1.heap.size := by omega
 have cb0 : W1.cell? ⟨w.heap.size, 0, none⟩ = some (.int .i64 (g)) := by rw [hW1]; simp [go_sem]
 have cb1 : W1.cell? ⟨w.heap.size, 1, none⟩ = some (.int .i64 (n)) := by rw [hW1]; simp [go_sem]
 have cb2 : W1.cell? ⟨w.heap.size, 2, none⟩ = some (.slice a N c) := by rw [hW1]; simp [go_sem]
 have cm0 : W1.cell? ⟨w.heap.size + 1, 0, none⟩ = some (.int .i64 (t)) := by rw [hW1]; simp [go_sem]
 have cm1 : W1.cell? ⟨w.heap.size + 1, 1, none⟩ = some (.bool f) := by rw [hW1]; simp [go_sem]
 have cm2 : W1.cell? ⟨w.heap.size + 1, 2, none⟩ = some (.int .i64 (0)) := by rw [hW1]; simp [go_sem]
 have cm3 : W1.cell? ⟨w.heap.size + 1, 3, none⟩ = some (.int .i64 (0)) := by rw [hW1]; simp [go_sem]
 have HW1 := Lib.hid hW1
 have HSZ := Lib.hid hsz
 have HG0 := Lib.hid hG
 clear hW1 hsz hmk vN hNi hG
 go_loopw [5, 18] (fun ov yv wr => ∃ (y : Nat), y ≤ n ∧ yv = .int .i64 y ∧ Hid (GL 3 1 (imP g n t f (y * n)) (y * n) W1 ov wr)) (fun _ yv _ => n - (intOf yv).toNat)
 case atStart => exact ⟨0, by omega, rfl, Lib.hid (by rw [HW1.out, Nat.zero_mul]; exact HG0.out)⟩
 case round =>
  obtain ⟨y, hy, rfl, HG⟩ := hrel
  have k0 := bCs HG.out.bel cb0
  have k1 := bCs HG.out.bel cb1
  have k2 := bCs HG.out.bel cb2
  have m0 := bCs HG.out.bel cm0
  have m1 := bCs HG.out.bel cm1
  have m2 := bCs HG.out.bel cm2
  have m3 := bCs HG.out.bel cm3
  have lk : LtW w.heap.size wr := Nat.lt_of_lt_of_le hs0 (HG.out.bel).size
  have lm : LtW (w.heap.size + 1) wr := Nat.lt_of_lt_of_le hs1 (HG.out.bel).size
  have hsw : W1.heap.size ≤ (wr).heap.size := (HG.out.bel).size
  by_cases hyn : y < n
  ·have vy : IntKind.i64.wrap ((y : Int) + 1) = (y : Int) + 1 := IntWalk.i64_in _ (by omega)
   have dy : decide ((y : Int) < (n : Int)) = true := by simpa using hyn
   go_wp2_with fail
   obtain ⟨wo, rfl⟩ : ∃ wo : World, wo = wr := ⟨_, rfl⟩
   go_loopw [5, 23] (fun ov xv wr => ∃ (x : Nat), x ≤ n ∧ xv = .int .i64 x ∧ Hid (GL 3 1 (imP g n t f (y * n + x)) (y * n + x) W1 ov wr)) (fun _ xv _ => n - (intOf xv).toNat)
   case atStart => exact ⟨0, by omega, rfl, HG⟩
   case round =>
    clear k0 k1 k2 m0 m1 m2 m3 lk lm hsw HG
    obtain ⟨x, hx, rfl, HG⟩ := hrel
    have k0 := bCs HG.out.bel cb0
    have k1 := bCs HG.out.bel cb1
    have k2 := bCs HG.out.bel cb2
    have m0 := bCs HG.out.bel cm0
    have m1 := bCs HG.out.bel cm1
    have m2 := bCs HG.out.bel cm2
    have m3 := bCs HG.out.bel cm3
    have lk : LtW w.heap.size wr := Nat.lt_of_lt_of_le hs0 (HG.out.bel).size
    have lm : LtW (w.heap.size + 1) wr := Nat.lt_of_lt_of_le hs1 (HG.out.bel).size
    have hsw : W1.heap.size ≤ (wr).heap.size := (HG.out.bel).size
    by_cases hxn : x < n
    ·have vx : IntKind.i64.wrap ((x : Int) + 1) = (x : Int) + 1 := IntWalk.i64_in _ (by omega)
     have dx : decide ((x : Int) < (n : Int)) = true := by simpa using hxn
     have HA1 := Lib.hid (fun w => HA.out (x : Int) (y : Int) w (by omega) (by omega))
     have hls := HLS.out (x : Int) (y : Int) (by omega) (by omega)
     have hpt : pnt n (y * n + x) = ((x : Int), (y : Int)) := by
      unfold pnt
      rw [Nat.mul_comm, Nat.mul_add_mod, Nat.mod_eq_of_lt hxn, Nat.mul_add_div (by omega), Nat.div_eq_of_lt hxn, Nat.add_zero]
     have HS := Lib.hid (imP_succ g n t f (y * n + x))
     rw [hpt] at HS
     have hmN : y * n + x ≤ 1000 := by have := Nat.mul_le_mul (show y ≤ 24 by omega) h24; omega
     rw [To_o0] at HA1
     generalize lin g t f ((x : Int), (y : Int)) = p at *
     obtain ⟨px, py⟩ := p
     have HP1 := Lib.hid (fun w => HP.out px py w (by simp only at hls; omega) (by simp only at hls; omega))
     generalize place n (px, py) = q at *
     clear HP HA HLS hls HALL hpt
     go_wp2_with fail
     refine (HA1.out _).mono ?_
     rintro r w2 ⟨rfl, hb2⟩
     have HG2 := Lib.hid (HG.out.below hb2)
     clear k0 k1 k2 m0 m1 m2 m3 lk lm hsw HG hb2
     have k0 := bCs HG2.out.bel cb0
     have k1 := bCs HG2.out.bel cb1
     have k2 := bCs HG2.out.bel cb2
     have m0 := bCs HG2.out.bel cm0
     have m1 := bCs HG2.out.bel cm1
     have m2 := bCs HG2.out.bel cm2
     have m3 := bCs HG2.out.bel cm3
     have lk : LtW w.heap.size w2 := Nat.lt_of_lt_of_le hs0 (HG2.out.bel).size
     have lm : LtW (w.heap.size + 1) w2 := Nat.lt_of_lt_of_le hs1 (HG2.out.bel).size
     have hsw : W1.heap.size ≤ (w2).heap.size := (HG2.out.bel).size
     go_wp2_with fail
     refine (HP1.out _).mono ?_
     rintro r w3 ⟨rfl, hb3⟩
     have HG3 := Lib.hid ((HG2.out.alloc _).below hb3)
     clear k0 k1 k2 m0 m1 m2 m3 lk lm hsw HG2 hb3
     go_wp2_with (at_builtin; refine wpApp okI8 rfl (.tmp 36) (.tmp 40) rfl W1.heap.size _ _ _ #[.int .i64 q] rfl HG3.out.own rfl rfl (by simp [Value.oneCell']) (by omega) (by omega) HG3.out.bel.size ?_)
     intro v' w4 hown4 hb4
     obtain ⟨A', cp', rfl⟩ := own_form hown4
     have HG4 : Hid (GL 3 1 (imP g n t f (y * n + x + 1)) (y * n + x + 1) W1 (.slice A' (y * n + x + 1) cp') w4) := Lib.hid ⟨by rw [HS.out]; exact hown4, HG3.out.bel.trans hb4⟩
     clear hown4 hb4 HG3
     go_wp2
     go_roundw
     case rel => exact ⟨x + 1, by omega, by go_num, HG4⟩
     case measure => simp [intOf]; omega
    ·obtain rfl : x = n := by omega
     have dx : decide ((x : Int) < (x : Int)) = false := by simp
     rw [← Nat.succ_mul] at HG
     go_wp2
     go_roundw
     case rel => exact ⟨y + 1, by omega, by go_num, HG⟩
     case measure => simp [intOf]; omega
  ·obtain rfl : y = n := by omega
   have dy : decide ((y : Int) < (y : Int)) = false := by simp
   rw [HN.out, HALL.out] at HG
   have hlt := HLEN.out
   have hl2 : (intsN (Z.imageL g y t f)).length = N := by rw [intsN_len]; exact hlt
   have ho := HG.out.own
   obtain ⟨A, C, rfl⟩ := own_form ho
   have HAA : Hid (OwnI wr w.heap.size A N C (intsN (Z.imageL g y t f))) := Lib.hid ⟨hl2, own_baseV ho (by omega)⟩
   have HBL := Lib.hid (HB1.out.trans (HG.out.bel.mono (by omega)))
   clear hlt hl2 ho HG
   go_wp2
   go_ret
   exact ⟨⟨A, C, rfl, HAA.out⟩, HBL.out⟩
end
section
open Go.RowKit
open Z (torN place pnt Mv To lin okT nrm keepB colP)
theorem pnt_at {m x y : Nat} (hx : x < m) : pnt m (y * m + x) = ((x : Int), (y : Int)) := by
 unfold pnt
 rw [Nat.mul_comm, Nat.mul_add_mod, Nat.mod_eq_of_lt hx, Nat.mul_add_div (by omega), Nat.div_eq_of_lt hx, Nat.add_zero]
end
end Go.Proofs.YtajdoobkfbdgoaaDoor
