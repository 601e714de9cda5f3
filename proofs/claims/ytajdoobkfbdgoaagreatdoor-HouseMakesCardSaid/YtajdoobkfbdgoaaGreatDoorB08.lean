/- Lemmas on which the law of this seat rests; each states its own conditions. -/
import Derived.Test.YtajdoobkfbdgoaaGreatDoorB07
import Derived.Test.YtajdoobkfbdgoaaGreatDoorB01
set_option linter.unusedVariables false
set_option linter.unusedSimpArgs false
namespace Go.Proofs.YtajdoobkfbdgoaaGreatDoor
section
open Go.RowKit
open Z (IsGcd nrm Mv To lin mir okT idm both bothT)
set_option maxRecDepth 100000 in
set_option maxHeartbeats 8000000 in
theorem turnedN (g x y : Int) (n : Nat) (w : World) (hg : g = 4 ∨ g = 6) (hn : n ≤ 6) (hb : nrm g (x,y) ≤ 200000000000000000) :
  Calls Tryz.prog 108 #[.int .i64 (g), .agg #[.int .i64 (x), .int .i64 (y)], .int .i64 (n)] w fun e w' => e = .returned (.agg #[.int .i64 ((Z.tn g n (x,y)).1), .int .i64 ((Z.tn g n (x,y)).2)]) ∧ Below w.heap.size w w' := by
 have hbd : ∀ k : Nat, k ≤ n → (-1073741824 ≤ (Z.tn g k (x,y)).1 ∧ (Z.tn g k (x,y)).1 ≤ 1073741824) ∧ (-1073741824 ≤ (Z.tn g k (x,y)).2 ∧ (Z.tn g k (x,y)).2 ≤ 1073741824) := by
  intro k hk
  have h2 := Z.nrm_tn hg k (x,y)
  exact Z.part_bd hg (by omega) (by omega)
 have HB := Lib.hid hbd
 clear hbd
 go_enter Tryz.func108, Tryz.ntmps108
 go_wp2_with fail
 go_loopw [8] (fun i wr => ∃ (k : Nat) (E : Array Obj) (d : Nat), k ≤ n ∧ i = .int .i64 k ∧ wr = extW ((w.alloc (.cells #[.int .i64 ((Z.tn g k (x,y)).1), .int .i64 ((Z.tn g k (x,y)).2)] 71)).alloc (.cells #[.int .i64 (0), .int .i64 (0)] 71)) E d) (fun i _ => n - (intOf i).toNat)
 case atStart => exact ⟨0, #[], _, Nat.zero_le _, rfl, extW_zero _⟩
 case round =>
  obtain ⟨k, E, d, hk, rfl, rfl⟩ := hrel
  obtain ⟨hb1, hb2⟩ := HB.out k hk
  have H1 := Lib.hid (tmY_one g (Z.tn g k (x,y)).1 (Z.tn g k (x,y)).2 hg)
  have HT : Hid (Z.tn g (k+1) (x,y) = Z.turn g (Z.tn g k (x,y))) := Lib.hid rfl
  generalize hp : Z.tn g k (x,y) = p at *
  have HP := Lib.hid hp
  clear hp
  by_cases hlt : k < n
  ·go_wp2_with fail
   refine (times_any g p.1 p.2 0 1 _ (by omega) (by omega) (by omega) (by omega)).mono ?_
   rintro r w1 ⟨rfl, hb⟩
   obtain ⟨E', d', rfl⟩ := bExt hb
   clear hb
   rw [H1.out.1, H1.out.2]
   go_wp2
   go_roundw
   case rel => exact ⟨k + 1, E ++ E', d', by omega, by go_num, by rw [HT.out, extW_extW]⟩
   case measure => simp [intOf]; omega
  ·have hkn : k = n := by omega
   subst hkn
   go_wp2
   refine bodyPost_ret (v := .agg #[.int .i64 (p.1), .int .i64 (p.2)]) (by simp [results, Tryz.results108, go_sem]) rfl ⟨by rw [HP.out], blw⟩
theorem parts_of {g : Int} (hg : Z.G g) {p : Z.Pt} (h : nrm g p ≤ 200000000000000000) : (-536870912 ≤ p.1 ∧ p.1 ≤ 536870912) ∧ (-536870912 ≤ p.2 ∧ p.2 ≤ 536870912) := Z.part_bd hg (by omega) (by omega)
set_option maxRecDepth 100000 in
set_option maxHeartbeats 8000000 in
theorem apply_any (g x y ox oy : Int) (t : Nat) (f : Bool) (w : World) (hg : g = 4 ∨ g = 6) (ht : t ≤ 6) (hb : nrm g (x,y) ≤ 200000000000000000) (h1 : -1000000000000 ≤ ox ∧ ox ≤ 1000000000000) (h2 : -1000000000000 ≤ oy ∧ oy ≤ 1000000000000) :
  Calls Tryz.prog 76 #[.int .i64 (g), .agg #[.int .i64 (t), .bool (f), .int .i64 (ox), .int .i64 (oy)], .agg #[.int .i64 (x), .int .i64 (y)]] w fun e w' => e = .returned (.agg #[.int .i64 ((To g ⟨t,f,(ox,oy)⟩ (x,y)).1), .int .i64 ((To g ⟨t,f,(ox,oy)⟩ (x,y)).2)]) ∧ Below w.heap.size w w' := by
 have bp := parts_of hg hb
 simp only at bp
 cases f with
 | false =>
  have HT : Hid (To g ⟨t,false,(ox,oy)⟩ (x,y) = ((Z.tn g t (x,y)).1 + ox, (Z.tn g t (x,y)).2 + oy)) := Lib.hid rfl
  have hn : nrm g (Z.tn g t (x,y)) ≤ 200000000000000000 := by rw [Z.nrm_tn hg]; exact hb
  have bn := parts_of hg hn
  go_enter Tryz.func76, Tryz.ntmps76
  (go_wp2_with fail; refine (turnedN g x y t _ hg ht hb).mono ?_; rintro r w1 ⟨rfl, hb⟩; obtain ⟨E, d, rfl⟩ := bExt hb; clear hb)
  generalize Z.tn g t (x,y) = p at *
  go_wp2
  refine bodyPost_ret (v := .agg #[.int .i64 (p.1+ox), .int .i64 (p.2+oy)]) (by simp [results, Tryz.results76, go_sem]) rfl ⟨by rw [HT.out], blw⟩
 | true =>
  have HT : Hid (To g ⟨t,true,(ox,oy)⟩ (x,y) = ((Z.tn g t (miX g x y, -y)).1 + ox, (Z.tn g t (miX g x y, -y)).2 + oy)) := Lib.hid rfl
  have hb2 : nrm g (miX g x y, -y) ≤ 200000000000000000 := by
   have e := Z.nrm_conj hg (x,y)
   have e2 : Z.conj g (x,y) = (miX g x y, -y) := rfl
   rw [e2] at e
   omega
  have hn : nrm g (Z.tn g t (miX g x y, -y)) ≤ 200000000000000000 := by rw [Z.nrm_tn hg]; exact hb2
  have bn := parts_of hg hn
  go_enter Tryz.func76, Tryz.ntmps76
  (go_wp2_with fail; refine (mirrored_any g x y _ (by omega) (by omega)).mono ?_; rintro r w1 ⟨rfl, hb⟩; obtain ⟨E, d, rfl⟩ := bExt hb; clear hb)
  (go_wp2_with fail; refine (turnedN g _ _ t _ hg ht hb2).mono ?_; rintro r w1 ⟨rfl, hb⟩; obtain ⟨E, d, rfl⟩ := bExt hb; clear hb)
  generalize Z.tn g t (miX g x y, -y) = p at *
  go_wp2
  refine bodyPost_ret (v := .agg #[.int .i64 (p.1+ox), .int .i64 (p.2+oy)]) (by simp [results, Tryz.results76, go_sem]) rfl ⟨by rw [HT.out], blw⟩
theorem lfP10 {P : Prop} (h : P := by
 have HP := Lib.hid hp
 clear hp
 by_cases hlt : k < t
 ·(go_wp2_with fail; refine (rTurned_any g p.1 p.2 _ (by omega) (by omega)).mono ?_; rintro r w1 ⟨rfl, hb⟩; obtain ⟨E, d, rfl⟩ := bExt hb; clear hb)
  go_wp2
  go_roundw
  case rel => exact ⟨k + 1, _, _, by omega, by go_num, by rw [HTN.out, extW_extW]; rfl⟩
  case measure => simp [intOf]; omega
 ·have hkn : k = t := by omega
  subst hkn
  (go_wp2_with fail; refine (rplus_any p.1 p.2 ox oy _ (by omega) (by omega)).mono ?_; rintro r w1 ⟨rfl, hb⟩; obtain ⟨E, d, rfl⟩ := bExt hb; clear hb)
  go_wp2
  refine bodyPost_ret (v := .agg #[.int .i64 (p.1+ox), .int .i64 (p.2+oy)]) (by simp [results, Tryz.results51, go_sem]) rfl ⟨by rw [HT.out, HP.out], blw⟩) : P := h
set_option maxRecDepth 100000 in
set_option maxHeartbeats 8000000 in
theorem rTo_any (g x y ox oy : Int) (t : Nat) (f : Bool) (w : World) (hg : g = 4 ∨ g = 6) (ht : t ≤ 6) (hb : nrm g (x,y) ≤ 200000000000000000) (h1 : -1000000000000 ≤ ox ∧ ox ≤ 1000000000000) (h2 : -1000000000000 ≤ oy ∧ oy ≤ 1000000000000) :
  Calls Tryz.prog 51 #[.int .i64 (g), .agg #[.int .i64 (t), .bool (f), .int .i64 (ox), .int .i64 (oy)], .agg #[.int .i64 (x), .int .i64 (y)]] w fun e w' => e = .returned (.agg #[.int .i64 ((To g ⟨t,f,(ox,oy)⟩ (x,y)).1), .int .i64 ((To g ⟨t,f,(ox,oy)⟩ (x,y)).2)]) ∧ Below w.heap.size w w' := by
 have bp := parts_of hg hb
 simp only at bp
 obtain ⟨mx, my, hm⟩ : ∃ mx my, mir g f (x,y) = (mx, my) := ⟨_, _, rfl⟩
 have hbm : nrm g (mx,my) ≤ 200000000000000000 := by rw [← hm]; cases f <;> simp only [mir, if_true, if_false, Bool.false_eq_true] <;> (try rw [Z.nrm_conj hg]) <;> exact hb
 have HM := Lib.hid hm
 have HT : Hid (To g ⟨t,f,(ox,oy)⟩ (x,y) = ((Z.tn g t (mx,my)).1 + ox, (Z.tn g t (mx,my)).2 + oy)) := Lib.hid (by simp only [To, lin, hm]; rfl)
 clear hm
 have hbd : ∀ k : Nat, (-536870912 ≤ (Z.tn g k (mx,my)).1 ∧ (Z.tn g k (mx,my)).1 ≤ 536870912) ∧ (-536870912 ≤ (Z.tn g k (mx,my)).2 ∧ (Z.tn g k (mx,my)).2 ≤ 536870912) := by
  intro k
  have h2 := Z.nrm_tn hg k (mx,my)
  exact parts_of hg (by omega)
 have HB := Lib.hid hbd
 clear hbd
 cases f with
 | false =>
  obtain ⟨rfl, rfl⟩ : x = mx ∧ y = my := by have := HM.out; simpa [mir] using this
  clear HM
  go_enter Tryz.func51, Tryz.ntmps51
  go_wp2_with fail
  go_loopw [7] (fun i wr => ∃ (k : Nat) (E : Array Obj) (d : Nat), k ≤ t ∧ i = .int .i64 k ∧ wr = extW (((w.alloc (.cells #[.int .i64 t, .bool false, .int .i64 (ox), .int .i64 (oy)] 91)).alloc (.cells #[.int .i64 ((Z.tn g k (x,y)).1), .int .i64 ((Z.tn g k (x,y)).2)] 71)).alloc (.cells #[.int .i64 (0), .int .i64 (0)] 71)) E d) (fun i _ => t - (intOf i).toNat)
  case atStart => exact ⟨0, _, _, Nat.zero_le _, rfl, by first | exact extW_zero _ | rfl⟩
  case round =>
   obtain ⟨k, E, d, hk, rfl, rfl⟩ := hrel
   obtain ⟨hb1, hb2⟩ := HB.out k
   have HTN : Hid (Z.tn g (k+1) (x,y) = Z.turn g (Z.tn g k (x,y))) := Lib.hid rfl
   generalize hp : Z.tn g k (x,y) = p at *
   exact lfP10
 | true =>
  obtain ⟨rfl, rfl⟩ : miX g x y = mx ∧ -y = my := by have := HM.out; simpa [mir, Z.conj] using this
  clear HM
  go_enter Tryz.func51, Tryz.ntmps51
  (go_wp2_with fail; refine (rMirrored_any g x y _ hg (by omega) (by omega)).mono ?_; rintro r w1 ⟨rfl, hb⟩; obtain ⟨E, d, rfl⟩ := bExt hb; clear hb)
  go_wp2_with fail
  go_loopw [7] (fun i wr => ∃ (k : Nat) (E : Array Obj) (d : Nat), k ≤ t ∧ i = .int .i64 k ∧ wr = extW (((w.alloc (.cells #[.int .i64 t, .bool true, .int .i64 (ox), .int .i64 (oy)] 91)).alloc (.cells #[.int .i64 ((Z.tn g k (miX g x y,-y)).1), .int .i64 ((Z.tn g k (miX g x y,-y)).2)] 71)).alloc (.cells #[.int .i64 (0), .int .i64 (0)] 71)) E d) (fun i _ => t - (intOf i).toNat)
  case atStart => exact ⟨0, _, _, Nat.zero_le _, rfl, by first | exact extW_zero _ | rfl⟩
  case round =>
   obtain ⟨k, E, d, hk, rfl, rfl⟩ := hrel
   obtain ⟨hb1, hb2⟩ := HB.out k
   have HTN : Hid (Z.tn g (k+1) (miX g x y,-y) = Z.turn g (Z.tn g k (miX g x y,-y))) := Lib.hid rfl
   generalize hp : Z.tn g k (miX g x y,-y) = p at *
   exact lfP10
end
section
open Go.RowKit
open Z (IsGcd nrm Mv To lin mir okT idm both bothT)
def mvV (m : Mv) : Value := .agg #[.int .i64 m.t, .bool m.f, .int .i64 m.o.1, .int .i64 m.o.2]
theorem btI4 : ∀ (a b : Fin 4), (((a.val:Int) + (b.val:Int)).tmod 4 + 4).tmod 4 = ((a.val + b.val) % 4 : Nat) ∧ (((a.val:Int) - (b.val:Int)).tmod 4 + 4).tmod 4 = ((a.val + (4 - b.val)) % 4 : Nat) := by decide +kernel
theorem btI6 : ∀ (a b : Fin 6), (((a.val:Int) + (b.val:Int)).tmod 6 + 6).tmod 6 = ((a.val + b.val) % 6 : Nat) ∧ (((a.val:Int) - (b.val:Int)).tmod 6 + 6).tmod 6 = ((a.val + (6 - b.val)) % 6 : Nat) := by decide +kernel
theorem btI {g : Int} (hg : Z.G g) {a b : Nat} (ha : a < g.toNat) (hb : b < g.toNat) : (((a:Int) + b).tmod g + g).tmod g = ((a + b) % g.toNat : Nat) ∧ (((a:Int) - b).tmod g + g).tmod g = ((a + (g.toNat - b)) % g.toNat : Nat) := by
 rcases hg with rfl | rfl
 ·exact btI4 ⟨a, ha⟩ ⟨b, hb⟩
 ·exact btI6 ⟨a, ha⟩ ⟨b, hb⟩
theorem tmod_bd {a g : Int} (hg : Z.G g) : -6 < a.tmod g ∧ a.tmod g < 6 := by
 rcases hg with rfl | rfl
 ·have h1 := Int.tmod_lt_of_pos a (show (0:Int) < 4 by omega); have h2 := Int.lt_tmod_of_pos a (show (0:Int) < 4 by omega); omega
 ·have h1 := Int.tmod_lt_of_pos a (show (0:Int) < 6 by omega); have h2 := Int.lt_tmod_of_pos a (show (0:Int) < 6 by omega); omega
set_option maxRecDepth 100000 in
set_option maxHeartbeats 8000000 in
theorem both_any (g fx fy hx hy : Int) (tf th : Nat) (ff fh : Bool) (w : World) (hg : g = 4 ∨ g = 6) (htf : tf < g.toNat) (hth : th < g.toNat) (hb : nrm g (hx,hy) ≤ 200000000000000000) (h1 : -1000000000000 ≤ fx ∧ fx ≤ 1000000000000) (h2 : -1000000000000 ≤ fy ∧ fy ≤ 1000000000000) :
  Calls Tryz.prog 118 #[.int .i64 (g), .agg #[.int .i64 (tf), .bool (ff), .int .i64 (fx), .int .i64 (fy)], .agg #[.int .i64 (th), .bool (fh), .int .i64 (hx), .int .i64 (hy)]] w fun e w' => e = .returned (mvV (both g ⟨tf,ff,(fx,fy)⟩ ⟨th,fh,(hx,hy)⟩)) ∧ Below w.heap.size w w' := by
 have hbt := btI hg htf hth
 have hgl : g ≤ 6 := by omega
 have m1 := tmod_bd (a := (tf:Int) + th) hg
 have m2 := tmod_bd (a := (tf:Int) - th) hg
 have hg0 : g ≠ 0 := by omega
 have e1 : ((tf:Int) + th).tmod g = ((tf:Int) + th) % g := Int.tmod_eq_emod_of_nonneg (by omega)
 rw [e1] at hbt m1
 clear e1
 cases ff with
 | false =>
  have hT : (bothT g ⟨tf,false,(fx,fy)⟩ ⟨th,fh,(hx,hy)⟩ : Int) = (((tf:Int) + th) % g + g).tmod g := by rw [hbt.1]; rfl
  clear hbt
  cases fh with
  | false =>
   have hT1 := hT
   clear hT
   (have HT : Hid (mvV (both g ⟨tf,false,(fx,fy)⟩ ⟨th,false,(hx,hy)⟩) = .agg #[.int .i64 ((((tf:Int) + th) % g + g).tmod g), .bool (false), .int .i64 ((To g ⟨tf,false,(fx,fy)⟩ (hx,hy)).1), .int .i64 ((To g ⟨tf,false,(fx,fy)⟩ (hx,hy)).2)]) := Lib.hid (by simp only [mvV, both]; rw [hT1]; rfl); clear hT1; go_enter Tryz.func118, Tryz.ntmps118; go_wp2_with fail; (refine wp_region_ext_tail 18 (by kernel_rfl) (by kernel_rfl) ?_; simp only [List.take_succ_cons, List.take_zero, List.drop_succ_cons, List.drop_zero]; (repeat (first | ((with_reducible refine ext_step (fun K hK => ?_)); go_simp; first | (refine hK _ ?_; clear hK K) | (apply Exists.intro; refine ⟨fun _ _ => ?_, hK _ ?_⟩; (go_at_call 76; exact extOf (apply_any g hx hy fx fy tf false _ hg (by omega) hb h1 h2)); clear hK K)))); refine wpQuiet_nil ?_; intro E d); go_wp2; refine bodyPost_ret (v := .agg #[.int .i64 ((((tf:Int) + th) % g + g).tmod g), .bool (false), .int .i64 ((To g ⟨tf,false,(fx,fy)⟩ (hx,hy)).1), .int .i64 ((To g ⟨tf,false,(fx,fy)⟩ (hx,hy)).2)]) (by simp [results, Tryz.results118, go_sem]) rfl ⟨by rw [HT.out], blw⟩)
  | true =>
   have hT1 := hT
   clear hT
   (have HT : Hid (mvV (both g ⟨tf,false,(fx,fy)⟩ ⟨th,true,(hx,hy)⟩) = .agg #[.int .i64 ((((tf:Int) + th) % g + g).tmod g), .bool (true), .int .i64 ((To g ⟨tf,false,(fx,fy)⟩ (hx,hy)).1), .int .i64 ((To g ⟨tf,false,(fx,fy)⟩ (hx,hy)).2)]) := Lib.hid (by simp only [mvV, both]; rw [hT1]; rfl); clear hT1; go_enter Tryz.func118, Tryz.ntmps118; go_wp2_with fail; (refine wp_region_ext_tail 18 (by kernel_rfl) (by kernel_rfl) ?_; simp only [List.take_succ_cons, List.take_zero, List.drop_succ_cons, List.drop_zero]; (repeat (first | ((with_reducible refine ext_step (fun K hK => ?_)); go_simp; first | (refine hK _ ?_; clear hK K) | (apply Exists.intro; refine ⟨fun _ _ => ?_, hK _ ?_⟩; (go_at_call 76; exact extOf (apply_any g hx hy fx fy tf false _ hg (by omega) hb h1 h2)); clear hK K)))); refine wpQuiet_nil ?_; intro E d); go_wp2; refine bodyPost_ret (v := .agg #[.int .i64 ((((tf:Int) + th) % g + g).tmod g), .bool (true), .int .i64 ((To g ⟨tf,false,(fx,fy)⟩ (hx,hy)).1), .int .i64 ((To g ⟨tf,false,(fx,fy)⟩ (hx,hy)).2)]) (by simp [results, Tryz.results118, go_sem]) rfl ⟨by rw [HT.out], blw⟩)
 | true =>
  have hT : (bothT g ⟨tf,true,(fx,fy)⟩ ⟨th,fh,(hx,hy)⟩ : Int) = (((tf:Int) - th).tmod g + g).tmod g := by rw [hbt.2]; rfl
  clear hbt
  cases fh with
  | false =>
   have hT1 := hT
   clear hT
   (have HT : Hid (mvV (both g ⟨tf,true,(fx,fy)⟩ ⟨th,false,(hx,hy)⟩) = .agg #[.int .i64 ((((tf:Int) - th).tmod g + g).tmod g), .bool (true), .int .i64 ((To g ⟨tf,true,(fx,fy)⟩ (hx,hy)).1), .int .i64 ((To g ⟨tf,true,(fx,fy)⟩ (hx,hy)).2)]) := Lib.hid (by simp only [mvV, both]; rw [hT1]; rfl); clear hT1; go_enter Tryz.func118, Tryz.ntmps118; go_wp2_with fail; (refine wp_region_ext_tail 18 (by kernel_rfl) (by kernel_rfl) ?_; simp only [List.take_succ_cons, List.take_zero, List.drop_succ_cons, List.drop_zero]; (repeat (first | ((with_reducible refine ext_step (fun K hK => ?_)); go_simp; first | (refine hK _ ?_; clear hK K) | (apply Exists.intro; refine ⟨fun _ _ => ?_, hK _ ?_⟩; (go_at_call 76; exact extOf (apply_any g hx hy fx fy tf true _ hg (by omega) hb h1 h2)); clear hK K)))); refine wpQuiet_nil ?_; intro E d); go_wp2; refine bodyPost_ret (v := .agg #[.int .i64 ((((tf:Int) - th).tmod g + g).tmod g), .bool (true), .int .i64 ((To g ⟨tf,true,(fx,fy)⟩ (hx,hy)).1), .int .i64 ((To g ⟨tf,true,(fx,fy)⟩ (hx,hy)).2)]) (by simp [results, Tryz.results118, go_sem]) rfl ⟨by rw [HT.out], blw⟩)
  | true =>
   have hT1 := hT
   clear hT
   (have HT : Hid (mvV (both g ⟨tf,true,(fx,fy)⟩ ⟨th,true,(hx,hy)⟩) = .agg #[.int .i64 ((((tf:Int) - th).tmod g + g).tmod g), .bool (false), .int .i64 ((To g ⟨tf,true,(fx,fy)⟩ (hx,hy)).1), .int .i64 ((To g ⟨tf,true,(fx,fy)⟩ (hx,hy)).2)]) := Lib.hid (by simp only [mvV, both]; rw [hT1]; rfl); clear hT1; go_enter Tryz.func118, Tryz.ntmps118; go_wp2_with fail; (refine wp_region_ext_tail 18 (by kernel_rfl) (by kernel_rfl) ?_; simp only [List.take_succ_cons, List.take_zero, List.drop_succ_cons, List.drop_zero]; (repeat (first | ((with_reducible refine ext_step (fun K hK => ?_)); go_simp; first | (refine hK _ ?_; clear hK K) | (apply Exists.intro; refine ⟨fun _ _ => ?_, hK _ ?_⟩; (go_at_call 76; exact extOf (apply_any g hx hy fx fy tf true _ hg (by omega) hb h1 h2)); clear hK K)))); refine wpQuiet_nil ?_; intro E d); go_wp2; refine bodyPost_ret (v := .agg #[.int .i64 ((((tf:Int) - th).tmod g + g).tmod g), .bool (false), .int .i64 ((To g ⟨tf,true,(fx,fy)⟩ (hx,hy)).1), .int .i64 ((To g ⟨tf,true,(fx,fy)⟩ (hx,hy)).2)]) (by simp [results, Tryz.results118, go_sem]) rfl ⟨by rw [HT.out], blw⟩)
end
section
open Go.RowKit
open Z (IsGcd nrm Mv To lin mir okT idm both bothT)
def wE (g t x y : Int) : Int := if fltE g [(x,y)] ≠ 0 then fltE g [(x,y)] else if t < 0 ∨ g ≤ t then 3 else 0
theorem lfP30 {P : Prop} (h : P := by
 clear he
 go_enter Tryz.func73, Tryz.ntmps73
 go_wp2_with fail
 refine (fault_any g (w.heap.size+1) 1 1 [(x,y)] _ rfl (by simp) (one_cells (by simp [go_sem]) (by simp [go_sem])) HW.out (by omega)).mono ?_
 rintro e w1 ⟨rfl, hb1⟩
 obtain ⟨E1, d1, rfl⟩ := bExt hb1; clear hb1
 rw [HE.out]
 go_wp2
 go_ret
 exact ⟨by rw [HT.out]; rfl, blw⟩) : P := h
set_option maxRecDepth 100000 in
set_option maxHeartbeats 8000000 in
theorem Wrong_any (g t x y : Int) (f : Bool) (w : World) (hw : (-9223372036854775808 ≤ g ∧ g ≤ 9223372036854775807)) (ht : (-9223372036854775808 ≤ t ∧ t ≤ 9223372036854775807)) (h0 : (-9223372036854775808 ≤ x ∧ x ≤ 9223372036854775807)) (h1 : (-9223372036854775808 ≤ y ∧ y ≤ 9223372036854775807)) :
  Calls Tryz.prog 73 #[.int .i64 (g), .agg #[.int .i64 (t), .bool (f), .int .i64 (x), .int .i64 (y)]] w fun e w' => e = .returned (.int .i64 (wE g t x y)) ∧ Below w.heap.size w w' := by
 have HW := Lib.hid (one_wf h0 h1)
 clear h0 h1
 by_cases he : fltE g [(x,y)] = 0
 ·have HE := Lib.hid he
  by_cases ha : t < 0
  ·have HT : Hid (wE g t x y = 3) := Lib.hid (by simp [wE, he, ha])
   exact lfP30
  ·by_cases hb : g ≤ t
   ·have HT : Hid (wE g t x y = 3) := Lib.hid (by simp [wE, he, hb])
    exact lfP30
   ·have HT : Hid (wE g t x y = 0) := Lib.hid (by simp [wE, he, ha, hb])
    exact lfP30
 ·have hb : (fltE g [(x,y)] != 0) = true := by simpa using he
  have HT : Hid (wE g t x y = fltE g [(x,y)]) := Lib.hid (by simp [wE, he])
  clear he
  go_enter Tryz.func73, Tryz.ntmps73
  go_wp2_with fail
  refine (fault_any g (w.heap.size+1) 1 1 [(x,y)] _ rfl (by simp) (one_cells (by simp [go_sem]) (by simp [go_sem])) HW.out (by omega)).mono ?_
  rintro e w1 ⟨rfl, hb1⟩
  obtain ⟨E1, d1, rfl⟩ := bExt hb1; clear hb1
  go_wp2
  go_ret
  exact ⟨by rw [HT.out]; rfl, blw⟩
theorem wE_zero {g t x y : Int} (h : wE g t x y = 0) : (g = 4 ∨ g = 6) ∧ (-1048576 ≤ x ∧ x ≤ 1048576 ∧ -1048576 ≤ y ∧ y ≤ 1048576) ∧ ∃ n : Nat, t = n ∧ n < g.toNat := by
 unfold wE at h
 split at h
 ·exact absurd h (by assumption)
 ·rename_i h0
  split at h
  ·omega
  ·obtain ⟨hg, hs⟩ := fltE_one_ok (Decidable.not_not.1 h0)
   exact ⟨hg, hs, t.toNat, by omega, by omega⟩
theorem nrm_sm {g x y : Int} (hg : Z.G g) (h : -1048576 ≤ x ∧ x ≤ 1048576 ∧ -1048576 ≤ y ∧ y ≤ 1048576) : nrm g (x,y) ≤ 3 * (1048576 * 1048576) := Z.nrm_bd hg (a := (x,y)) (B := 1048576) ⟨h.1, h.2.1⟩ h.2.2
def apV (g t : Int) (f : Bool) (ox oy x y : Int) : Value :=
 if wE g t ox oy ≠ 0 then .tuple #[.agg #[.int .i64 (0), .int .i64 (0)], .int .i64 (wE g t ox oy)] else if smB x y = false then .tuple #[.agg #[.int .i64 (0), .int .i64 (0)], .int .i64 (3)]
 else .tuple #[.agg #[.int .i64 (tdX (To g ⟨t.toNat,f,(ox,oy)⟩ (x,y)).1 (To g ⟨t.toNat,f,(ox,oy)⟩ (x,y)).2), .int .i64 (tdY (To g ⟨t.toNat,f,(ox,oy)⟩ (x,y)).1 (To g ⟨t.toNat,f,(ox,oy)⟩ (x,y)).2)], .int .i64 (tdE (To g ⟨t.toNat,f,(ox,oy)⟩ (x,y)).1 (To g ⟨t.toNat,f,(ox,oy)⟩ (x,y)).2)]
set_option maxRecDepth 100000 in
set_option maxHeartbeats 8000000 in
theorem Apply_any (g t ox oy x y : Int) (f : Bool) (w : World) (hw : (-9223372036854775808 ≤ g ∧ g ≤ 9223372036854775807)) (ht : (-9223372036854775808 ≤ t ∧ t ≤ 9223372036854775807)) (h0 : (-9223372036854775808 ≤ ox ∧ ox ≤ 9223372036854775807)) (h1 : (-9223372036854775808 ≤ oy ∧ oy ≤ 9223372036854775807)) (h2 : (-9223372036854775808 ≤ x ∧ x ≤ 9223372036854775807)) (h3 : (-9223372036854775808 ≤ y ∧ y ≤ 9223372036854775807)) :
  Calls Tryz.prog 34 #[.int .i64 (g), .agg #[.int .i64 (t), .bool (f), .int .i64 (ox), .int .i64 (oy)], .agg #[.int .i64 (x), .int .i64 (y)]] w fun e w' => e = .returned (apV g t f ox oy x y) ∧ Below w.heap.size w w' := by
 have HWR := Lib.hid (Wrong_any g t ox oy f)
 by_cases he : wE g t ox oy = 0
 ·obtain ⟨hg, hs, n, rfl, hn⟩ := wE_zero he
  have hk : knB g = true := by simp [knB]; exact hg
  cases hz : smB x y with
  | false =>
   have HT : Hid (apV g n f ox oy x y = .tuple #[.agg #[.int .i64 (0), .int .i64 (0)], .int .i64 (3)]) := Lib.hid (by simp [apV, he, hz])
   have HF : Hid (fltE g [(x,y)] = 3) := Lib.hid (by simp [fltE, hk, smL, hz])
   have HE := Lib.hid he
   have HW := Lib.hid (one_wf h2 h3)
   clear he hz hk
   go_enter Tryz.func34, Tryz.ntmps34
   (go_wp2_with fail; refine (HWR.out _ hw ht h0 h1).mono ?_; rintro r w1 ⟨rfl, hb⟩; obtain ⟨E, d, rfl⟩ := bExt hb; clear hb)
   rw [HE.out]
   go_wp2_with fail
   refine (fault_any g _ 1 1 [(x,y)] _ rfl (by simp) (one_cells (by simp [go_sem]) (by simp [go_sem])) HW.out (by omega)).mono ?_
   rintro e w1 ⟨rfl, hb1⟩
   obtain ⟨E1, d1, rfl⟩ := bExt hb1; clear hb1
   rw [HF.out]
   go_wp2
   refine bodyPost_ret (v := .tuple #[.agg #[.int .i64 (0), .int .i64 (0)], .int .i64 (3)]) (by simp [results, Tryz.results34, go_sem]) rfl ⟨by rw [HT.out], blw⟩
  | true =>
   have hz' : -1048576 ≤ x ∧ x ≤ 1048576 ∧ -1048576 ≤ y ∧ y ≤ 1048576 := by simpa [smB] using hz
   have HT : Hid (apV g n f ox oy x y = .tuple #[.agg #[.int .i64 (tdX (To g ⟨n,f,(ox,oy)⟩ (x,y)).1 (To g ⟨n,f,(ox,oy)⟩ (x,y)).2), .int .i64 (tdY (To g ⟨n,f,(ox,oy)⟩ (x,y)).1 (To g ⟨n,f,(ox,oy)⟩ (x,y)).2)], .int .i64 (tdE (To g ⟨n,f,(ox,oy)⟩ (x,y)).1 (To g ⟨n,f,(ox,oy)⟩ (x,y)).2)]) := Lib.hid (by simp [apV, he, hz])
   have HF : Hid (fltE g [(x,y)] = 0) := Lib.hid (by simp [fltE, hk, smL, hz])
   have HE := Lib.hid he
   have HW := Lib.hid (one_wf h2 h3)
   have hb := nrm_sm hg hz'
   have hbo := nrm_sm hg hs
   have hbT := Z.nrm_To hg ⟨n,f,(ox,oy)⟩ (x,y)
   have bT := parts_of hg (p := To g ⟨n,f,(ox,oy)⟩ (x,y)) (by simp only at hbT; omega)
   clear he hz hk hbT hbo
   go_enter Tryz.func34, Tryz.ntmps34
   (go_wp2_with fail; refine (HWR.out _ hw ht h0 h1).mono ?_; rintro r w1 ⟨rfl, hb⟩; obtain ⟨E, d, rfl⟩ := bExt hb; clear hb)
   rw [HE.out]
   go_wp2_with fail
   refine (fault_any g _ 1 1 [(x,y)] _ rfl (by simp) (one_cells (by simp [go_sem]) (by simp [go_sem])) HW.out (by omega)).mono ?_
   rintro e w1 ⟨rfl, hb1⟩
   obtain ⟨E1, d1, rfl⟩ := bExt hb1; clear hb1
   rw [HF.out]
   (go_wp2_with fail; refine (apply_any g x y ox oy n f _ hg (by omega) (by omega) (by omega) (by omega)).mono ?_; rintro r w1 ⟨rfl, hb⟩; obtain ⟨E, d, rfl⟩ := bExt hb; clear hb)
   generalize To g ⟨n,f,(ox,oy)⟩ (x,y) = p at *
   (go_wp2_with fail; refine (told_any p.1 p.2 _ (by omega) (by omega)).mono ?_; rintro r w1 ⟨rfl, hb⟩; obtain ⟨E, d, rfl⟩ := bExt hb; clear hb)
   go_wp2
   refine bodyPost_ret (v := .tuple #[.agg #[.int .i64 (tdX p.1 p.2), .int .i64 (tdY p.1 p.2)], .int .i64 (tdE p.1 p.2)]) (by simp [results, Tryz.results34, go_sem]) rfl ⟨by rw [HT.out], blw⟩
 ·have hb : (wE g t ox oy != 0) = true := by simpa using he
  have HT : Hid (apV g t f ox oy x y = .tuple #[.agg #[.int .i64 (0), .int .i64 (0)], .int .i64 (wE g t ox oy)]) := Lib.hid (by simp [apV, he])
  clear he
  go_enter Tryz.func34, Tryz.ntmps34
  (go_wp2_with fail; refine (HWR.out _ hw ht h0 h1).mono ?_; rintro r w1 ⟨rfl, hb⟩; obtain ⟨E, d, rfl⟩ := bExt hb; clear hb)
  go_wp2
  refine bodyPost_ret (v := .tuple #[.agg #[.int .i64 (0), .int .i64 (0)], .int .i64 (wE g t ox oy)]) (by simp [results, Tryz.results34, go_sem]) rfl ⟨by rw [HT.out], blw⟩
end
section
open Go.RowKit
open Z (IsGcd nrm Mv To lin mir okT idm both bothT)
theorem fit_ne {g : Int} (hg : Z.G g) {m : Mv} (hm : okT g m) {i : Nat} {k : Bool} (hi : i < g.toNat) (hne : ¬ (i = m.t ∧ k = m.f)) : ¬ (To g ⟨i,k,m.o⟩ (1,0) = To g m (1,0) ∧ To g ⟨i,k,m.o⟩ (0,1) = To g m (0,1)) := by
 rintro ⟨h1, h2⟩
 exact hne (Z.lin_inj hg hi hm (Z.add_cancel h1) (Z.add_cancel h2))
end
section
open Go.RowKit
open Z (IsGcd nrm Mv To lin mir okT idm both bothT)
theorem rToV {g x y ox oy px py : Int} {t : Nat} {f : Bool} {w : World} (hg : g = 4 ∨ g = 6) (ht : t ≤ 6) (hb : nrm g (x,y) ≤ 200000000000000000) (h1 : -1000000000000 ≤ ox ∧ ox ≤ 1000000000000) (h2 : -1000000000000 ≤ oy ∧ oy ≤ 1000000000000) (hp : To g ⟨t,f,(ox,oy)⟩ (x,y) = (px,py)) :
  Calls Tryz.prog 51 #[.int .i64 (g), .agg #[.int .i64 (t), .bool (f), .int .i64 (ox), .int .i64 (oy)], .agg #[.int .i64 (x), .int .i64 (y)]] w fun e w' => e = .returned (.agg #[.int .i64 (px), .int .i64 (py)]) ∧ Below w.heap.size w w' := by
 have h := rTo_any g x y ox oy t f w hg ht hb h1 h2
 rw [hp] at h
 exact h
def fitW (w : World) (ox oy ax ay bx bY : Int) : World := (((w.alloc (.cells #[.int .i64 (ox), .int .i64 (oy)] 71)).alloc (.cells #[.int .i64 (ax), .int .i64 (ay)] 71)).alloc (.cells #[.int .i64 (bx), .int .i64 (bY)] 71)).alloc (.cells #[.int .i64 (0), .bool false, .int .i64 (0), .int .i64 (0)] 91)
theorem nrm_u {g : Int} (hg : Z.G g) : nrm g (1,0) ≤ 200000000000000000 ∧ nrm g (0,1) ≤ 200000000000000000 := by rcases hg with rfl | rfl <;> decide
set_option maxRecDepth 100000 in
set_option maxHeartbeats 8000000 in
theorem rFitting_any (g ox oy ax ay bx bY : Int) (mt : Nat) (mf : Bool) (w : World) (hg : g = 4 ∨ g = 6) (ht : mt < g.toNat) (h1 : -1000000000000 ≤ ox ∧ ox ≤ 1000000000000) (h2 : -1000000000000 ≤ oy ∧ oy ≤ 1000000000000)
  (ha : To g ⟨mt,mf,(ox,oy)⟩ (1,0) = (ax,ay)) (hb : To g ⟨mt,mf,(ox,oy)⟩ (0,1) = (bx,bY)) :
  Calls Tryz.prog 121 #[.int .i64 (g), .agg #[.int .i64 (ox), .int .i64 (oy)], .agg #[.int .i64 (ax), .int .i64 (ay)], .agg #[.int .i64 (bx), .int .i64 (bY)]] w fun e w' => e = .returned (.agg #[.int .i64 (mt), .bool (mf), .int .i64 (ox), .int .i64 (oy)]) ∧ Below w.heap.size w w' := by
 have HA := Lib.hid ha
 have HB := Lib.hid hb
 have HU := Lib.hid (nrm_u hg)
 clear ha hb
 have hgl : (mt : Int) < g ∧ g ≤ 6 := by omega
 go_enter Tryz.func121, Tryz.ntmps121
 go_wp2_with fail
 go_loopw [9] (fun i wr => ∃ (n : Nat) (E : Array Obj) (d : Nat), i = .int .i64 n ∧ n ≤ mt ∧ wr = extW (fitW w ox oy ax ay bx bY) E d) (fun i _ => 10 - (intOf i).toNat)
 case atStart => exact ⟨0, #[], _, rfl, Nat.zero_le _, extW_zero _⟩
 case round =>
  obtain ⟨n, E, d, rfl, hn, rfl⟩ := hrel
  have hlt : (n : Int) < g := by omega
  unfold fitW
  go_wp2_with fail
  go_loopw [10] (fun k wr => ∃ (j : Nat) (E : Array Obj) (d : Nat), k = .int .i64 j ∧ j ≤ 2 ∧ (n = mt → j ≤ mf.toNat) ∧ wr = extW (fitW w ox oy ax ay bx bY) E d) (fun k _ => 2 - (intOf k).toNat)
  case atStart => exact ⟨0, _, _, rfl, by omega, fun _ => Nat.zero_le _, rfl⟩
  case round =>
   obtain ⟨j, E, d, rfl, hj, hjm, rfl⟩ := hrel
   unfold fitW
   have hj3 : j = 0 ∨ j = 1 ∨ j = 2 := by omega
   clear hj
   rcases hj3 with rfl | rfl | rfl
   ·obtain ⟨px, py, hp1⟩ : ∃ px py, To g ⟨n, false, (ox,oy)⟩ (1,0) = (px,py) := ⟨_, _, rfl⟩
    obtain ⟨qx, qy, hp2⟩ : ∃ px py, To g ⟨n, false, (ox,oy)⟩ (0,1) = (px,py) := ⟨_, _, rfl⟩
    by_cases hm : n = mt ∧ false = mf
    ·obtain ⟨rfl, rfl⟩ := hm
     rw [HA.out] at hp1
     rw [HB.out] at hp2
     simp only [Prod.mk.injEq] at hp1 hp2
     obtain ⟨rfl, rfl⟩ := hp1
     obtain ⟨rfl, rfl⟩ := hp2
     have HP1 := HA
     have HP2 := HB
     clear hjm
     go_wp2_with fail
     (refine wp_region_ext (by kernel_rfl) (by kernel_rfl) ?_; (repeat (first | ((with_reducible refine ext_step (fun K hK => ?_)); go_simp; first | (refine hK _ ?_; clear hK K) | (apply Exists.intro; refine ⟨fun _ _ => ?_, hK _ ?_⟩; (first | (go_at_call 51; with_reducible exact extOf (rToV (x := 1) (y := 0) (px := ax) (py := ay) (t := n) (f := false) hg (by omega) HU.out.1 h1 h2 HP1.out)) | (go_at_call 51; with_reducible exact extOf (rToV (x := 0) (y := 1) (px := bx) (py := bY) (t := n) (f := false) hg (by omega) HU.out.2 h1 h2 HP2.out))); clear hK K)))); refine wpQuiet_nil ?_; intro E d)
     go_wp2
     refine bodyPost_ret (v := .agg #[.int .i64 (n), .bool (false), .int .i64 (ox), .int .i64 (oy)]) (by simp [results, Tryz.results121, go_sem]) rfl ⟨rfl, blw⟩
    ·have hne := fit_ne hg (m := ⟨mt,mf,(ox,oy)⟩) ht (i := n) (k := false) (by omega) hm
     simp only [hp1, hp2, HA.out, HB.out, Prod.mk.injEq] at hne
     have HP1 := Lib.hid hp1
     have HP2 := Lib.hid hp2
     have HJ : Hid (n = mt → 0 + 1 ≤ mf.toNat) := Lib.hid (by intro h; have := hjm h; cases mf <;> simp_all)
     clear hp1 hp2 hjm hm
     by_cases c1 : px = ax
     ·subst c1
      by_cases c2 : py = ay
      ·subst c2
       by_cases c3 : qx = bx
       ·subst c3
        have c4 : ¬ qy = bY := by intro h; exact hne ⟨⟨rfl, rfl⟩, rfl, h⟩
        clear hne
        (go_wp2_with fail; (refine wp_region_ext (by kernel_rfl) (by kernel_rfl) ?_; (repeat (first | ((with_reducible refine ext_step (fun K hK => ?_)); go_simp; first | (refine hK _ ?_; clear hK K) | (apply Exists.intro; refine ⟨fun _ _ => ?_, hK _ ?_⟩; (first | (go_at_call 51; with_reducible exact extOf (rToV (x := 1) (y := 0) (px := _) (py := _) (t := n) (f := false) hg (by omega) HU.out.1 h1 h2 HP1.out)) | (go_at_call 51; with_reducible exact extOf (rToV (x := 0) (y := 1) (px := _) (py := _) (t := n) (f := false) hg (by omega) HU.out.2 h1 h2 HP2.out))); clear hK K)))); refine wpQuiet_nil ?_; intro E d); go_wp2; go_roundw; (case rel => exact ⟨0 + 1, _, _, by go_num, by omega, HJ.out, by simp only [alloc_extW, extW_extW]; rfl⟩); case measure => (simp [intOf]))
       ·clear hne
        (go_wp2_with fail; (refine wp_region_ext (by kernel_rfl) (by kernel_rfl) ?_; (repeat (first | ((with_reducible refine ext_step (fun K hK => ?_)); go_simp; first | (refine hK _ ?_; clear hK K) | (apply Exists.intro; refine ⟨fun _ _ => ?_, hK _ ?_⟩; (first | (go_at_call 51; with_reducible exact extOf (rToV (x := 1) (y := 0) (px := _) (py := _) (t := n) (f := false) hg (by omega) HU.out.1 h1 h2 HP1.out)) | (go_at_call 51; with_reducible exact extOf (rToV (x := 0) (y := 1) (px := _) (py := _) (t := n) (f := false) hg (by omega) HU.out.2 h1 h2 HP2.out))); clear hK K)))); refine wpQuiet_nil ?_; intro E d); go_wp2; go_roundw; (case rel => exact ⟨0 + 1, _, _, by go_num, by omega, HJ.out, by simp only [alloc_extW, extW_extW]; rfl⟩); case measure => (simp [intOf]))
      ·clear hne
       (go_wp2_with fail; (refine wp_region_ext (by kernel_rfl) (by kernel_rfl) ?_; (repeat (first | ((with_reducible refine ext_step (fun K hK => ?_)); go_simp; first | (refine hK _ ?_; clear hK K) | (apply Exists.intro; refine ⟨fun _ _ => ?_, hK _ ?_⟩; (first | (go_at_call 51; with_reducible exact extOf (rToV (x := 1) (y := 0) (px := _) (py := _) (t := n) (f := false) hg (by omega) HU.out.1 h1 h2 HP1.out)) | (go_at_call 51; with_reducible exact extOf (rToV (x := 0) (y := 1) (px := _) (py := _) (t := n) (f := false) hg (by omega) HU.out.2 h1 h2 HP2.out))); clear hK K)))); refine wpQuiet_nil ?_; intro E d); go_wp2; go_roundw; (case rel => exact ⟨0 + 1, _, _, by go_num, by omega, HJ.out, by simp only [alloc_extW, extW_extW]; rfl⟩); case measure => (simp [intOf]))
     ·clear hne
      (go_wp2_with fail; (refine wp_region_ext (by kernel_rfl) (by kernel_rfl) ?_; (repeat (first | ((with_reducible refine ext_step (fun K hK => ?_)); go_simp; first | (refine hK _ ?_; clear hK K) | (apply Exists.intro; refine ⟨fun _ _ => ?_, hK _ ?_⟩; (first | (go_at_call 51; with_reducible exact extOf (rToV (x := 1) (y := 0) (px := _) (py := _) (t := n) (f := false) hg (by omega) HU.out.1 h1 h2 HP1.out)) | (go_at_call 51; with_reducible exact extOf (rToV (x := 0) (y := 1) (px := _) (py := _) (t := n) (f := false) hg (by omega) HU.out.2 h1 h2 HP2.out))); clear hK K)))); refine wpQuiet_nil ?_; intro E d); go_wp2; go_roundw; (case rel => exact ⟨0 + 1, _, _, by go_num, by omega, HJ.out, by simp only [alloc_extW, extW_extW]; rfl⟩); case measure => (simp [intOf]))
   ·obtain ⟨px, py, hp1⟩ : ∃ px py, To g ⟨n, true, (ox,oy)⟩ (1,0) = (px,py) := ⟨_, _, rfl⟩
    obtain ⟨qx, qy, hp2⟩ : ∃ px py, To g ⟨n, true, (ox,oy)⟩ (0,1) = (px,py) := ⟨_, _, rfl⟩
    by_cases hm : n = mt ∧ true = mf
    ·obtain ⟨rfl, rfl⟩ := hm
     rw [HA.out] at hp1
     rw [HB.out] at hp2
     simp only [Prod.mk.injEq] at hp1 hp2
     obtain ⟨rfl, rfl⟩ := hp1
     obtain ⟨rfl, rfl⟩ := hp2
     have HP1 := HA
     have HP2 := HB
     clear hjm
     go_wp2_with fail
     (refine wp_region_ext (by kernel_rfl) (by kernel_rfl) ?_; (repeat (first | ((with_reducible refine ext_step (fun K hK => ?_)); go_simp; first | (refine hK _ ?_; clear hK K) | (apply Exists.intro; refine ⟨fun _ _ => ?_, hK _ ?_⟩; (first | (go_at_call 51; with_reducible exact extOf (rToV (x := 1) (y := 0) (px := ax) (py := ay) (t := n) (f := true) hg (by omega) HU.out.1 h1 h2 HP1.out)) | (go_at_call 51; with_reducible exact extOf (rToV (x := 0) (y := 1) (px := bx) (py := bY) (t := n) (f := true) hg (by omega) HU.out.2 h1 h2 HP2.out))); clear hK K)))); refine wpQuiet_nil ?_; intro E d)
     go_wp2
     refine bodyPost_ret (v := .agg #[.int .i64 (n), .bool (true), .int .i64 (ox), .int .i64 (oy)]) (by simp [results, Tryz.results121, go_sem]) rfl ⟨rfl, blw⟩
    ·have hne := fit_ne hg (m := ⟨mt,mf,(ox,oy)⟩) ht (i := n) (k := true) (by omega) hm
     simp only [hp1, hp2, HA.out, HB.out, Prod.mk.injEq] at hne
     have HP1 := Lib.hid hp1
     have HP2 := Lib.hid hp2
     have HJ : Hid (n = mt → 1 + 1 ≤ mf.toNat) := Lib.hid (by intro h; have := hjm h; cases mf <;> simp_all)
     clear hp1 hp2 hjm hm
     by_cases c1 : px = ax
     ·subst c1
      by_cases c2 : py = ay
      ·subst c2
       by_cases c3 : qx = bx
       ·subst c3
        have c4 : ¬ qy = bY := by intro h; exact hne ⟨⟨rfl, rfl⟩, rfl, h⟩
        clear hne
        (go_wp2_with fail; (refine wp_region_ext (by kernel_rfl) (by kernel_rfl) ?_; (repeat (first | ((with_reducible refine ext_step (fun K hK => ?_)); go_simp; first | (refine hK _ ?_; clear hK K) | (apply Exists.intro; refine ⟨fun _ _ => ?_, hK _ ?_⟩; (first | (go_at_call 51; with_reducible exact extOf (rToV (x := 1) (y := 0) (px := _) (py := _) (t := n) (f := true) hg (by omega) HU.out.1 h1 h2 HP1.out)) | (go_at_call 51; with_reducible exact extOf (rToV (x := 0) (y := 1) (px := _) (py := _) (t := n) (f := true) hg (by omega) HU.out.2 h1 h2 HP2.out))); clear hK K)))); refine wpQuiet_nil ?_; intro E d); go_wp2; go_roundw; (case rel => exact ⟨1 + 1, _, _, by go_num, by omega, HJ.out, by simp only [alloc_extW, extW_extW]; rfl⟩); case measure => (simp [intOf]))
       ·clear hne
        (go_wp2_with fail; (refine wp_region_ext (by kernel_rfl) (by kernel_rfl) ?_; (repeat (first | ((with_reducible refine ext_step (fun K hK => ?_)); go_simp; first | (refine hK _ ?_; clear hK K) | (apply Exists.intro; refine ⟨fun _ _ => ?_, hK _ ?_⟩; (first | (go_at_call 51; with_reducible exact extOf (rToV (x := 1) (y := 0) (px := _) (py := _) (t := n) (f := true) hg (by omega) HU.out.1 h1 h2 HP1.out)) | (go_at_call 51; with_reducible exact extOf (rToV (x := 0) (y := 1) (px := _) (py := _) (t := n) (f := true) hg (by omega) HU.out.2 h1 h2 HP2.out))); clear hK K)))); refine wpQuiet_nil ?_; intro E d); go_wp2; go_roundw; (case rel => exact ⟨1 + 1, _, _, by go_num, by omega, HJ.out, by simp only [alloc_extW, extW_extW]; rfl⟩); case measure => (simp [intOf]))
      ·clear hne
       (go_wp2_with fail; (refine wp_region_ext (by kernel_rfl) (by kernel_rfl) ?_; (repeat (first | ((with_reducible refine ext_step (fun K hK => ?_)); go_simp; first | (refine hK _ ?_; clear hK K) | (apply Exists.intro; refine ⟨fun _ _ => ?_, hK _ ?_⟩; (first | (go_at_call 51; with_reducible exact extOf (rToV (x := 1) (y := 0) (px := _) (py := _) (t := n) (f := true) hg (by omega) HU.out.1 h1 h2 HP1.out)) | (go_at_call 51; with_reducible exact extOf (rToV (x := 0) (y := 1) (px := _) (py := _) (t := n) (f := true) hg (by omega) HU.out.2 h1 h2 HP2.out))); clear hK K)))); refine wpQuiet_nil ?_; intro E d); go_wp2; go_roundw; (case rel => exact ⟨1 + 1, _, _, by go_num, by omega, HJ.out, by simp only [alloc_extW, extW_extW]; rfl⟩); case measure => (simp [intOf]))
     ·clear hne
      (go_wp2_with fail; (refine wp_region_ext (by kernel_rfl) (by kernel_rfl) ?_; (repeat (first | ((with_reducible refine ext_step (fun K hK => ?_)); go_simp; first | (refine hK _ ?_; clear hK K) | (apply Exists.intro; refine ⟨fun _ _ => ?_, hK _ ?_⟩; (first | (go_at_call 51; with_reducible exact extOf (rToV (x := 1) (y := 0) (px := _) (py := _) (t := n) (f := true) hg (by omega) HU.out.1 h1 h2 HP1.out)) | (go_at_call 51; with_reducible exact extOf (rToV (x := 0) (y := 1) (px := _) (py := _) (t := n) (f := true) hg (by omega) HU.out.2 h1 h2 HP2.out))); clear hK K)))); refine wpQuiet_nil ?_; intro E d); go_wp2; go_roundw; (case rel => exact ⟨1 + 1, _, _, by go_num, by omega, HJ.out, by simp only [alloc_extW, extW_extW]; rfl⟩); case measure => (simp [intOf]))
   ·have hne : n ≠ mt := by intro h; have := hjm h; cases mf <;> simp at this
    clear hjm
    go_wp2
    go_roundw
    case rel => exact ⟨n + 1, _, _, by go_num, by omega, rfl⟩
    case measure => simp [intOf]; omega
end
section
open Go.RowKit
open Z (IsGcd nrm Mv To lin mir okT idm both bothT)
theorem pt_ex (p : Z.Pt) : ∃ a b, p = (a, b) := ⟨p.1, p.2, rfl⟩
set_option maxRecDepth 100000 in
set_option maxHeartbeats 8000000 in
theorem rThen_any (g fx fy hx hy : Int) (tf th : Nat) (ff fh : Bool) (w : World) (hg : g = 4 ∨ g = 6) (htf : tf < g.toNat) (hth : th < g.toNat) (nf : nrm g (fx,fy) ≤ 10000000000000000) (nh : nrm g (hx,hy) ≤ 10000000000000000) :
  Calls Tryz.prog 116 #[.int .i64 (g), .agg #[.int .i64 (tf), .bool (ff), .int .i64 (fx), .int .i64 (fy)], .agg #[.int .i64 (th), .bool (fh), .int .i64 (hx), .int .i64 (hy)]] w fun e w' => e = .returned (mvV (both g ⟨tf,ff,(fx,fy)⟩ ⟨th,fh,(hx,hy)⟩)) ∧ Below w.heap.size w w' := by
 obtain ⟨ox, oy, ho⟩ := pt_ex (To g ⟨tf,ff,(fx,fy)⟩ (hx,hy))
 obtain ⟨cx, cy, hc⟩ := pt_ex (To g ⟨th,fh,(hx,hy)⟩ (1,0))
 obtain ⟨ax, ay, ha⟩ := pt_ex (To g ⟨tf,ff,(fx,fy)⟩ (cx,cy))
 obtain ⟨dx, dy, hd⟩ := pt_ex (To g ⟨th,fh,(hx,hy)⟩ (0,1))
 obtain ⟨bx, bY, hb⟩ := pt_ex (To g ⟨tf,ff,(fx,fy)⟩ (dx,dy))
 have h0 : To g ⟨th,fh,(hx,hy)⟩ (0,0) = (hx,hy) := Z.To_zero g _
 have hB : both g ⟨tf,ff,(fx,fy)⟩ ⟨th,fh,(hx,hy)⟩ = ⟨bothT g ⟨tf,ff,(fx,fy)⟩ ⟨th,fh,(hx,hy)⟩, ff ^^ fh, (ox,oy)⟩ := by simp only [both, ho]
 have hA1 := Z.To_both hg (f := ⟨tf,ff,(fx,fy)⟩) (h := ⟨th,fh,(hx,hy)⟩) hth (1,0)
 have hA2 := Z.To_both hg (f := ⟨tf,ff,(fx,fy)⟩) (h := ⟨th,fh,(hx,hy)⟩) hth (0,1)
 rw [hc, ha, hB] at hA1
 rw [hd, hb, hB] at hA2
 have hT := Z.both_ok hg ⟨tf,ff,(fx,fy)⟩ ⟨th,fh,(hx,hy)⟩
 have hT2 : bothT g ⟨tf,ff,(fx,fy)⟩ ⟨th,fh,(hx,hy)⟩ < g.toNat := hT
 have b1 := parts_of hg (p := (fx,fy)) (by omega)
 have b2 := parts_of hg (p := (hx,hy)) (by omega)
 have u := nrm_u hg
 have u1 : nrm g (1,0) = 1 ∧ nrm g (0,1) = 1 ∧ nrm g (0,0) = 0 := by rcases hg with rfl | rfl <;> decide
 have n1 := Z.nrm_To hg ⟨tf,ff,(fx,fy)⟩ (hx,hy)
 have n2 := Z.nrm_To hg ⟨th,fh,(hx,hy)⟩ (1,0)
 have n3 := Z.nrm_To hg ⟨th,fh,(hx,hy)⟩ (0,1)
 rw [ho] at n1; rw [hc] at n2; rw [hd] at n3
 simp only at n1 n2 n3 b1 b2
 have bo := parts_of hg (p := (ox,oy)) (by omega)
 simp only at bo
 have hgl : g ≤ 6 := by omega
 have N0 : Hid (nrm g (0,0) ≤ 200000000000000000) := Lib.hid (by omega)
 have N1 : Hid (nrm g (hx,hy) ≤ 200000000000000000) := Lib.hid (by omega)
 have N2 : Hid (nrm g (cx,cy) ≤ 200000000000000000) := Lib.hid (by omega)
 have N3 : Hid (nrm g (dx,dy) ≤ 200000000000000000) := Lib.hid (by omega)
 have HU := Lib.hid u
 have H0 := Lib.hid h0; have HO := Lib.hid ho; have HC := Lib.hid hc; have HA := Lib.hid ha; have HD := Lib.hid hd; have HB := Lib.hid hb
 have HA1 := Lib.hid hA1; have HA2 := Lib.hid hA2
 have HV : Hid (mvV (both g ⟨tf,ff,(fx,fy)⟩ ⟨th,fh,(hx,hy)⟩) = .agg #[.int .i64 (bothT g ⟨tf,ff,(fx,fy)⟩ ⟨th,fh,(hx,hy)⟩), .bool (ff ^^ fh), .int .i64 (ox), .int .i64 (oy)]) := Lib.hid (by rw [hB]; rfl)
 clear h0 ho hc ha hd hb hA1 hA2 hB hT u u1 n1 n2 n3 nf nh
 generalize bothT g ⟨tf,ff,(fx,fy)⟩ ⟨th,fh,(hx,hy)⟩ = T at *
 generalize (ff ^^ fh) = FF at *
 go_enter Tryz.func116, Tryz.ntmps116
 go_wp2_with fail
 (refine wp_region_ext_tail 23 (by kernel_rfl) (by kernel_rfl) ?_; simp only [List.take_succ_cons, List.take_zero, List.drop_succ_cons, List.drop_zero]; (repeat (first | ((with_reducible refine ext_step (fun K hK => ?_)); go_simp; first | (refine hK _ ?_; clear hK K) | (apply Exists.intro; refine ⟨fun _ _ => ?_, hK _ ?_⟩; (first | (go_at_call 51; with_reducible exact extOf (rToV (x := 0) (y := 0) (px := hx) (py := hy) (t := th) (f := fh) hg (by omega) N0.out (by omega) (by omega) H0.out)) | (go_at_call 51; with_reducible exact extOf (rToV (x := hx) (y := hy) (px := ox) (py := oy) (t := tf) (f := ff) hg (by omega) N1.out (by omega) (by omega) HO.out)) | (go_at_call 51; with_reducible exact extOf (rToV (x := 1) (y := 0) (px := cx) (py := cy) (t := th) (f := fh) hg (by omega) HU.out.1 (by omega) (by omega) HC.out)) | (go_at_call 51; with_reducible exact extOf (rToV (x := cx) (y := cy) (px := ax) (py := ay) (t := tf) (f := ff) hg (by omega) N2.out (by omega) (by omega) HA.out)) | (go_at_call 51; with_reducible exact extOf (rToV (x := 0) (y := 1) (px := dx) (py := dy) (t := th) (f := fh) hg (by omega) HU.out.2 (by omega) (by omega) HD.out)) | (go_at_call 51; with_reducible exact extOf (rToV (x := dx) (y := dy) (px := bx) (py := bY) (t := tf) (f := ff) hg (by omega) N3.out (by omega) (by omega) HB.out)) | (go_at_call 121; with_reducible exact extOf (rFitting_any g ox oy ax ay bx bY T FF _ hg hT2 (by omega) (by omega) HA1.out HA2.out))); clear hK K)))); refine wpQuiet_nil ?_; intro E d)
 go_wp2
 refine bodyPost_ret (v := .agg #[.int .i64 (T), .bool (FF), .int .i64 (ox), .int .i64 (oy)]) (by simp [results, Tryz.results116, go_sem]) rfl ⟨by rw [HV.out], blw⟩
end
section
open Go.RowKit
open Z (IsGcd nrm Mv To lin mir okT idm both bothT)
def coV (g tf : Int) (ff : Bool) (fx fy th : Int) (fh : Bool) (hx hy : Int) : Value :=
 if wE g tf fx fy ≠ 0 then .tuple #[.agg #[.int .i64 (0), .bool (false), .int .i64 (0), .int .i64 (0)], .int .i64 (wE g tf fx fy)] else if wE g th hx hy ≠ 0 then .tuple #[.agg #[.int .i64 (0), .bool (false), .int .i64 (0), .int .i64 (0)], .int .i64 (wE g th hx hy)]
 else if smB (both g ⟨tf.toNat,ff,(fx,fy)⟩ ⟨th.toNat,fh,(hx,hy)⟩).o.1 (both g ⟨tf.toNat,ff,(fx,fy)⟩ ⟨th.toNat,fh,(hx,hy)⟩).o.2 = false then .tuple #[.agg #[.int .i64 (0), .bool (false), .int .i64 (0), .int .i64 (0)], .int .i64 (4)]
 else .tuple #[mvV (both g ⟨tf.toNat,ff,(fx,fy)⟩ ⟨th.toNat,fh,(hx,hy)⟩), .int .i64 (0)]
theorem mvV_ex (m : Mv) : ∃ t f x y, m = ⟨t, f, (x, y)⟩ := ⟨m.t, m.f, m.o.1, m.o.2, rfl⟩
end
end Go.Proofs.YtajdoobkfbdgoaaGreatDoor
