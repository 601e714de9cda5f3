/- Lemmas and contracts of functions (what each call returns, and that it changes nothing that was there) that the proof of a law of this seat uses; each lemma states its own conditions. -/
import Derived.Test.YtnjheiiohfhckaaP1
namespace Go.Proofs.Ytnjheiiohfhckaa
open Go.RowKit
set_option linter.unusedVariables false
set_option linter.unusedSimpArgs false
open Z (IsGcd Normal nrm Mv To lin mir okT idm both bothT)
def mvV (m : Mv) : Value := .agg #[.int .i64 m.t, .bool m.f, .int .i64 m.o.1, .int .i64 m.o.2]
theorem btI4 : ∀ (a b : Fin 4), (((a.val:Int) + (b.val:Int)).tmod 4 + 4).tmod 4 = ((a.val + b.val) % 4 : Nat) ∧ (((a.val:Int) - (b.val:Int)).tmod 4 + 4).tmod 4 = ((a.val + (4 - b.val)) % 4 : Nat) := by decide +kernel
theorem btI6 : ∀ (a b : Fin 6), (((a.val:Int) + (b.val:Int)).tmod 6 + 6).tmod 6 = ((a.val + b.val) % 6 : Nat) ∧ (((a.val:Int) - (b.val:Int)).tmod 6 + 6).tmod 6 = ((a.val + (6 - b.val)) % 6 : Nat) := by decide +kernel
theorem btI {g : Int} (hg : Z.G g) {a b : Nat} (ha : a < g.toNat) (hb : b < g.toNat) : (((a:Int) + b).tmod g + g).tmod g = ((a + b) % g.toNat : Nat) ∧ (((a:Int) - b).tmod g + g).tmod g = ((a + (g.toNat - b)) % g.toNat : Nat) := by
  rcases hg with rfl | rfl
  · exact btI4 ⟨a, ha⟩ ⟨b, hb⟩
  · exact btI6 ⟨a, ha⟩ ⟨b, hb⟩
theorem tmod_bd {a g : Int} (hg : Z.G g) : -6 < a.tmod g ∧ a.tmod g < 6 := by
  rcases hg with rfl | rfl
  · have h1 := Int.tmod_lt_of_pos a (show (0:Int) < 4 by omega); have h2 := Int.lt_tmod_of_pos a (show (0:Int) < 4 by omega); omega
  · have h1 := Int.tmod_lt_of_pos a (show (0:Int) < 6 by omega); have h2 := Int.lt_tmod_of_pos a (show (0:Int) < 6 by omega); omega
set_option maxRecDepth 100000 in
set_option maxHeartbeats 8000000 in
theorem both_any (g fx fy hx hy : Int) (tf th : Nat) (ff fh : Bool) (w : World) (hg : g = 4 ∨ g = 6) (htf : tf < g.toNat) (hth : th < g.toNat) (hb : nrm g (hx,hy) ≤ 200000000000000000) (h1 : -1000000000000 ≤ fx ∧ fx ≤ 1000000000000) (h2 : -1000000000000 ≤ fy ∧ fy ≤ 1000000000000) :
    Calls Try.prog 47 #[.int .i64 (g), .agg #[.int .i64 (tf), .bool (ff), .int .i64 (fx), .int .i64 (fy)], .agg #[.int .i64 (th), .bool (fh), .int .i64 (hx), .int .i64 (hy)]] w fun e w' => e = .returned (mvV (both g ⟨tf,ff,(fx,fy)⟩ ⟨th,fh,(hx,hy)⟩)) ∧ Below w.heap.size w w' := by
  have hbt := btI hg htf hth
  have hgl : g ≤ 6 := by omega
  have m1 := tmod_bd (a := (tf:Int) + th) hg
  have m2 := tmod_bd (a := (tf:Int) - th) hg
  have hg0 : g ≠ 0 := by omega
  have e1 : ((tf:Int) + th).tmod g = ((tf:Int) + th) % g := Int.tmod_eq_emod_of_nonneg (by omega)
  rw [e1] at hbt m1
  clear e1
  cases ff with
  | false =>
    have hT : (bothT g ⟨tf,false,(fx,fy)⟩ ⟨th,fh,(hx,hy)⟩ : Int) = (((tf:Int) + th) % g + g).tmod g := by rw [hbt.1]; rfl
    clear hbt
    cases fh with
    | false =>
      have hT1 := hT
      clear hT
      (have HT : Hid (mvV (both g ⟨tf,false,(fx,fy)⟩ ⟨th,false,(hx,hy)⟩) = .agg #[.int .i64 ((((tf:Int) + th) % g + g).tmod g), .bool (false), .int .i64 ((To g ⟨tf,false,(fx,fy)⟩ (hx,hy)).1), .int .i64 ((To g ⟨tf,false,(fx,fy)⟩ (hx,hy)).2)]) := Lib.hid (by simp only [mvV, both]; rw [hT1]; rfl); clear hT1; go_enter Try.func47, Try.ntmps47; go_wp2_with fail; (refine wp_region_ext_tail 18 (by kernel_rfl) (by kernel_rfl) ?_; simp only [List.take_succ_cons, List.take_zero, List.drop_succ_cons, List.drop_zero]; (repeat (first | (refine ext_step (fun K hK => ?_); go_simp; first | (refine hK _ ?_; clear hK K) | (apply Exists.intro; refine ⟨fun _ _ => ?_, hK _ ?_⟩; (go_at_call 45; exact extOf (apply_any g hx hy fx fy tf false _ hg (by omega) hb h1 h2)); clear hK K)))); refine wpQuiet_nil ?_; intro E d); go_wp2; refine bodyPost_ret (v := .agg #[.int .i64 ((((tf:Int) + th) % g + g).tmod g), .bool (false), .int .i64 ((To g ⟨tf,false,(fx,fy)⟩ (hx,hy)).1), .int .i64 ((To g ⟨tf,false,(fx,fy)⟩ (hx,hy)).2)]) (by simp [results, Try.results47, go_sem]) rfl ⟨by rw [HT.out], (by repeat (first | exact Below.refl _ _ | refine Below.drew ?_ | refine below_drewN ?_ _ | refine Below.alloc ?_ (by first | exact Nat.le_refl _ | (simp; done) | (simp; omega) | omega) _ | refine Below.setCell ?_ (by first | exact Nat.le_refl _ | (simp; done) | (simp; omega) | omega) _ | refine bExtW ?_ (by first | exact Nat.le_refl _ | (simp; done) | (simp; omega) | omega) | refine Below.trans ?_ (Below.mono (by assumption) (by first | exact Nat.le_refl _ | (simp; done) | (simp; omega) | omega))))⟩)
    | true =>
      have hT1 := hT
      clear hT
      (have HT : Hid (mvV (both g ⟨tf,false,(fx,fy)⟩ ⟨th,true,(hx,hy)⟩) = .agg #[.int .i64 ((((tf:Int) + th) % g + g).tmod g), .bool (true), .int .i64 ((To g ⟨tf,false,(fx,fy)⟩ (hx,hy)).1), .int .i64 ((To g ⟨tf,false,(fx,fy)⟩ (hx,hy)).2)]) := Lib.hid (by simp only [mvV, both]; rw [hT1]; rfl); clear hT1; go_enter Try.func47, Try.ntmps47; go_wp2_with fail; (refine wp_region_ext_tail 18 (by kernel_rfl) (by kernel_rfl) ?_; simp only [List.take_succ_cons, List.take_zero, List.drop_succ_cons, List.drop_zero]; (repeat (first | (refine ext_step (fun K hK => ?_); go_simp; first | (refine hK _ ?_; clear hK K) | (apply Exists.intro; refine ⟨fun _ _ => ?_, hK _ ?_⟩; (go_at_call 45; exact extOf (apply_any g hx hy fx fy tf false _ hg (by omega) hb h1 h2)); clear hK K)))); refine wpQuiet_nil ?_; intro E d); go_wp2; refine bodyPost_ret (v := .agg #[.int .i64 ((((tf:Int) + th) % g + g).tmod g), .bool (true), .int .i64 ((To g ⟨tf,false,(fx,fy)⟩ (hx,hy)).1), .int .i64 ((To g ⟨tf,false,(fx,fy)⟩ (hx,hy)).2)]) (by simp [results, Try.results47, go_sem]) rfl ⟨by rw [HT.out], (by repeat (first | exact Below.refl _ _ | refine Below.drew ?_ | refine below_drewN ?_ _ | refine Below.alloc ?_ (by first | exact Nat.le_refl _ | (simp; done) | (simp; omega) | omega) _ | refine Below.setCell ?_ (by first | exact Nat.le_refl _ | (simp; done) | (simp; omega) | omega) _ | refine bExtW ?_ (by first | exact Nat.le_refl _ | (simp; done) | (simp; omega) | omega) | refine Below.trans ?_ (Below.mono (by assumption) (by first | exact Nat.le_refl _ | (simp; done) | (simp; omega) | omega))))⟩)
  | true =>
    have hT : (bothT g ⟨tf,true,(fx,fy)⟩ ⟨th,fh,(hx,hy)⟩ : Int) = (((tf:Int) - th).tmod g + g).tmod g := by rw [hbt.2]; rfl
    clear hbt
    cases fh with
    | false =>
      have hT1 := hT
      clear hT
      (have HT : Hid (mvV (both g ⟨tf,true,(fx,fy)⟩ ⟨th,false,(hx,hy)⟩) = .agg #[.int .i64 ((((tf:Int) - th).tmod g + g).tmod g), .bool (true), .int .i64 ((To g ⟨tf,true,(fx,fy)⟩ (hx,hy)).1), .int .i64 ((To g ⟨tf,true,(fx,fy)⟩ (hx,hy)).2)]) := Lib.hid (by simp only [mvV, both]; rw [hT1]; rfl); clear hT1; go_enter Try.func47, Try.ntmps47; go_wp2_with fail; (refine wp_region_ext_tail 18 (by kernel_rfl) (by kernel_rfl) ?_; simp only [List.take_succ_cons, List.take_zero, List.drop_succ_cons, List.drop_zero]; (repeat (first | (refine ext_step (fun K hK => ?_); go_simp; first | (refine hK _ ?_; clear hK K) | (apply Exists.intro; refine ⟨fun _ _ => ?_, hK _ ?_⟩; (go_at_call 45; exact extOf (apply_any g hx hy fx fy tf true _ hg (by omega) hb h1 h2)); clear hK K)))); refine wpQuiet_nil ?_; intro E d); go_wp2; refine bodyPost_ret (v := .agg #[.int .i64 ((((tf:Int) - th).tmod g + g).tmod g), .bool (true), .int .i64 ((To g ⟨tf,true,(fx,fy)⟩ (hx,hy)).1), .int .i64 ((To g ⟨tf,true,(fx,fy)⟩ (hx,hy)).2)]) (by simp [results, Try.results47, go_sem]) rfl ⟨by rw [HT.out], (by repeat (first | exact Below.refl _ _ | refine Below.drew ?_ | refine below_drewN ?_ _ | refine Below.alloc ?_ (by first | exact Nat.le_refl _ | (simp; done) | (simp; omega) | omega) _ | refine Below.setCell ?_ (by first | exact Nat.le_refl _ | (simp; done) | (simp; omega) | omega) _ | refine bExtW ?_ (by first | exact Nat.le_refl _ | (simp; done) | (simp; omega) | omega) | refine Below.trans ?_ (Below.mono (by assumption) (by first | exact Nat.le_refl _ | (simp; done) | (simp; omega) | omega))))⟩)
    | true =>
      have hT1 := hT
      clear hT
      (have HT : Hid (mvV (both g ⟨tf,true,(fx,fy)⟩ ⟨th,true,(hx,hy)⟩) = .agg #[.int .i64 ((((tf:Int) - th).tmod g + g).tmod g), .bool (false), .int .i64 ((To g ⟨tf,true,(fx,fy)⟩ (hx,hy)).1), .int .i64 ((To g ⟨tf,true,(fx,fy)⟩ (hx,hy)).2)]) := Lib.hid (by simp only [mvV, both]; rw [hT1]; rfl); clear hT1; go_enter Try.func47, Try.ntmps47; go_wp2_with fail; (refine wp_region_ext_tail 18 (by kernel_rfl) (by kernel_rfl) ?_; simp only [List.take_succ_cons, List.take_zero, List.drop_succ_cons, List.drop_zero]; (repeat (first | (refine ext_step (fun K hK => ?_); go_simp; first | (refine hK _ ?_; clear hK K) | (apply Exists.intro; refine ⟨fun _ _ => ?_, hK _ ?_⟩; (go_at_call 45; exact extOf (apply_any g hx hy fx fy tf true _ hg (by omega) hb h1 h2)); clear hK K)))); refine wpQuiet_nil ?_; intro E d); go_wp2; refine bodyPost_ret (v := .agg #[.int .i64 ((((tf:Int) - th).tmod g + g).tmod g), .bool (false), .int .i64 ((To g ⟨tf,true,(fx,fy)⟩ (hx,hy)).1), .int .i64 ((To g ⟨tf,true,(fx,fy)⟩ (hx,hy)).2)]) (by simp [results, Try.results47, go_sem]) rfl ⟨by rw [HT.out], (by repeat (first | exact Below.refl _ _ | refine Below.drew ?_ | refine below_drewN ?_ _ | refine Below.alloc ?_ (by first | exact Nat.le_refl _ | (simp; done) | (simp; omega) | omega) _ | refine Below.setCell ?_ (by first | exact Nat.le_refl _ | (simp; done) | (simp; omega) | omega) _ | refine bExtW ?_ (by first | exact Nat.le_refl _ | (simp; done) | (simp; omega) | omega) | refine Below.trans ?_ (Below.mono (by assumption) (by first | exact Nat.le_refl _ | (simp; done) | (simp; omega) | omega))))⟩)
end Go.Proofs.Ytnjheiiohfhckaa
