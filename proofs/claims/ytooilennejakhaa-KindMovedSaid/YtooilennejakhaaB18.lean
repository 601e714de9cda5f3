/- Lemmas and contracts of functions (what each call returns, and that it changes nothing that was there) that the proof of a law of this seat uses; each lemma states its own conditions. -/
import Derived.Test.YtooilennejakhaaB17
import Derived.Test.YtooilennejakhaaB03
namespace Go.Proofs.Ytooilennejakhaa
open Go.RowKit
set_option linter.unusedVariables false
set_option linter.unusedSimpArgs false
open Z (IsGcd Normal nrm Mv To lin mir okT idm both bothT)
set_option maxRecDepth 100000 in
set_option maxHeartbeats 8000000 in
theorem turnedN (g x y : Int) (n : Nat) (w : World) (hg : g = 4 ∨ g = 6) (hn : n ≤ 6) (hb : nrm g (x,y) ≤ 200000000000000000) :
    Calls Try.prog 74 #[.int .i64 (g), .agg #[.int .i64 (x), .int .i64 (y)], .int .i64 (n)] w fun e w' => e = .returned (.agg #[.int .i64 ((Z.tn g n (x,y)).1), .int .i64 ((Z.tn g n (x,y)).2)]) ∧ Below w.heap.size w w' := by
  have hbd : ∀ k : Nat, k ≤ n → (-1073741824 ≤ (Z.tn g k (x,y)).1 ∧ (Z.tn g k (x,y)).1 ≤ 1073741824) ∧ (-1073741824 ≤ (Z.tn g k (x,y)).2 ∧ (Z.tn g k (x,y)).2 ≤ 1073741824) := by
    intro k hk
    have h2 := Z.nrm_tn hg k (x,y)
    exact Z.part_bd hg (by omega) (by omega)
  have HB := Lib.hid hbd
  clear hbd
  go_enter Try.func74, Try.ntmps74
  go_wp2_with fail
  go_loopw [8] (fun i wr => ∃ (k : Nat) (E : Array Obj) (d : Nat), k ≤ n ∧ i = .int .i64 k ∧ wr = extW ((w.alloc (.cells #[.int .i64 ((Z.tn g k (x,y)).1), .int .i64 ((Z.tn g k (x,y)).2)] 33)).alloc (.cells #[.int .i64 (0), .int .i64 (0)] 33)) E d) (fun i _ => n - (intOf i).toNat)
  case atStart => exact ⟨0, #[], _, Nat.zero_le _, rfl, extW_zero _⟩
  case round =>
    obtain ⟨k, E, d, hk, rfl, rfl⟩ := hrel
    obtain ⟨hb1, hb2⟩ := HB.out k hk
    have H1 := Lib.hid (tmY_one g (Z.tn g k (x,y)).1 (Z.tn g k (x,y)).2 hg)
    have HT : Hid (Z.tn g (k+1) (x,y) = Z.turn g (Z.tn g k (x,y))) := Lib.hid rfl
    generalize hp : Z.tn g k (x,y) = p at *
    have HP := Lib.hid hp
    clear hp
    by_cases hlt : k < n
    · go_wp2_with fail
      refine (times_any g p.1 p.2 0 1 _ (by omega) (by omega) (by omega) (by omega)).mono ?_
      rintro r w1 ⟨rfl, hb⟩
      obtain ⟨E', d', rfl⟩ := bExt hb
      clear hb
      rw [H1.out.1, H1.out.2]
      go_wp2
      go_roundw
      case rel => exact ⟨k + 1, E ++ E', d', by omega, by go_num, by rw [HT.out, extW_extW]⟩
      case measure => simp [intOf]; omega
    · have hkn : k = n := by omega
      subst hkn
      go_wp2
      refine bodyPost_ret (v := .agg #[.int .i64 (p.1), .int .i64 (p.2)]) (by simp [results, Try.results74, go_sem]) rfl ⟨by rw [HP.out], (by repeat (first | exact Below.refl _ _ | refine Below.drew ?_ | refine below_drewN ?_ _ | refine Below.alloc ?_ (by first | exact Nat.le_refl _ | (simp; done) | (simp; omega) | omega) _ | refine Below.setCell ?_ (by first | exact Nat.le_refl _ | (simp; done) | (simp; omega) | omega) _ | refine bExtW ?_ (by first | exact Nat.le_refl _ | (simp; done) | (simp; omega) | omega) | refine Below.trans ?_ (Below.mono (by assumption) (by first | exact Nat.le_refl _ | (simp; done) | (simp; omega) | omega))))⟩
theorem parts_of {g : Int} (hg : Z.G g) {p : Z.Pt} (h : nrm g p ≤ 200000000000000000) : (-536870912 ≤ p.1 ∧ p.1 ≤ 536870912) ∧ (-536870912 ≤ p.2 ∧ p.2 ≤ 536870912) := Z.part_bd hg (by omega) (by omega)
set_option maxRecDepth 100000 in
set_option maxHeartbeats 8000000 in
theorem apply_any (g x y ox oy : Int) (t : Nat) (f : Bool) (w : World) (hg : g = 4 ∨ g = 6) (ht : t ≤ 6) (hb : nrm g (x,y) ≤ 200000000000000000) (h1 : -1000000000000 ≤ ox ∧ ox ≤ 1000000000000) (h2 : -1000000000000 ≤ oy ∧ oy ≤ 1000000000000) :
    Calls Try.prog 60 #[.int .i64 (g), .agg #[.int .i64 (t), .bool (f), .int .i64 (ox), .int .i64 (oy)], .agg #[.int .i64 (x), .int .i64 (y)]] w fun e w' => e = .returned (.agg #[.int .i64 ((To g ⟨t,f,(ox,oy)⟩ (x,y)).1), .int .i64 ((To g ⟨t,f,(ox,oy)⟩ (x,y)).2)]) ∧ Below w.heap.size w w' := by
  have bp := parts_of hg hb
  simp only at bp
  cases f with
  | false =>
    have HT : Hid (To g ⟨t,false,(ox,oy)⟩ (x,y) = ((Z.tn g t (x,y)).1 + ox, (Z.tn g t (x,y)).2 + oy)) := Lib.hid rfl
    have hn : nrm g (Z.tn g t (x,y)) ≤ 200000000000000000 := by rw [Z.nrm_tn hg]; exact hb
    have bn := parts_of hg hn
    go_enter Try.func60, Try.ntmps60
    (go_wp2_with fail; refine (turnedN g x y t _ hg ht hb).mono ?_; rintro r w1 ⟨rfl, hb⟩; obtain ⟨E, d, rfl⟩ := bExt hb; clear hb)
    generalize Z.tn g t (x,y) = p at *
    go_wp2
    refine bodyPost_ret (v := .agg #[.int .i64 (p.1+ox), .int .i64 (p.2+oy)]) (by simp [results, Try.results60, go_sem]) rfl ⟨by rw [HT.out], (by repeat (first | exact Below.refl _ _ | refine Below.drew ?_ | refine below_drewN ?_ _ | refine Below.alloc ?_ (by first | exact Nat.le_refl _ | (simp; done) | (simp; omega) | omega) _ | refine Below.setCell ?_ (by first | exact Nat.le_refl _ | (simp; done) | (simp; omega) | omega) _ | refine bExtW ?_ (by first | exact Nat.le_refl _ | (simp; done) | (simp; omega) | omega) | refine Below.trans ?_ (Below.mono (by assumption) (by first | exact Nat.le_refl _ | (simp; done) | (simp; omega) | omega))))⟩
  | true =>
    have HT : Hid (To g ⟨t,true,(ox,oy)⟩ (x,y) = ((Z.tn g t (miX g x y, -y)).1 + ox, (Z.tn g t (miX g x y, -y)).2 + oy)) := Lib.hid rfl
    have hb2 : nrm g (miX g x y, -y) ≤ 200000000000000000 := by
      have e := Z.nrm_conj hg (x,y)
      have e2 : Z.conj g (x,y) = (miX g x y, -y) := rfl
      rw [e2] at e
      omega
    have hn : nrm g (Z.tn g t (miX g x y, -y)) ≤ 200000000000000000 := by rw [Z.nrm_tn hg]; exact hb2
    have bn := parts_of hg hn
    go_enter Try.func60, Try.ntmps60
    (go_wp2_with fail; refine (mirrored_any g x y _ (by omega) (by omega)).mono ?_; rintro r w1 ⟨rfl, hb⟩; obtain ⟨E, d, rfl⟩ := bExt hb; clear hb)
    (go_wp2_with fail; refine (turnedN g _ _ t _ hg ht hb2).mono ?_; rintro r w1 ⟨rfl, hb⟩; obtain ⟨E, d, rfl⟩ := bExt hb; clear hb)
    generalize Z.tn g t (miX g x y, -y) = p at *
    go_wp2
    refine bodyPost_ret (v := .agg #[.int .i64 (p.1+ox), .int .i64 (p.2+oy)]) (by simp [results, Try.results60, go_sem]) rfl ⟨by rw [HT.out], (by repeat (first | exact Below.refl _ _ | refine Below.drew ?_ | refine below_drewN ?_ _ | refine Below.alloc ?_ (by first | exact Nat.le_refl _ | (simp; done) | (simp; omega) | omega) _ | refine Below.setCell ?_ (by first | exact Nat.le_refl _ | (simp; done) | (simp; omega) | omega) _ | refine bExtW ?_ (by first | exact Nat.le_refl _ | (simp; done) | (simp; omega) | omega) | refine Below.trans ?_ (Below.mono (by assumption) (by first | exact Nat.le_refl _ | (simp; done) | (simp; omega) | omega))))⟩
set_option maxRecDepth 100000 in
set_option maxHeartbeats 8000000 in
theorem rTo_any (g x y ox oy : Int) (t : Nat) (f : Bool) (w : World) (hg : g = 4 ∨ g = 6) (ht : t ≤ 6) (hb : nrm g (x,y) ≤ 200000000000000000) (h1 : -1000000000000 ≤ ox ∧ ox ≤ 1000000000000) (h2 : -1000000000000 ≤ oy ∧ oy ≤ 1000000000000) :
    Calls Try.prog 50 #[.int .i64 (g), .agg #[.int .i64 (t), .bool (f), .int .i64 (ox), .int .i64 (oy)], .agg #[.int .i64 (x), .int .i64 (y)]] w fun e w' => e = .returned (.agg #[.int .i64 ((To g ⟨t,f,(ox,oy)⟩ (x,y)).1), .int .i64 ((To g ⟨t,f,(ox,oy)⟩ (x,y)).2)]) ∧ Below w.heap.size w w' := by
  have bp := parts_of hg hb
  simp only at bp
  obtain ⟨mx, my, hm⟩ : ∃ mx my, mir g f (x,y) = (mx, my) := ⟨_, _, rfl⟩
  have hbm : nrm g (mx,my) ≤ 200000000000000000 := by rw [← hm]; cases f <;> simp only [mir, if_true, if_false, Bool.false_eq_true] <;> (try rw [Z.nrm_conj hg]) <;> exact hb
  have HM := Lib.hid hm
  have HT : Hid (To g ⟨t,f,(ox,oy)⟩ (x,y) = ((Z.tn g t (mx,my)).1 + ox, (Z.tn g t (mx,my)).2 + oy)) := Lib.hid (by simp only [To, lin, hm]; rfl)
  clear hm
  have hbd : ∀ k : Nat, (-536870912 ≤ (Z.tn g k (mx,my)).1 ∧ (Z.tn g k (mx,my)).1 ≤ 536870912) ∧ (-536870912 ≤ (Z.tn g k (mx,my)).2 ∧ (Z.tn g k (mx,my)).2 ≤ 536870912) := by
    intro k
    have h2 := Z.nrm_tn hg k (mx,my)
    exact parts_of hg (by omega)
  have HB := Lib.hid hbd
  clear hbd
  cases f with
  | false =>
    obtain ⟨rfl, rfl⟩ : x = mx ∧ y = my := by have := HM.out; simpa [mir] using this
    clear HM
    go_enter Try.func50, Try.ntmps50
    go_wp2_with fail
    go_loopw [7] (fun i wr => ∃ (k : Nat) (E : Array Obj) (d : Nat), k ≤ t ∧ i = .int .i64 k ∧ wr = extW (((w.alloc (.cells #[.int .i64 t, .bool false, .int .i64 (ox), .int .i64 (oy)] 39)).alloc (.cells #[.int .i64 ((Z.tn g k (x,y)).1), .int .i64 ((Z.tn g k (x,y)).2)] 33)).alloc (.cells #[.int .i64 (0), .int .i64 (0)] 33)) E d) (fun i _ => t - (intOf i).toNat)
    case atStart => exact ⟨0, _, _, Nat.zero_le _, rfl, by first | exact extW_zero _ | rfl⟩
    case round =>
      obtain ⟨k, E, d, hk, rfl, rfl⟩ := hrel
      obtain ⟨hb1, hb2⟩ := HB.out k
      have HTN : Hid (Z.tn g (k+1) (x,y) = Z.turn g (Z.tn g k (x,y))) := Lib.hid rfl
      generalize hp : Z.tn g k (x,y) = p at *
      have HP := Lib.hid hp
      clear hp
      by_cases hlt : k < t
      · (go_wp2_with fail; refine (rTurned_any g p.1 p.2 _ (by omega) (by omega)).mono ?_; rintro r w1 ⟨rfl, hb⟩; obtain ⟨E, d, rfl⟩ := bExt hb; clear hb)
        go_wp2
        go_roundw
        case rel => exact ⟨k + 1, _, _, by omega, by go_num, by rw [HTN.out, extW_extW]; rfl⟩
        case measure => simp [intOf]; omega
      · have hkn : k = t := by omega
        subst hkn
        (go_wp2_with fail; refine (rplus_any p.1 p.2 ox oy _ (by omega) (by omega)).mono ?_; rintro r w1 ⟨rfl, hb⟩; obtain ⟨E, d, rfl⟩ := bExt hb; clear hb)
        go_wp2
        refine bodyPost_ret (v := .agg #[.int .i64 (p.1+ox), .int .i64 (p.2+oy)]) (by simp [results, Try.results50, go_sem]) rfl ⟨by rw [HT.out, HP.out], (by repeat (first | exact Below.refl _ _ | refine Below.drew ?_ | refine below_drewN ?_ _ | refine Below.alloc ?_ (by first | exact Nat.le_refl _ | (simp; done) | (simp; omega) | omega) _ | refine Below.setCell ?_ (by first | exact Nat.le_refl _ | (simp; done) | (simp; omega) | omega) _ | refine bExtW ?_ (by first | exact Nat.le_refl _ | (simp; done) | (simp; omega) | omega) | refine Below.trans ?_ (Below.mono (by assumption) (by first | exact Nat.le_refl _ | (simp; done) | (simp; omega) | omega))))⟩
  | true =>
    obtain ⟨rfl, rfl⟩ : miX g x y = mx ∧ -y = my := by have := HM.out; simpa [mir, Z.conj] using this
    clear HM
    go_enter Try.func50, Try.ntmps50
    (go_wp2_with fail; refine (rMirrored_any g x y _ hg (by omega) (by omega)).mono ?_; rintro r w1 ⟨rfl, hb⟩; obtain ⟨E, d, rfl⟩ := bExt hb; clear hb)
    go_wp2_with fail
    go_loopw [7] (fun i wr => ∃ (k : Nat) (E : Array Obj) (d : Nat), k ≤ t ∧ i = .int .i64 k ∧ wr = extW (((w.alloc (.cells #[.int .i64 t, .bool true, .int .i64 (ox), .int .i64 (oy)] 39)).alloc (.cells #[.int .i64 ((Z.tn g k (miX g x y,-y)).1), .int .i64 ((Z.tn g k (miX g x y,-y)).2)] 33)).alloc (.cells #[.int .i64 (0), .int .i64 (0)] 33)) E d) (fun i _ => t - (intOf i).toNat)
    case atStart => exact ⟨0, _, _, Nat.zero_le _, rfl, by first | exact extW_zero _ | rfl⟩
    case round =>
      obtain ⟨k, E, d, hk, rfl, rfl⟩ := hrel
      obtain ⟨hb1, hb2⟩ := HB.out k
      have HTN : Hid (Z.tn g (k+1) (miX g x y,-y) = Z.turn g (Z.tn g k (miX g x y,-y))) := Lib.hid rfl
      generalize hp : Z.tn g k (miX g x y,-y) = p at *
      have HP := Lib.hid hp
      clear hp
      by_cases hlt : k < t
      · (go_wp2_with fail; refine (rTurned_any g p.1 p.2 _ (by omega) (by omega)).mono ?_; rintro r w1 ⟨rfl, hb⟩; obtain ⟨E, d, rfl⟩ := bExt hb; clear hb)
        go_wp2
        go_roundw
        case rel => exact ⟨k + 1, _, _, by omega, by go_num, by rw [HTN.out, extW_extW]; rfl⟩
        case measure => simp [intOf]; omega
      · have hkn : k = t := by omega
        subst hkn
        (go_wp2_with fail; refine (rplus_any p.1 p.2 ox oy _ (by omega) (by omega)).mono ?_; rintro r w1 ⟨rfl, hb⟩; obtain ⟨E, d, rfl⟩ := bExt hb; clear hb)
        go_wp2
        refine bodyPost_ret (v := .agg #[.int .i64 (p.1+ox), .int .i64 (p.2+oy)]) (by simp [results, Try.results50, go_sem]) rfl ⟨by rw [HT.out, HP.out], (by repeat (first | exact Below.refl _ _ | refine Below.drew ?_ | refine below_drewN ?_ _ | refine Below.alloc ?_ (by first | exact Nat.le_refl _ | (simp; done) | (simp; omega) | omega) _ | refine Below.setCell ?_ (by first | exact Nat.le_refl _ | (simp; done) | (simp; omega) | omega) _ | refine bExtW ?_ (by first | exact Nat.le_refl _ | (simp; done) | (simp; omega) | omega) | refine Below.trans ?_ (Below.mono (by assumption) (by first | exact Nat.le_refl _ | (simp; done) | (simp; omega) | omega))))⟩
end Go.Proofs.Ytooilennejakhaa

namespace Go.Proofs.Ytooilennejakhaa
open Go.RowKit
set_option linter.unusedVariables false
set_option linter.unusedSimpArgs false
open Z (IsGcd Normal nrm Mv To lin mir okT idm both bothT)
def mvV (m : Mv) : Value := .agg #[.int .i64 m.t, .bool m.f, .int .i64 m.o.1, .int .i64 m.o.2]
theorem btI4 : ∀ (a b : Fin 4), (((a.val:Int) + (b.val:Int)).tmod 4 + 4).tmod 4 = ((a.val + b.val) % 4 : Nat) ∧ (((a.val:Int) - (b.val:Int)).tmod 4 + 4).tmod 4 = ((a.val + (4 - b.val)) % 4 : Nat) := by decide +kernel
theorem btI6 : ∀ (a b : Fin 6), (((a.val:Int) + (b.val:Int)).tmod 6 + 6).tmod 6 = ((a.val + b.val) % 6 : Nat) ∧ (((a.val:Int) - (b.val:Int)).tmod 6 + 6).tmod 6 = ((a.val + (6 - b.val)) % 6 : Nat) := by decide +kernel
theorem btI {g : Int} (hg : Z.G g) {a b : Nat} (ha : a < g.toNat) (hb : b < g.toNat) : (((a:Int) + b).tmod g + g).tmod g = ((a + b) % g.toNat : Nat) ∧ (((a:Int) - b).tmod g + g).tmod g = ((a + (g.toNat - b)) % g.toNat : Nat) := by
  rcases hg with rfl | rfl
  · exact btI4 ⟨a, ha⟩ ⟨b, hb⟩
  · exact btI6 ⟨a, ha⟩ ⟨b, hb⟩
theorem tmod_bd {a g : Int} (hg : Z.G g) : -6 < a.tmod g ∧ a.tmod g < 6 := by
  rcases hg with rfl | rfl
  · have h1 := Int.tmod_lt_of_pos a (show (0:Int) < 4 by omega); have h2 := Int.lt_tmod_of_pos a (show (0:Int) < 4 by omega); omega
  · have h1 := Int.tmod_lt_of_pos a (show (0:Int) < 6 by omega); have h2 := Int.lt_tmod_of_pos a (show (0:Int) < 6 by omega); omega
set_option maxRecDepth 100000 in
set_option maxHeartbeats 8000000 in
theorem both_any (g fx fy hx hy : Int) (tf th : Nat) (ff fh : Bool) (w : World) (hg : g = 4 ∨ g = 6) (htf : tf < g.toNat) (hth : th < g.toNat) (hb : nrm g (hx,hy) ≤ 200000000000000000) (h1 : -1000000000000 ≤ fx ∧ fx ≤ 1000000000000) (h2 : -1000000000000 ≤ fy ∧ fy ≤ 1000000000000) :
    Calls Try.prog 71 #[.int .i64 (g), .agg #[.int .i64 (tf), .bool (ff), .int .i64 (fx), .int .i64 (fy)], .agg #[.int .i64 (th), .bool (fh), .int .i64 (hx), .int .i64 (hy)]] w fun e w' => e = .returned (mvV (both g ⟨tf,ff,(fx,fy)⟩ ⟨th,fh,(hx,hy)⟩)) ∧ Below w.heap.size w w' := by
  have hbt := btI hg htf hth
  have hgl : g ≤ 6 := by omega
  have m1 := tmod_bd (a := (tf:Int) + th) hg
  have m2 := tmod_bd (a := (tf:Int) - th) hg
  have hg0 : g ≠ 0 := by omega
  have e1 : ((tf:Int) + th).tmod g = ((tf:Int) + th) % g := Int.tmod_eq_emod_of_nonneg (by omega)
  rw [e1] at hbt m1
  clear e1
  cases ff with
  | false =>
    have hT : (bothT g ⟨tf,false,(fx,fy)⟩ ⟨th,fh,(hx,hy)⟩ : Int) = (((tf:Int) + th) % g + g).tmod g := by rw [hbt.1]; rfl
    clear hbt
    cases fh with
    | false =>
      have hT1 := hT
      clear hT
      (have HT : Hid (mvV (both g ⟨tf,false,(fx,fy)⟩ ⟨th,false,(hx,hy)⟩) = .agg #[.int .i64 ((((tf:Int) + th) % g + g).tmod g), .bool (false), .int .i64 ((To g ⟨tf,false,(fx,fy)⟩ (hx,hy)).1), .int .i64 ((To g ⟨tf,false,(fx,fy)⟩ (hx,hy)).2)]) := Lib.hid (by simp only [mvV, both]; rw [hT1]; rfl); clear hT1; go_enter Try.func71, Try.ntmps71; go_wp2_with fail; (refine wp_region_ext_tail 18 (by kernel_rfl) (by kernel_rfl) ?_; simp only [List.take_succ_cons, List.take_zero, List.drop_succ_cons, List.drop_zero]; (repeat (first | ((with_reducible refine ext_step (fun K hK => ?_)); go_simp; first | (refine hK _ ?_; clear hK K) | (apply Exists.intro; refine ⟨fun _ _ => ?_, hK _ ?_⟩; (go_at_call 60; exact extOf (apply_any g hx hy fx fy tf false _ hg (by omega) hb h1 h2)); clear hK K)))); refine wpQuiet_nil ?_; intro E d); go_wp2; refine bodyPost_ret (v := .agg #[.int .i64 ((((tf:Int) + th) % g + g).tmod g), .bool (false), .int .i64 ((To g ⟨tf,false,(fx,fy)⟩ (hx,hy)).1), .int .i64 ((To g ⟨tf,false,(fx,fy)⟩ (hx,hy)).2)]) (by simp [results, Try.results71, go_sem]) rfl ⟨by rw [HT.out], (by repeat (first | exact Below.refl _ _ | refine Below.drew ?_ | refine below_drewN ?_ _ | refine Below.alloc ?_ (by first | exact Nat.le_refl _ | (simp; done) | (simp; omega) | omega) _ | refine Below.setCell ?_ (by first | exact Nat.le_refl _ | (simp; done) | (simp; omega) | omega) _ | refine bExtW ?_ (by first | exact Nat.le_refl _ | (simp; done) | (simp; omega) | omega) | refine Below.trans ?_ (Below.mono (by assumption) (by first | exact Nat.le_refl _ | (simp; done) | (simp; omega) | omega))))⟩)
    | true =>
      have hT1 := hT
      clear hT
      (have HT : Hid (mvV (both g ⟨tf,false,(fx,fy)⟩ ⟨th,true,(hx,hy)⟩) = .agg #[.int .i64 ((((tf:Int) + th) % g + g).tmod g), .bool (true), .int .i64 ((To g ⟨tf,false,(fx,fy)⟩ (hx,hy)).1), .int .i64 ((To g ⟨tf,false,(fx,fy)⟩ (hx,hy)).2)]) := Lib.hid (by simp only [mvV, both]; rw [hT1]; rfl); clear hT1; go_enter Try.func71, Try.ntmps71; go_wp2_with fail; (refine wp_region_ext_tail 18 (by kernel_rfl) (by kernel_rfl) ?_; simp only [List.take_succ_cons, List.take_zero, List.drop_succ_cons, List.drop_zero]; (repeat (first | ((with_reducible refine ext_step (fun K hK => ?_)); go_simp; first | (refine hK _ ?_; clear hK K) | (apply Exists.intro; refine ⟨fun _ _ => ?_, hK _ ?_⟩; (go_at_call 60; exact extOf (apply_any g hx hy fx fy tf false _ hg (by omega) hb h1 h2)); clear hK K)))); refine wpQuiet_nil ?_; intro E d); go_wp2; refine bodyPost_ret (v := .agg #[.int .i64 ((((tf:Int) + th) % g + g).tmod g), .bool (true), .int .i64 ((To g ⟨tf,false,(fx,fy)⟩ (hx,hy)).1), .int .i64 ((To g ⟨tf,false,(fx,fy)⟩ (hx,hy)).2)]) (by simp [results, Try.results71, go_sem]) rfl ⟨by rw [HT.out], (by repeat (first | exact Below.refl _ _ | refine Below.drew ?_ | refine below_drewN ?_ _ | refine Below.alloc ?_ (by first | exact Nat.le_refl _ | (simp; done) | (simp; omega) | omega) _ | refine Below.setCell ?_ (by first | exact Nat.le_refl _ | (simp; done) | (simp; omega) | omega) _ | refine bExtW ?_ (by first | exact Nat.le_refl _ | (simp; done) | (simp; omega) | omega) | refine Below.trans ?_ (Below.mono (by assumption) (by first | exact Nat.le_refl _ | (simp; done) | (simp; omega) | omega))))⟩)
  | true =>
    have hT : (bothT g ⟨tf,true,(fx,fy)⟩ ⟨th,fh,(hx,hy)⟩ : Int) = (((tf:Int) - th).tmod g + g).tmod g := by rw [hbt.2]; rfl
    clear hbt
    cases fh with
    | false =>
      have hT1 := hT
      clear hT
      (have HT : Hid (mvV (both g ⟨tf,true,(fx,fy)⟩ ⟨th,false,(hx,hy)⟩) = .agg #[.int .i64 ((((tf:Int) - th).tmod g + g).tmod g), .bool (true), .int .i64 ((To g ⟨tf,true,(fx,fy)⟩ (hx,hy)).1), .int .i64 ((To g ⟨tf,true,(fx,fy)⟩ (hx,hy)).2)]) := Lib.hid (by simp only [mvV, both]; rw [hT1]; rfl); clear hT1; go_enter Try.func71, Try.ntmps71; go_wp2_with fail; (refine wp_region_ext_tail 18 (by kernel_rfl) (by kernel_rfl) ?_; simp only [List.take_succ_cons, List.take_zero, List.drop_succ_cons, List.drop_zero]; (repeat (first | ((with_reducible refine ext_step (fun K hK => ?_)); go_simp; first | (refine hK _ ?_; clear hK K) | (apply Exists.intro; refine ⟨fun _ _ => ?_, hK _ ?_⟩; (go_at_call 60; exact extOf (apply_any g hx hy fx fy tf true _ hg (by omega) hb h1 h2)); clear hK K)))); refine wpQuiet_nil ?_; intro E d); go_wp2; refine bodyPost_ret (v := .agg #[.int .i64 ((((tf:Int) - th).tmod g + g).tmod g), .bool (true), .int .i64 ((To g ⟨tf,true,(fx,fy)⟩ (hx,hy)).1), .int .i64 ((To g ⟨tf,true,(fx,fy)⟩ (hx,hy)).2)]) (by simp [results, Try.results71, go_sem]) rfl ⟨by rw [HT.out], (by repeat (first | exact Below.refl _ _ | refine Below.drew ?_ | refine below_drewN ?_ _ | refine Below.alloc ?_ (by first | exact Nat.le_refl _ | (simp; done) | (simp; omega) | omega) _ | refine Below.setCell ?_ (by first | exact Nat.le_refl _ | (simp; done) | (simp; omega) | omega) _ | refine bExtW ?_ (by first | exact Nat.le_refl _ | (simp; done) | (simp; omega) | omega) | refine Below.trans ?_ (Below.mono (by assumption) (by first | exact Nat.le_refl _ | (simp; done) | (simp; omega) | omega))))⟩)
    | true =>
      have hT1 := hT
      clear hT
      (have HT : Hid (mvV (both g ⟨tf,true,(fx,fy)⟩ ⟨th,true,(hx,hy)⟩) = .agg #[.int .i64 ((((tf:Int) - th).tmod g + g).tmod g), .bool (false), .int .i64 ((To g ⟨tf,true,(fx,fy)⟩ (hx,hy)).1), .int .i64 ((To g ⟨tf,true,(fx,fy)⟩ (hx,hy)).2)]) := Lib.hid (by simp only [mvV, both]; rw [hT1]; rfl); clear hT1; go_enter Try.func71, Try.ntmps71; go_wp2_with fail; (refine wp_region_ext_tail 18 (by kernel_rfl) (by kernel_rfl) ?_; simp only [List.take_succ_cons, List.take_zero, List.drop_succ_cons, List.drop_zero]; (repeat (first | ((with_reducible refine ext_step (fun K hK => ?_)); go_simp; first | (refine hK _ ?_; clear hK K) | (apply Exists.intro; refine ⟨fun _ _ => ?_, hK _ ?_⟩; (go_at_call 60; exact extOf (apply_any g hx hy fx fy tf true _ hg (by omega) hb h1 h2)); clear hK K)))); refine wpQuiet_nil ?_; intro E d); go_wp2; refine bodyPost_ret (v := .agg #[.int .i64 ((((tf:Int) - th).tmod g + g).tmod g), .bool (false), .int .i64 ((To g ⟨tf,true,(fx,fy)⟩ (hx,hy)).1), .int .i64 ((To g ⟨tf,true,(fx,fy)⟩ (hx,hy)).2)]) (by simp [results, Try.results71, go_sem]) rfl ⟨by rw [HT.out], (by repeat (first | exact Below.refl _ _ | refine Below.drew ?_ | refine below_drewN ?_ _ | refine Below.alloc ?_ (by first | exact Nat.le_refl _ | (simp; done) | (simp; omega) | omega) _ | refine Below.setCell ?_ (by first | exact Nat.le_refl _ | (simp; done) | (simp; omega) | omega) _ | refine bExtW ?_ (by first | exact Nat.le_refl _ | (simp; done) | (simp; omega) | omega) | refine Below.trans ?_ (Below.mono (by assumption) (by first | exact Nat.le_refl _ | (simp; done) | (simp; omega) | omega))))⟩)
end Go.Proofs.Ytooilennejakhaa
