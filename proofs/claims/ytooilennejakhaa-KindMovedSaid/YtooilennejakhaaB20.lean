/- Lemmas and contracts of functions (what each call returns, and that it changes nothing that was there) that the proof of a law of this seat uses; each lemma states its own conditions. -/
import Derived.Test.YtooilennejakhaaB19
namespace Go.Proofs.Ytooilennejakhaa
open Go.RowKit
set_option linter.unusedVariables false
set_option linter.unusedSimpArgs false
open Z (IsGcd Normal nrm Mv To lin mir okT idm both bothT)
theorem rToV {g x y ox oy px py : Int} {t : Nat} {f : Bool} {w : World} (hg : g = 4 ∨ g = 6) (ht : t ≤ 6) (hb : nrm g (x,y) ≤ 200000000000000000) (h1 : -1000000000000 ≤ ox ∧ ox ≤ 1000000000000) (h2 : -1000000000000 ≤ oy ∧ oy ≤ 1000000000000) (hp : To g ⟨t,f,(ox,oy)⟩ (x,y) = (px,py)) :
    Calls Try.prog 50 #[.int .i64 (g), .agg #[.int .i64 (t), .bool (f), .int .i64 (ox), .int .i64 (oy)], .agg #[.int .i64 (x), .int .i64 (y)]] w fun e w' => e = .returned (.agg #[.int .i64 (px), .int .i64 (py)]) ∧ Below w.heap.size w w' := by
  have h := rTo_any g x y ox oy t f w hg ht hb h1 h2
  rw [hp] at h
  exact h
def fitW (w : World) (ox oy ax ay bx bY : Int) : World := (((w.alloc (.cells #[.int .i64 (ox), .int .i64 (oy)] 33)).alloc (.cells #[.int .i64 (ax), .int .i64 (ay)] 33)).alloc (.cells #[.int .i64 (bx), .int .i64 (bY)] 33)).alloc (.cells #[.int .i64 (0), .bool false, .int .i64 (0), .int .i64 (0)] 39)
theorem nrm_u {g : Int} (hg : Z.G g) : nrm g (1,0) ≤ 200000000000000000 ∧ nrm g (0,1) ≤ 200000000000000000 := by rcases hg with rfl | rfl <;> decide
set_option maxRecDepth 100000 in
set_option maxHeartbeats 8000000 in
theorem rFitting_any (g ox oy ax ay bx bY : Int) (mt : Nat) (mf : Bool) (w : World) (hg : g = 4 ∨ g = 6) (ht : mt < g.toNat) (h1 : -1000000000000 ≤ ox ∧ ox ≤ 1000000000000) (h2 : -1000000000000 ≤ oy ∧ oy ≤ 1000000000000)
    (ha : To g ⟨mt,mf,(ox,oy)⟩ (1,0) = (ax,ay)) (hb : To g ⟨mt,mf,(ox,oy)⟩ (0,1) = (bx,bY)) :
    Calls Try.prog 75 #[.int .i64 (g), .agg #[.int .i64 (ox), .int .i64 (oy)], .agg #[.int .i64 (ax), .int .i64 (ay)], .agg #[.int .i64 (bx), .int .i64 (bY)]] w fun e w' => e = .returned (.agg #[.int .i64 (mt), .bool (mf), .int .i64 (ox), .int .i64 (oy)]) ∧ Below w.heap.size w w' := by
  have HA := Lib.hid ha
  have HB := Lib.hid hb
  have HU := Lib.hid (nrm_u hg)
  clear ha hb
  have hgl : (mt : Int) < g ∧ g ≤ 6 := by omega
  go_enter Try.func75, Try.ntmps75
  go_wp2_with fail
  go_loopw [9] (fun i wr => ∃ (n : Nat) (E : Array Obj) (d : Nat), i = .int .i64 n ∧ n ≤ mt ∧ wr = extW (fitW w ox oy ax ay bx bY) E d) (fun i _ => 10 - (intOf i).toNat)
  case atStart => exact ⟨0, #[], _, rfl, Nat.zero_le _, extW_zero _⟩
  case round =>
    obtain ⟨n, E, d, rfl, hn, rfl⟩ := hrel
    have hlt : (n : Int) < g := by omega
    unfold fitW
    go_wp2_with fail
    go_loopw [10] (fun k wr => ∃ (j : Nat) (E : Array Obj) (d : Nat), k = .int .i64 j ∧ j ≤ 2 ∧ (n = mt → j ≤ mf.toNat) ∧ wr = extW (fitW w ox oy ax ay bx bY) E d) (fun k _ => 2 - (intOf k).toNat)
    case atStart => exact ⟨0, _, _, rfl, by omega, fun _ => Nat.zero_le _, rfl⟩
    case round =>
      obtain ⟨j, E, d, rfl, hj, hjm, rfl⟩ := hrel
      unfold fitW
      have hj3 : j = 0 ∨ j = 1 ∨ j = 2 := by omega
      clear hj
      rcases hj3 with rfl | rfl | rfl
      · obtain ⟨px, py, hp1⟩ : ∃ px py, To g ⟨n, false, (ox,oy)⟩ (1,0) = (px,py) := ⟨_, _, rfl⟩
        obtain ⟨qx, qy, hp2⟩ : ∃ px py, To g ⟨n, false, (ox,oy)⟩ (0,1) = (px,py) := ⟨_, _, rfl⟩
        by_cases hm : n = mt ∧ false = mf
        · obtain ⟨rfl, rfl⟩ := hm
          rw [HA.out] at hp1
          rw [HB.out] at hp2
          simp only [Prod.mk.injEq] at hp1 hp2
          obtain ⟨rfl, rfl⟩ := hp1
          obtain ⟨rfl, rfl⟩ := hp2
          have HP1 := HA
          have HP2 := HB
          clear hjm
          go_wp2_with fail
          (refine wp_region_ext (by kernel_rfl) (by kernel_rfl) ?_; (repeat (first | ((with_reducible refine ext_step (fun K hK => ?_)); go_simp; first | (refine hK _ ?_; clear hK K) | (apply Exists.intro; refine ⟨fun _ _ => ?_, hK _ ?_⟩; (first | (go_at_call 50; with_reducible exact extOf (rToV (x := 1) (y := 0) (px := ax) (py := ay) (t := n) (f := false) hg (by omega) HU.out.1 h1 h2 HP1.out)) | (go_at_call 50; with_reducible exact extOf (rToV (x := 0) (y := 1) (px := bx) (py := bY) (t := n) (f := false) hg (by omega) HU.out.2 h1 h2 HP2.out))); clear hK K)))); refine wpQuiet_nil ?_; intro E d)
          go_wp2
          refine bodyPost_ret (v := .agg #[.int .i64 (n), .bool (false), .int .i64 (ox), .int .i64 (oy)]) (by simp [results, Try.results75, go_sem]) rfl ⟨rfl, (by repeat (first | exact Below.refl _ _ | refine Below.drew ?_ | refine below_drewN ?_ _ | refine Below.alloc ?_ (by first | exact Nat.le_refl _ | (simp; done) | (simp; omega) | omega) _ | refine Below.setCell ?_ (by first | exact Nat.le_refl _ | (simp; done) | (simp; omega) | omega) _ | refine bExtW ?_ (by first | exact Nat.le_refl _ | (simp; done) | (simp; omega) | omega) | refine Below.trans ?_ (Below.mono (by assumption) (by first | exact Nat.le_refl _ | (simp; done) | (simp; omega) | omega))))⟩
        · have hne := fit_ne hg (m := ⟨mt,mf,(ox,oy)⟩) ht (i := n) (k := false) (by omega) hm
          simp only [hp1, hp2, HA.out, HB.out, Prod.mk.injEq] at hne
          have HP1 := Lib.hid hp1
          have HP2 := Lib.hid hp2
          have HJ : Hid (n = mt → 0 + 1 ≤ mf.toNat) := Lib.hid (by intro h; have := hjm h; cases mf <;> simp_all)
          clear hp1 hp2 hjm hm
          by_cases c1 : px = ax
          · subst c1
            by_cases c2 : py = ay
            · subst c2
              by_cases c3 : qx = bx
              · subst c3
                have c4 : ¬ qy = bY := by intro h; exact hne ⟨⟨rfl, rfl⟩, rfl, h⟩
                clear hne
                (go_wp2_with fail; (refine wp_region_ext (by kernel_rfl) (by kernel_rfl) ?_; (repeat (first | ((with_reducible refine ext_step (fun K hK => ?_)); go_simp; first | (refine hK _ ?_; clear hK K) | (apply Exists.intro; refine ⟨fun _ _ => ?_, hK _ ?_⟩; (first | (go_at_call 50; with_reducible exact extOf (rToV (x := 1) (y := 0) (px := _) (py := _) (t := n) (f := false) hg (by omega) HU.out.1 h1 h2 HP1.out)) | (go_at_call 50; with_reducible exact extOf (rToV (x := 0) (y := 1) (px := _) (py := _) (t := n) (f := false) hg (by omega) HU.out.2 h1 h2 HP2.out))); clear hK K)))); refine wpQuiet_nil ?_; intro E d); go_wp2; go_roundw; (case rel => exact ⟨0 + 1, _, _, by go_num, by omega, HJ.out, by simp only [alloc_extW, extW_extW]; rfl⟩); case measure => (simp [intOf]))
              · clear hne
                (go_wp2_with fail; (refine wp_region_ext (by kernel_rfl) (by kernel_rfl) ?_; (repeat (first | ((with_reducible refine ext_step (fun K hK => ?_)); go_simp; first | (refine hK _ ?_; clear hK K) | (apply Exists.intro; refine ⟨fun _ _ => ?_, hK _ ?_⟩; (first | (go_at_call 50; with_reducible exact extOf (rToV (x := 1) (y := 0) (px := _) (py := _) (t := n) (f := false) hg (by omega) HU.out.1 h1 h2 HP1.out)) | (go_at_call 50; with_reducible exact extOf (rToV (x := 0) (y := 1) (px := _) (py := _) (t := n) (f := false) hg (by omega) HU.out.2 h1 h2 HP2.out))); clear hK K)))); refine wpQuiet_nil ?_; intro E d); go_wp2; go_roundw; (case rel => exact ⟨0 + 1, _, _, by go_num, by omega, HJ.out, by simp only [alloc_extW, extW_extW]; rfl⟩); case measure => (simp [intOf]))
            · clear hne
              (go_wp2_with fail; (refine wp_region_ext (by kernel_rfl) (by kernel_rfl) ?_; (repeat (first | ((with_reducible refine ext_step (fun K hK => ?_)); go_simp; first | (refine hK _ ?_; clear hK K) | (apply Exists.intro; refine ⟨fun _ _ => ?_, hK _ ?_⟩; (first | (go_at_call 50; with_reducible exact extOf (rToV (x := 1) (y := 0) (px := _) (py := _) (t := n) (f := false) hg (by omega) HU.out.1 h1 h2 HP1.out)) | (go_at_call 50; with_reducible exact extOf (rToV (x := 0) (y := 1) (px := _) (py := _) (t := n) (f := false) hg (by omega) HU.out.2 h1 h2 HP2.out))); clear hK K)))); refine wpQuiet_nil ?_; intro E d); go_wp2; go_roundw; (case rel => exact ⟨0 + 1, _, _, by go_num, by omega, HJ.out, by simp only [alloc_extW, extW_extW]; rfl⟩); case measure => (simp [intOf]))
          · clear hne
            (go_wp2_with fail; (refine wp_region_ext (by kernel_rfl) (by kernel_rfl) ?_; (repeat (first | ((with_reducible refine ext_step (fun K hK => ?_)); go_simp; first | (refine hK _ ?_; clear hK K) | (apply Exists.intro; refine ⟨fun _ _ => ?_, hK _ ?_⟩; (first | (go_at_call 50; with_reducible exact extOf (rToV (x := 1) (y := 0) (px := _) (py := _) (t := n) (f := false) hg (by omega) HU.out.1 h1 h2 HP1.out)) | (go_at_call 50; with_reducible exact extOf (rToV (x := 0) (y := 1) (px := _) (py := _) (t := n) (f := false) hg (by omega) HU.out.2 h1 h2 HP2.out))); clear hK K)))); refine wpQuiet_nil ?_; intro E d); go_wp2; go_roundw; (case rel => exact ⟨0 + 1, _, _, by go_num, by omega, HJ.out, by simp only [alloc_extW, extW_extW]; rfl⟩); case measure => (simp [intOf]))
      · obtain ⟨px, py, hp1⟩ : ∃ px py, To g ⟨n, true, (ox,oy)⟩ (1,0) = (px,py) := ⟨_, _, rfl⟩
        obtain ⟨qx, qy, hp2⟩ : ∃ px py, To g ⟨n, true, (ox,oy)⟩ (0,1) = (px,py) := ⟨_, _, rfl⟩
        by_cases hm : n = mt ∧ true = mf
        · obtain ⟨rfl, rfl⟩ := hm
          rw [HA.out] at hp1
          rw [HB.out] at hp2
          simp only [Prod.mk.injEq] at hp1 hp2
          obtain ⟨rfl, rfl⟩ := hp1
          obtain ⟨rfl, rfl⟩ := hp2
          have HP1 := HA
          have HP2 := HB
          clear hjm
          go_wp2_with fail
          (refine wp_region_ext (by kernel_rfl) (by kernel_rfl) ?_; (repeat (first | ((with_reducible refine ext_step (fun K hK => ?_)); go_simp; first | (refine hK _ ?_; clear hK K) | (apply Exists.intro; refine ⟨fun _ _ => ?_, hK _ ?_⟩; (first | (go_at_call 50; with_reducible exact extOf (rToV (x := 1) (y := 0) (px := ax) (py := ay) (t := n) (f := true) hg (by omega) HU.out.1 h1 h2 HP1.out)) | (go_at_call 50; with_reducible exact extOf (rToV (x := 0) (y := 1) (px := bx) (py := bY) (t := n) (f := true) hg (by omega) HU.out.2 h1 h2 HP2.out))); clear hK K)))); refine wpQuiet_nil ?_; intro E d)
          go_wp2
          refine bodyPost_ret (v := .agg #[.int .i64 (n), .bool (true), .int .i64 (ox), .int .i64 (oy)]) (by simp [results, Try.results75, go_sem]) rfl ⟨rfl, (by repeat (first | exact Below.refl _ _ | refine Below.drew ?_ | refine below_drewN ?_ _ | refine Below.alloc ?_ (by first | exact Nat.le_refl _ | (simp; done) | (simp; omega) | omega) _ | refine Below.setCell ?_ (by first | exact Nat.le_refl _ | (simp; done) | (simp; omega) | omega) _ | refine bExtW ?_ (by first | exact Nat.le_refl _ | (simp; done) | (simp; omega) | omega) | refine Below.trans ?_ (Below.mono (by assumption) (by first | exact Nat.le_refl _ | (simp; done) | (simp; omega) | omega))))⟩
        · have hne := fit_ne hg (m := ⟨mt,mf,(ox,oy)⟩) ht (i := n) (k := true) (by omega) hm
          simp only [hp1, hp2, HA.out, HB.out, Prod.mk.injEq] at hne
          have HP1 := Lib.hid hp1
          have HP2 := Lib.hid hp2
          have HJ : Hid (n = mt → 1 + 1 ≤ mf.toNat) := Lib.hid (by intro h; have := hjm h; cases mf <;> simp_all)
          clear hp1 hp2 hjm hm
          by_cases c1 : px = ax
          · subst c1
            by_cases c2 : py = ay
            · subst c2
              by_cases c3 : qx = bx
              · subst c3
                have c4 : ¬ qy = bY := by intro h; exact hne ⟨⟨rfl, rfl⟩, rfl, h⟩
                clear hne
                (go_wp2_with fail; (refine wp_region_ext (by kernel_rfl) (by kernel_rfl) ?_; (repeat (first | ((with_reducible refine ext_step (fun K hK => ?_)); go_simp; first | (refine hK _ ?_; clear hK K) | (apply Exists.intro; refine ⟨fun _ _ => ?_, hK _ ?_⟩; (first | (go_at_call 50; with_reducible exact extOf (rToV (x := 1) (y := 0) (px := _) (py := _) (t := n) (f := true) hg (by omega) HU.out.1 h1 h2 HP1.out)) | (go_at_call 50; with_reducible exact extOf (rToV (x := 0) (y := 1) (px := _) (py := _) (t := n) (f := true) hg (by omega) HU.out.2 h1 h2 HP2.out))); clear hK K)))); refine wpQuiet_nil ?_; intro E d); go_wp2; go_roundw; (case rel => exact ⟨1 + 1, _, _, by go_num, by omega, HJ.out, by simp only [alloc_extW, extW_extW]; rfl⟩); case measure => (simp [intOf]))
              · clear hne
                (go_wp2_with fail; (refine wp_region_ext (by kernel_rfl) (by kernel_rfl) ?_; (repeat (first | ((with_reducible refine ext_step (fun K hK => ?_)); go_simp; first | (refine hK _ ?_; clear hK K) | (apply Exists.intro; refine ⟨fun _ _ => ?_, hK _ ?_⟩; (first | (go_at_call 50; with_reducible exact extOf (rToV (x := 1) (y := 0) (px := _) (py := _) (t := n) (f := true) hg (by omega) HU.out.1 h1 h2 HP1.out)) | (go_at_call 50; with_reducible exact extOf (rToV (x := 0) (y := 1) (px := _) (py := _) (t := n) (f := true) hg (by omega) HU.out.2 h1 h2 HP2.out))); clear hK K)))); refine wpQuiet_nil ?_; intro E d); go_wp2; go_roundw; (case rel => exact ⟨1 + 1, _, _, by go_num, by omega, HJ.out, by simp only [alloc_extW, extW_extW]; rfl⟩); case measure => (simp [intOf]))
            · clear hne
              (go_wp2_with fail; (refine wp_region_ext (by kernel_rfl) (by kernel_rfl) ?_; (repeat (first | ((with_reducible refine ext_step (fun K hK => ?_)); go_simp; first | (refine hK _ ?_; clear hK K) | (apply Exists.intro; refine ⟨fun _ _ => ?_, hK _ ?_⟩; (first | (go_at_call 50; with_reducible exact extOf (rToV (x := 1) (y := 0) (px := _) (py := _) (t := n) (f := true) hg (by omega) HU.out.1 h1 h2 HP1.out)) | (go_at_call 50; with_reducible exact extOf (rToV (x := 0) (y := 1) (px := _) (py := _) (t := n) (f := true) hg (by omega) HU.out.2 h1 h2 HP2.out))); clear hK K)))); refine wpQuiet_nil ?_; intro E d); go_wp2; go_roundw; (case rel => exact ⟨1 + 1, _, _, by go_num, by omega, HJ.out, by simp only [alloc_extW, extW_extW]; rfl⟩); case measure => (simp [intOf]))
          · clear hne
            (go_wp2_with fail; (refine wp_region_ext (by kernel_rfl) (by kernel_rfl) ?_; (repeat (first | ((with_reducible refine ext_step (fun K hK => ?_)); go_simp; first | (refine hK _ ?_; clear hK K) | (apply Exists.intro; refine ⟨fun _ _ => ?_, hK _ ?_⟩; (first | (go_at_call 50; with_reducible exact extOf (rToV (x := 1) (y := 0) (px := _) (py := _) (t := n) (f := true) hg (by omega) HU.out.1 h1 h2 HP1.out)) | (go_at_call 50; with_reducible exact extOf (rToV (x := 0) (y := 1) (px := _) (py := _) (t := n) (f := true) hg (by omega) HU.out.2 h1 h2 HP2.out))); clear hK K)))); refine wpQuiet_nil ?_; intro E d); go_wp2; go_roundw; (case rel => exact ⟨1 + 1, _, _, by go_num, by omega, HJ.out, by simp only [alloc_extW, extW_extW]; rfl⟩); case measure => (simp [intOf]))
      · have hne : n ≠ mt := by intro h; have := hjm h; cases mf <;> simp at this
        clear hjm
        go_wp2
        go_roundw
        case rel => exact ⟨n + 1, _, _, by go_num, by omega, rfl⟩
        case measure => simp [intOf]; omega
end Go.Proofs.Ytooilennejakhaa

namespace Go.Proofs.Ytooilennejakhaa
open Go.RowKit
set_option linter.unusedVariables false
set_option linter.unusedSimpArgs false
open Z (IsGcd Normal nrm Mv To lin mir okT idm both bothT)
theorem pt_ex (p : Z.Pt) : ∃ a b, p = (a, b) := ⟨p.1, p.2, rfl⟩
set_option maxRecDepth 100000 in
set_option maxHeartbeats 8000000 in
theorem rThen_any (g fx fy hx hy : Int) (tf th : Nat) (ff fh : Bool) (w : World) (hg : g = 4 ∨ g = 6) (htf : tf < g.toNat) (hth : th < g.toNat) (nf : nrm g (fx,fy) ≤ 10000000000000000) (nh : nrm g (hx,hy) ≤ 10000000000000000) :
    Calls Try.prog 61 #[.int .i64 (g), .agg #[.int .i64 (tf), .bool (ff), .int .i64 (fx), .int .i64 (fy)], .agg #[.int .i64 (th), .bool (fh), .int .i64 (hx), .int .i64 (hy)]] w fun e w' => e = .returned (mvV (both g ⟨tf,ff,(fx,fy)⟩ ⟨th,fh,(hx,hy)⟩)) ∧ Below w.heap.size w w' := by
  obtain ⟨ox, oy, ho⟩ := pt_ex (To g ⟨tf,ff,(fx,fy)⟩ (hx,hy))
  obtain ⟨cx, cy, hc⟩ := pt_ex (To g ⟨th,fh,(hx,hy)⟩ (1,0))
  obtain ⟨ax, ay, ha⟩ := pt_ex (To g ⟨tf,ff,(fx,fy)⟩ (cx,cy))
  obtain ⟨dx, dy, hd⟩ := pt_ex (To g ⟨th,fh,(hx,hy)⟩ (0,1))
  obtain ⟨bx, bY, hb⟩ := pt_ex (To g ⟨tf,ff,(fx,fy)⟩ (dx,dy))
  have h0 : To g ⟨th,fh,(hx,hy)⟩ (0,0) = (hx,hy) := Z.To_zero g _
  have hB : both g ⟨tf,ff,(fx,fy)⟩ ⟨th,fh,(hx,hy)⟩ = ⟨bothT g ⟨tf,ff,(fx,fy)⟩ ⟨th,fh,(hx,hy)⟩, ff ^^ fh, (ox,oy)⟩ := by simp only [both, ho]
  have hA1 := Z.To_both hg (f := ⟨tf,ff,(fx,fy)⟩) (h := ⟨th,fh,(hx,hy)⟩) hth (1,0)
  have hA2 := Z.To_both hg (f := ⟨tf,ff,(fx,fy)⟩) (h := ⟨th,fh,(hx,hy)⟩) hth (0,1)
  rw [hc, ha, hB] at hA1
  rw [hd, hb, hB] at hA2
  have hT := Z.both_ok hg ⟨tf,ff,(fx,fy)⟩ ⟨th,fh,(hx,hy)⟩
  have hT2 : bothT g ⟨tf,ff,(fx,fy)⟩ ⟨th,fh,(hx,hy)⟩ < g.toNat := hT
  have b1 := parts_of hg (p := (fx,fy)) (by omega)
  have b2 := parts_of hg (p := (hx,hy)) (by omega)
  have u := nrm_u hg
  have u1 : nrm g (1,0) = 1 ∧ nrm g (0,1) = 1 ∧ nrm g (0,0) = 0 := by rcases hg with rfl | rfl <;> decide
  have n1 := Z.nrm_To hg ⟨tf,ff,(fx,fy)⟩ (hx,hy)
  have n2 := Z.nrm_To hg ⟨th,fh,(hx,hy)⟩ (1,0)
  have n3 := Z.nrm_To hg ⟨th,fh,(hx,hy)⟩ (0,1)
  rw [ho] at n1; rw [hc] at n2; rw [hd] at n3
  simp only at n1 n2 n3 b1 b2
  have bo := parts_of hg (p := (ox,oy)) (by omega)
  simp only at bo
  have hgl : g ≤ 6 := by omega
  have N0 : Hid (nrm g (0,0) ≤ 200000000000000000) := Lib.hid (by omega)
  have N1 : Hid (nrm g (hx,hy) ≤ 200000000000000000) := Lib.hid (by omega)
  have N2 : Hid (nrm g (cx,cy) ≤ 200000000000000000) := Lib.hid (by omega)
  have N3 : Hid (nrm g (dx,dy) ≤ 200000000000000000) := Lib.hid (by omega)
  have HU := Lib.hid u
  have H0 := Lib.hid h0; have HO := Lib.hid ho; have HC := Lib.hid hc; have HA := Lib.hid ha; have HD := Lib.hid hd; have HB := Lib.hid hb
  have HA1 := Lib.hid hA1; have HA2 := Lib.hid hA2
  have HV : Hid (mvV (both g ⟨tf,ff,(fx,fy)⟩ ⟨th,fh,(hx,hy)⟩) = .agg #[.int .i64 (bothT g ⟨tf,ff,(fx,fy)⟩ ⟨th,fh,(hx,hy)⟩), .bool (ff ^^ fh), .int .i64 (ox), .int .i64 (oy)]) := Lib.hid (by rw [hB]; rfl)
  clear h0 ho hc ha hd hb hA1 hA2 hB hT u u1 n1 n2 n3 nf nh
  generalize bothT g ⟨tf,ff,(fx,fy)⟩ ⟨th,fh,(hx,hy)⟩ = T at *
  generalize (ff ^^ fh) = FF at *
  go_enter Try.func61, Try.ntmps61
  go_wp2_with fail
  (refine wp_region_ext_tail 23 (by kernel_rfl) (by kernel_rfl) ?_; simp only [List.take_succ_cons, List.take_zero, List.drop_succ_cons, List.drop_zero]; (repeat (first | ((with_reducible refine ext_step (fun K hK => ?_)); go_simp; first | (refine hK _ ?_; clear hK K) | (apply Exists.intro; refine ⟨fun _ _ => ?_, hK _ ?_⟩; (first | (go_at_call 50; with_reducible exact extOf (rToV (x := 0) (y := 0) (px := hx) (py := hy) (t := th) (f := fh) hg (by omega) N0.out (by omega) (by omega) H0.out)) | (go_at_call 50; with_reducible exact extOf (rToV (x := hx) (y := hy) (px := ox) (py := oy) (t := tf) (f := ff) hg (by omega) N1.out (by omega) (by omega) HO.out)) | (go_at_call 50; with_reducible exact extOf (rToV (x := 1) (y := 0) (px := cx) (py := cy) (t := th) (f := fh) hg (by omega) HU.out.1 (by omega) (by omega) HC.out)) | (go_at_call 50; with_reducible exact extOf (rToV (x := cx) (y := cy) (px := ax) (py := ay) (t := tf) (f := ff) hg (by omega) N2.out (by omega) (by omega) HA.out)) | (go_at_call 50; with_reducible exact extOf (rToV (x := 0) (y := 1) (px := dx) (py := dy) (t := th) (f := fh) hg (by omega) HU.out.2 (by omega) (by omega) HD.out)) | (go_at_call 50; with_reducible exact extOf (rToV (x := dx) (y := dy) (px := bx) (py := bY) (t := tf) (f := ff) hg (by omega) N3.out (by omega) (by omega) HB.out)) | (go_at_call 75; with_reducible exact extOf (rFitting_any g ox oy ax ay bx bY T FF _ hg hT2 (by omega) (by omega) HA1.out HA2.out))); clear hK K)))); refine wpQuiet_nil ?_; intro E d)
  go_wp2
  refine bodyPost_ret (v := .agg #[.int .i64 (T), .bool (FF), .int .i64 (ox), .int .i64 (oy)]) (by simp [results, Try.results61, go_sem]) rfl ⟨by rw [HV.out], (by repeat (first | exact Below.refl _ _ | refine Below.drew ?_ | refine below_drewN ?_ _ | refine Below.alloc ?_ (by first | exact Nat.le_refl _ | (simp; done) | (simp; omega) | omega) _ | refine Below.setCell ?_ (by first | exact Nat.le_refl _ | (simp; done) | (simp; omega) | omega) _ | refine bExtW ?_ (by first | exact Nat.le_refl _ | (simp; done) | (simp; omega) | omega) | refine Below.trans ?_ (Below.mono (by assumption) (by first | exact Nat.le_refl _ | (simp; done) | (simp; omega) | omega))))⟩
end Go.Proofs.Ytooilennejakhaa

namespace Go.Proofs.Ytooilennejakhaa
open Go.RowKit
set_option linter.unusedVariables false
set_option linter.unusedSimpArgs false
open Z (IsGcd Normal nrm Mv To lin mir okT idm both bothT)
/-- What Compose answers. -/
def coV (g tf : Int) (ff : Bool) (fx fy th : Int) (fh : Bool) (hx hy : Int) : Value :=
  if wE g tf fx fy ≠ 0 then .tuple #[.agg #[.int .i64 (0), .bool (false), .int .i64 (0), .int .i64 (0)], .int .i64 (wE g tf fx fy)] else if wE g th hx hy ≠ 0 then .tuple #[.agg #[.int .i64 (0), .bool (false), .int .i64 (0), .int .i64 (0)], .int .i64 (wE g th hx hy)]
  else if smB (both g ⟨tf.toNat,ff,(fx,fy)⟩ ⟨th.toNat,fh,(hx,hy)⟩).o.1 (both g ⟨tf.toNat,ff,(fx,fy)⟩ ⟨th.toNat,fh,(hx,hy)⟩).o.2 = false then .tuple #[.agg #[.int .i64 (0), .bool (false), .int .i64 (0), .int .i64 (0)], .int .i64 (4)]
  else .tuple #[mvV (both g ⟨tf.toNat,ff,(fx,fy)⟩ ⟨th.toNat,fh,(hx,hy)⟩), .int .i64 (0)]
theorem mvV_ex (m : Mv) : ∃ t f x y, m = ⟨t, f, (x, y)⟩ := ⟨m.t, m.f, m.o.1, m.o.2, rfl⟩
end Go.Proofs.Ytooilennejakhaa
