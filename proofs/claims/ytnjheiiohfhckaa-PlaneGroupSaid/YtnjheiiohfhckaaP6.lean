/- Lemmas and contracts of functions (what each call returns, and that it changes nothing that was there) that the proof of a law of this seat uses; each lemma states its own conditions. -/
import Derived.Test.YtnjheiiohfhckaaP5
namespace Go.Proofs.Ytnjheiiohfhckaa
open Go.RowKit
set_option linter.unusedVariables false
set_option linter.unusedSimpArgs false
open Z (IsGcd Normal nrm Mv To lin mir okT idm both bothT)
theorem pt_ex (p : Z.Pt) : ∃ a b, p = (a, b) := ⟨p.1, p.2, rfl⟩
set_option maxRecDepth 100000 in
set_option maxHeartbeats 8000000 in
theorem rThen_any (g fx fy hx hy : Int) (tf th : Nat) (ff fh : Bool) (w : World) (hg : g = 4 ∨ g = 6) (htf : tf < g.toNat) (hth : th < g.toNat) (nf : nrm g (fx,fy) ≤ 10000000000000000) (nh : nrm g (hx,hy) ≤ 10000000000000000) :
    Calls Try.prog 49 #[.int .i64 (g), .agg #[.int .i64 (tf), .bool (ff), .int .i64 (fx), .int .i64 (fy)], .agg #[.int .i64 (th), .bool (fh), .int .i64 (hx), .int .i64 (hy)]] w fun e w' => e = .returned (mvV (both g ⟨tf,ff,(fx,fy)⟩ ⟨th,fh,(hx,hy)⟩)) ∧ Below w.heap.size w w' := by
  obtain ⟨ox, oy, ho⟩ := pt_ex (To g ⟨tf,ff,(fx,fy)⟩ (hx,hy))
  obtain ⟨cx, cy, hc⟩ := pt_ex (To g ⟨th,fh,(hx,hy)⟩ (1,0))
  obtain ⟨ax, ay, ha⟩ := pt_ex (To g ⟨tf,ff,(fx,fy)⟩ (cx,cy))
  obtain ⟨dx, dy, hd⟩ := pt_ex (To g ⟨th,fh,(hx,hy)⟩ (0,1))
  obtain ⟨bx, bY, hb⟩ := pt_ex (To g ⟨tf,ff,(fx,fy)⟩ (dx,dy))
  have h0 : To g ⟨th,fh,(hx,hy)⟩ (0,0) = (hx,hy) := Z.To_zero g _
  have hB : both g ⟨tf,ff,(fx,fy)⟩ ⟨th,fh,(hx,hy)⟩ = ⟨bothT g ⟨tf,ff,(fx,fy)⟩ ⟨th,fh,(hx,hy)⟩, ff ^^ fh, (ox,oy)⟩ := by simp only [both, ho]
  have hA1 := Z.To_both hg (f := ⟨tf,ff,(fx,fy)⟩) (h := ⟨th,fh,(hx,hy)⟩) hth (1,0)
  have hA2 := Z.To_both hg (f := ⟨tf,ff,(fx,fy)⟩) (h := ⟨th,fh,(hx,hy)⟩) hth (0,1)
  rw [hc, ha, hB] at hA1
  rw [hd, hb, hB] at hA2
  have hT := Z.both_ok hg ⟨tf,ff,(fx,fy)⟩ ⟨th,fh,(hx,hy)⟩
  have hT2 : bothT g ⟨tf,ff,(fx,fy)⟩ ⟨th,fh,(hx,hy)⟩ < g.toNat := hT
  have b1 := parts_of hg (p := (fx,fy)) (by omega)
  have b2 := parts_of hg (p := (hx,hy)) (by omega)
  have u := nrm_u hg
  have u1 : nrm g (1,0) = 1 ∧ nrm g (0,1) = 1 ∧ nrm g (0,0) = 0 := by rcases hg with rfl | rfl <;> decide
  have n1 := Z.nrm_To hg ⟨tf,ff,(fx,fy)⟩ (hx,hy)
  have n2 := Z.nrm_To hg ⟨th,fh,(hx,hy)⟩ (1,0)
  have n3 := Z.nrm_To hg ⟨th,fh,(hx,hy)⟩ (0,1)
  rw [ho] at n1; rw [hc] at n2; rw [hd] at n3
  simp only at n1 n2 n3 b1 b2
  have bo := parts_of hg (p := (ox,oy)) (by omega)
  simp only at bo
  have hgl : g ≤ 6 := by omega
  have N0 : Hid (nrm g (0,0) ≤ 200000000000000000) := Lib.hid (by omega)
  have N1 : Hid (nrm g (hx,hy) ≤ 200000000000000000) := Lib.hid (by omega)
  have N2 : Hid (nrm g (cx,cy) ≤ 200000000000000000) := Lib.hid (by omega)
  have N3 : Hid (nrm g (dx,dy) ≤ 200000000000000000) := Lib.hid (by omega)
  have HU := Lib.hid u
  have H0 := Lib.hid h0; have HO := Lib.hid ho; have HC := Lib.hid hc; have HA := Lib.hid ha; have HD := Lib.hid hd; have HB := Lib.hid hb
  have HA1 := Lib.hid hA1; have HA2 := Lib.hid hA2
  have HV : Hid (mvV (both g ⟨tf,ff,(fx,fy)⟩ ⟨th,fh,(hx,hy)⟩) = .agg #[.int .i64 (bothT g ⟨tf,ff,(fx,fy)⟩ ⟨th,fh,(hx,hy)⟩), .bool (ff ^^ fh), .int .i64 (ox), .int .i64 (oy)]) := Lib.hid (by rw [hB]; rfl)
  clear h0 ho hc ha hd hb hA1 hA2 hB hT u u1 n1 n2 n3 nf nh
  generalize bothT g ⟨tf,ff,(fx,fy)⟩ ⟨th,fh,(hx,hy)⟩ = T at *
  generalize (ff ^^ fh) = FF at *
  go_enter Try.func49, Try.ntmps49
  go_wp2_with fail
  (refine wp_region_ext_tail 23 (by kernel_rfl) (by kernel_rfl) ?_; simp only [List.take_succ_cons, List.take_zero, List.drop_succ_cons, List.drop_zero]; (repeat (first | (refine ext_step (fun K hK => ?_); go_simp; first | (refine hK _ ?_; clear hK K) | (apply Exists.intro; refine ⟨fun _ _ => ?_, hK _ ?_⟩; (first | (go_at_call 46; with_reducible exact extOf (rToV (x := 0) (y := 0) (px := hx) (py := hy) (t := th) (f := fh) hg (by omega) N0.out (by omega) (by omega) H0.out)) | (go_at_call 46; with_reducible exact extOf (rToV (x := hx) (y := hy) (px := ox) (py := oy) (t := tf) (f := ff) hg (by omega) N1.out (by omega) (by omega) HO.out)) | (go_at_call 46; with_reducible exact extOf (rToV (x := 1) (y := 0) (px := cx) (py := cy) (t := th) (f := fh) hg (by omega) HU.out.1 (by omega) (by omega) HC.out)) | (go_at_call 46; with_reducible exact extOf (rToV (x := cx) (y := cy) (px := ax) (py := ay) (t := tf) (f := ff) hg (by omega) N2.out (by omega) (by omega) HA.out)) | (go_at_call 46; with_reducible exact extOf (rToV (x := 0) (y := 1) (px := dx) (py := dy) (t := th) (f := fh) hg (by omega) HU.out.2 (by omega) (by omega) HD.out)) | (go_at_call 46; with_reducible exact extOf (rToV (x := dx) (y := dy) (px := bx) (py := bY) (t := tf) (f := ff) hg (by omega) N3.out (by omega) (by omega) HB.out)) | (go_at_call 53; with_reducible exact extOf (rFitting_any g ox oy ax ay bx bY T FF _ hg hT2 (by omega) (by omega) HA1.out HA2.out))); clear hK K)))); refine wpQuiet_nil ?_; intro E d)
  go_wp2
  refine bodyPost_ret (v := .agg #[.int .i64 (T), .bool (FF), .int .i64 (ox), .int .i64 (oy)]) (by simp [results, Try.results49, go_sem]) rfl ⟨by rw [HV.out], (by repeat (first | exact Below.refl _ _ | refine Below.drew ?_ | refine below_drewN ?_ _ | refine Below.alloc ?_ (by first | exact Nat.le_refl _ | (simp; done) | (simp; omega) | omega) _ | refine Below.setCell ?_ (by first | exact Nat.le_refl _ | (simp; done) | (simp; omega) | omega) _ | refine bExtW ?_ (by first | exact Nat.le_refl _ | (simp; done) | (simp; omega) | omega) | refine Below.trans ?_ (Below.mono (by assumption) (by first | exact Nat.le_refl _ | (simp; done) | (simp; omega) | omega))))⟩
end Go.Proofs.Ytnjheiiohfhckaa
