/- Lemmas and contracts of functions (what each call returns, and that it changes nothing that was there) that the proof of a law of this seat uses; each lemma states its own conditions. -/
import Derived.Test.YtooilennejakhaaB13
import Derived.Test.YtooilennejakhaaB05
import Derived.Deep.DeepCutAuto
namespace Go.Proofs.Ytooilennejakhaa
open Go.RowKit
set_option linter.unusedVariables false
set_option linter.unusedSimpArgs false
open Z (IsGcd Normal nrm Mv To lin mir okT idm both bothT)
theorem pt_ex (p : Z.Pt) : ∃ a b, p = (a, b) := ⟨p.1, p.2, rfl⟩
set_option maxRecDepth 100000 in
set_option maxHeartbeats 8000000 in
theorem rThen_any (g fx fy hx hy : Int) (tf th : Nat) (ff fh : Bool) (w : World) (hg : g = 4 ∨ g = 6) (htf : tf < g.toNat) (hth : th < g.toNat) (nf : nrm g (fx,fy) ≤ 10000000000000000) (nh : nrm g (hx,hy) ≤ 10000000000000000) :
    Calls Try.prog 61 #[.int .i64 (g), .agg #[.int .i64 (tf), .bool (ff), .int .i64 (fx), .int .i64 (fy)], .agg #[.int .i64 (th), .bool (fh), .int .i64 (hx), .int .i64 (hy)]] w fun e w' => e = .returned (mvV (both g ⟨tf,ff,(fx,fy)⟩ ⟨th,fh,(hx,hy)⟩)) ∧ Below w.heap.size w w' := by
  obtain ⟨ox, oy, ho⟩ := pt_ex (To g ⟨tf,ff,(fx,fy)⟩ (hx,hy))
  obtain ⟨cx, cy, hc⟩ := pt_ex (To g ⟨th,fh,(hx,hy)⟩ (1,0))
  obtain ⟨ax, ay, ha⟩ := pt_ex (To g ⟨tf,ff,(fx,fy)⟩ (cx,cy))
  obtain ⟨dx, dy, hd⟩ := pt_ex (To g ⟨th,fh,(hx,hy)⟩ (0,1))
  obtain ⟨bx, bY, hb⟩ := pt_ex (To g ⟨tf,ff,(fx,fy)⟩ (dx,dy))
  have h0 : To g ⟨th,fh,(hx,hy)⟩ (0,0) = (hx,hy) := Z.To_zero g _
  have hB : both g ⟨tf,ff,(fx,fy)⟩ ⟨th,fh,(hx,hy)⟩ = ⟨bothT g ⟨tf,ff,(fx,fy)⟩ ⟨th,fh,(hx,hy)⟩, ff ^^ fh, (ox,oy)⟩ := by simp only [both, ho]
  have hA1 := Z.To_both hg (f := ⟨tf,ff,(fx,fy)⟩) (h := ⟨th,fh,(hx,hy)⟩) hth (1,0)
  have hA2 := Z.To_both hg (f := ⟨tf,ff,(fx,fy)⟩) (h := ⟨th,fh,(hx,hy)⟩) hth (0,1)
  rw [hc, ha, hB] at hA1
  rw [hd, hb, hB] at hA2
  have hT := Z.both_ok hg ⟨tf,ff,(fx,fy)⟩ ⟨th,fh,(hx,hy)⟩
  have hT2 : bothT g ⟨tf,ff,(fx,fy)⟩ ⟨th,fh,(hx,hy)⟩ < g.toNat := hT
  have b1 := parts_of hg (p := (fx,fy)) (by omega)
  have b2 := parts_of hg (p := (hx,hy)) (by omega)
  have u := nrm_u hg
  have u1 : nrm g (1,0) = 1 ∧ nrm g (0,1) = 1 ∧ nrm g (0,0) = 0 := by rcases hg with rfl | rfl <;> decide
  have n1 := Z.nrm_To hg ⟨tf,ff,(fx,fy)⟩ (hx,hy)
  have n2 := Z.nrm_To hg ⟨th,fh,(hx,hy)⟩ (1,0)
  have n3 := Z.nrm_To hg ⟨th,fh,(hx,hy)⟩ (0,1)
  rw [ho] at n1; rw [hc] at n2; rw [hd] at n3
  simp only at n1 n2 n3 b1 b2
  have bo := parts_of hg (p := (ox,oy)) (by omega)
  simp only at bo
  have hgl : g ≤ 6 := by omega
  have N0 : Hid (nrm g (0,0) ≤ 200000000000000000) := Lib.hid (by omega)
  have N1 : Hid (nrm g (hx,hy) ≤ 200000000000000000) := Lib.hid (by omega)
  have N2 : Hid (nrm g (cx,cy) ≤ 200000000000000000) := Lib.hid (by omega)
  have N3 : Hid (nrm g (dx,dy) ≤ 200000000000000000) := Lib.hid (by omega)
  have HU := Lib.hid u
  have H0 := Lib.hid h0; have HO := Lib.hid ho; have HC := Lib.hid hc; have HA := Lib.hid ha; have HD := Lib.hid hd; have HB := Lib.hid hb
  have HA1 := Lib.hid hA1; have HA2 := Lib.hid hA2
  have HV : Hid (mvV (both g ⟨tf,ff,(fx,fy)⟩ ⟨th,fh,(hx,hy)⟩) = .agg #[.int .i64 (bothT g ⟨tf,ff,(fx,fy)⟩ ⟨th,fh,(hx,hy)⟩), .bool (ff ^^ fh), .int .i64 (ox), .int .i64 (oy)]) := Lib.hid (by rw [hB]; rfl)
  clear h0 ho hc ha hd hb hA1 hA2 hB hT u u1 n1 n2 n3 nf nh
  generalize bothT g ⟨tf,ff,(fx,fy)⟩ ⟨th,fh,(hx,hy)⟩ = T at *
  generalize (ff ^^ fh) = FF at *
  go_enter Try.func61, Try.ntmps61
  go_wp2_with fail
  (refine wp_region_ext_tail 23 (by kernel_rfl) (by kernel_rfl) ?_; simp only [List.take_succ_cons, List.take_zero, List.drop_succ_cons, List.drop_zero]; (repeat (first | ((with_reducible refine ext_step (fun K hK => ?_)); go_simp; first | (refine hK _ ?_; clear hK K) | (apply Exists.intro; refine ⟨fun _ _ => ?_, hK _ ?_⟩; (first | (go_at_call 50; with_reducible exact extOf (rToV (x := 0) (y := 0) (px := hx) (py := hy) (t := th) (f := fh) hg (by omega) N0.out (by omega) (by omega) H0.out)) | (go_at_call 50; with_reducible exact extOf (rToV (x := hx) (y := hy) (px := ox) (py := oy) (t := tf) (f := ff) hg (by omega) N1.out (by omega) (by omega) HO.out)) | (go_at_call 50; with_reducible exact extOf (rToV (x := 1) (y := 0) (px := cx) (py := cy) (t := th) (f := fh) hg (by omega) HU.out.1 (by omega) (by omega) HC.out)) | (go_at_call 50; with_reducible exact extOf (rToV (x := cx) (y := cy) (px := ax) (py := ay) (t := tf) (f := ff) hg (by omega) N2.out (by omega) (by omega) HA.out)) | (go_at_call 50; with_reducible exact extOf (rToV (x := 0) (y := 1) (px := dx) (py := dy) (t := th) (f := fh) hg (by omega) HU.out.2 (by omega) (by omega) HD.out)) | (go_at_call 50; with_reducible exact extOf (rToV (x := dx) (y := dy) (px := bx) (py := bY) (t := tf) (f := ff) hg (by omega) N3.out (by omega) (by omega) HB.out)) | (go_at_call 75; with_reducible exact extOf (rFitting_any g ox oy ax ay bx bY T FF _ hg hT2 (by omega) (by omega) HA1.out HA2.out))); clear hK K)))); refine wpQuiet_nil ?_; intro E d)
  go_wp2
  refine bodyPost_ret (v := .agg #[.int .i64 (T), .bool (FF), .int .i64 (ox), .int .i64 (oy)]) (by simp [results, Try.results61, go_sem]) rfl ⟨by rw [HV.out], (by repeat (first | exact Below.refl _ _ | refine Below.drew ?_ | refine below_drewN ?_ _ | refine Below.alloc ?_ (by first | exact Nat.le_refl _ | (simp; done) | (simp; omega) | omega) _ | refine Below.setCell ?_ (by first | exact Nat.le_refl _ | (simp; done) | (simp; omega) | omega) _ | refine bExtW ?_ (by first | exact Nat.le_refl _ | (simp; done) | (simp; omega) | omega) | refine Below.trans ?_ (Below.mono (by assumption) (by first | exact Nat.le_refl _ | (simp; done) | (simp; omega) | omega))))⟩
end Go.Proofs.Ytooilennejakhaa

namespace Go.Proofs.Ytooilennejakhaa
open Go.RowKit
set_option linter.unusedVariables false
set_option linter.unusedSimpArgs false
open Z (IsGcd Normal nrm Mv To lin mir okT idm both bothT)
/-- What Compose answers. -/
def coV (g tf : Int) (ff : Bool) (fx fy th : Int) (fh : Bool) (hx hy : Int) : Value :=
  if wE g tf fx fy ≠ 0 then .tuple #[.agg #[.int .i64 (0), .bool (false), .int .i64 (0), .int .i64 (0)], .int .i64 (wE g tf fx fy)] else if wE g th hx hy ≠ 0 then .tuple #[.agg #[.int .i64 (0), .bool (false), .int .i64 (0), .int .i64 (0)], .int .i64 (wE g th hx hy)]
  else if smB (both g ⟨tf.toNat,ff,(fx,fy)⟩ ⟨th.toNat,fh,(hx,hy)⟩).o.1 (both g ⟨tf.toNat,ff,(fx,fy)⟩ ⟨th.toNat,fh,(hx,hy)⟩).o.2 = false then .tuple #[.agg #[.int .i64 (0), .bool (false), .int .i64 (0), .int .i64 (0)], .int .i64 (4)]
  else .tuple #[mvV (both g ⟨tf.toNat,ff,(fx,fy)⟩ ⟨th.toNat,fh,(hx,hy)⟩), .int .i64 (0)]
theorem mvV_ex (m : Mv) : ∃ t f x y, m = ⟨t, f, (x, y)⟩ := ⟨m.t, m.f, m.o.1, m.o.2, rfl⟩
end Go.Proofs.Ytooilennejakhaa

namespace Go.Proofs.Ytooilennejakhaa
open Go.RowKit
set_option linter.unusedVariables false
set_option linter.unusedSimpArgs false
open Z (IsGcd Normal nrm Mv To lin mir okT idm both bothT)
def cmpW (w : World) (tf : Int) (ff : Bool) (fx fy th : Int) (fh : Bool) (hx hy : Int) : World :=
  (((w.alloc (.cells #[.int .i64 (tf), .bool ff, .int .i64 (fx), .int .i64 (fy)] 39)).alloc (.cells #[.int .i64 (th), .bool fh, .int .i64 (hx), .int .i64 (hy)] 39)).alloc (.cells #[.int .i64 (0), .bool false, .int .i64 (0), .int .i64 (0)] 39)).alloc (.cells #[.int .i64 (tf), .bool ff, .int .i64 (fx), .int .i64 (fy), .int .i64 (th), .bool fh, .int .i64 (hx), .int .i64 (hy)] 39)
set_option maxRecDepth 100000 in
set_option maxHeartbeats 8000000 in
theorem Compose_any (g tf fx fy th hx hy : Int) (ff fh : Bool) (w : World) (hw : (-9223372036854775808 ≤ g ∧ g ≤ 9223372036854775807)) (ht : (-9223372036854775808 ≤ tf ∧ tf ≤ 9223372036854775807)) (h0 : (-9223372036854775808 ≤ fx ∧ fx ≤ 9223372036854775807)) (h1 : (-9223372036854775808 ≤ fy ∧ fy ≤ 9223372036854775807)) (ht2 : (-9223372036854775808 ≤ th ∧ th ≤ 9223372036854775807)) (h2 : (-9223372036854775808 ≤ hx ∧ hx ≤ 9223372036854775807)) (h3 : (-9223372036854775808 ≤ hy ∧ hy ≤ 9223372036854775807)) :
    Calls Try.prog 57 #[.int .i64 (g), .agg #[.int .i64 (tf), .bool (ff), .int .i64 (fx), .int .i64 (fy)], .agg #[.int .i64 (th), .bool (fh), .int .i64 (hx), .int .i64 (hy)]] w fun e w' => e = .returned (coV g tf ff fx fy th fh hx hy) ∧ Below w.heap.size w w' := by
  have HWF := Lib.hid (Wrong_any g tf fx fy ff)
  have HWH := Lib.hid (Wrong_any g th hx hy fh)
  go_enter Try.func57, Try.ntmps57
  go_wp2_with fail
  go_loopw [16] (fun i wr => ∃ (n : Nat) (E : Array Obj) (d : Nat), i = .int .i64 n ∧ n ≤ 2 ∧ (1 ≤ n → wE g tf fx fy = 0) ∧ (2 ≤ n → wE g th hx hy = 0) ∧ wr = extW (cmpW w tf ff fx fy th fh hx hy) E d) (fun i _ => 2 - (intOf i).toNat)
  case atStart => exact ⟨0, #[], _, rfl, by omega, by omega, by omega, extW_zero _⟩
  case round =>
    obtain ⟨n, E, d, rfl, hn, q1, q2, rfl⟩ := hrel
    unfold cmpW
    have hn3 : n = 0 ∨ n = 1 ∨ n = 2 := by omega
    clear hn
    rcases hn3 with rfl | rfl | rfl
    · clear q1 q2
      by_cases he : wE g tf fx fy = 0
      · have HE := Lib.hid he
        clear he
        (go_wp2_with fail; refine (HWF.out _ hw ht h0 h1).mono ?_; rintro r w1 ⟨rfl, hb⟩; obtain ⟨E, d, rfl⟩ := bExt hb; clear hb)
        rw [HE.out]
        go_wp2
        go_roundw
        case rel => exact ⟨1, _, _, by go_num, by omega, fun _ => HE.out, by omega, by simp only [alloc_extW, extW_extW]; rfl⟩
        case measure => simp [intOf]
      · have hb : (wE g tf fx fy != 0) = true := by simpa using he
        have HT : Hid (coV g tf ff fx fy th fh hx hy = .tuple #[.agg #[.int .i64 (0), .bool (false), .int .i64 (0), .int .i64 (0)], .int .i64 (wE g tf fx fy)]) := Lib.hid (by simp [coV, he])
        clear he
        (go_wp2_with fail; refine (HWF.out _ hw ht h0 h1).mono ?_; rintro r w1 ⟨rfl, hb⟩; obtain ⟨E, d, rfl⟩ := bExt hb; clear hb)
        go_wp2
        refine bodyPost_ret (v := .tuple #[.agg #[.int .i64 (0), .bool (false), .int .i64 (0), .int .i64 (0)], .int .i64 (wE g tf fx fy)]) (by simp [results, Try.results57, go_sem]) rfl ⟨by rw [HT.out], (by repeat (first | exact Below.refl _ _ | refine Below.drew ?_ | refine below_drewN ?_ _ | refine Below.alloc ?_ (by first | exact Nat.le_refl _ | (simp; done) | (simp; omega) | omega) _ | refine Below.setCell ?_ (by first | exact Nat.le_refl _ | (simp; done) | (simp; omega) | omega) _ | refine bExtW ?_ (by first | exact Nat.le_refl _ | (simp; done) | (simp; omega) | omega) | refine Below.trans ?_ (Below.mono (by assumption) (by first | exact Nat.le_refl _ | (simp; done) | (simp; omega) | omega))))⟩
    · have HQ1 := Lib.hid (q1 (by omega))
      clear q1 q2
      by_cases he : wE g th hx hy = 0
      · have HE := Lib.hid he
        clear he
        (go_wp2_with fail; refine (HWH.out _ hw ht2 h2 h3).mono ?_; rintro r w1 ⟨rfl, hb⟩; obtain ⟨E, d, rfl⟩ := bExt hb; clear hb)
        rw [HE.out]
        go_wp2
        go_roundw
        case rel => exact ⟨2, _, _, by go_num, by omega, fun _ => HQ1.out, fun _ => HE.out, by simp only [alloc_extW, extW_extW]; rfl⟩
        case measure => simp [intOf]
      · have hb : (wE g th hx hy != 0) = true := by simpa using he
        have HT : Hid (coV g tf ff fx fy th fh hx hy = .tuple #[.agg #[.int .i64 (0), .bool (false), .int .i64 (0), .int .i64 (0)], .int .i64 (wE g th hx hy)]) := Lib.hid (by simp [coV, he, HQ1.out])
        clear he
        (go_wp2_with fail; refine (HWH.out _ hw ht2 h2 h3).mono ?_; rintro r w1 ⟨rfl, hb⟩; obtain ⟨E, d, rfl⟩ := bExt hb; clear hb)
        go_wp2
        refine bodyPost_ret (v := .tuple #[.agg #[.int .i64 (0), .bool (false), .int .i64 (0), .int .i64 (0)], .int .i64 (wE g th hx hy)]) (by simp [results, Try.results57, go_sem]) rfl ⟨by rw [HT.out], (by repeat (first | exact Below.refl _ _ | refine Below.drew ?_ | refine below_drewN ?_ _ | refine Below.alloc ?_ (by first | exact Nat.le_refl _ | (simp; done) | (simp; omega) | omega) _ | refine Below.setCell ?_ (by first | exact Nat.le_refl _ | (simp; done) | (simp; omega) | omega) _ | refine bExtW ?_ (by first | exact Nat.le_refl _ | (simp; done) | (simp; omega) | omega) | refine Below.trans ?_ (Below.mono (by assumption) (by first | exact Nat.le_refl _ | (simp; done) | (simp; omega) | omega))))⟩
    · have he := q1 (by omega)
      have he2 := q2 (by omega)
      clear q1 q2
      obtain ⟨hg, hs, n, rfl, hn⟩ := wE_zero he
      obtain ⟨_, hs2, k, rfl, hk⟩ := wE_zero he2
      have nf := nrm_sm hg hs
      have nh := nrm_sm hg hs2
      have hTT := both_any g fx fy hx hy n k ff fh
      have nb := Z.nrm_To hg ⟨n,ff,(fx,fy)⟩ (hx,hy)
      have bo := parts_of hg (p := To g ⟨n,ff,(fx,fy)⟩ (hx,hy)) (by simp only at nb; omega)
      have hbo : (both g ⟨n,ff,(fx,fy)⟩ ⟨k,fh,(hx,hy)⟩).o = To g ⟨n,ff,(fx,fy)⟩ (hx,hy) := rfl
      have hV : coV g n ff fx fy k fh hx hy = if smB (both g ⟨n,ff,(fx,fy)⟩ ⟨k,fh,(hx,hy)⟩).o.1 (both g ⟨n,ff,(fx,fy)⟩ ⟨k,fh,(hx,hy)⟩).o.2 = false then .tuple #[.agg #[.int .i64 (0), .bool (false), .int .i64 (0), .int .i64 (0)], .int .i64 (4)] else .tuple #[mvV (both g ⟨n,ff,(fx,fy)⟩ ⟨k,fh,(hx,hy)⟩), .int .i64 (0)] := by simp [coV, he, he2]
      rw [← hbo] at bo
      clear hbo nb
      obtain ⟨T, FF, X, Y, hm⟩ := mvV_ex (both g ⟨n,ff,(fx,fy)⟩ ⟨k,fh,(hx,hy)⟩)
      rw [hm] at hV bo hTT
      simp only [mvV] at hV hTT
      simp only at bo
      have HTT := Lib.hid hTT
      clear hTT he he2 hm HWF HWH
      have HW := Lib.hid (one_wf (x := X) (y := Y) (by omega) (by omega))
      cases hsm : smB X Y with
      | false =>
        have HT : Hid (coV g n ff fx fy k fh hx hy = .tuple #[.agg #[.int .i64 (0), .bool (false), .int .i64 (0), .int .i64 (0)], .int .i64 (4)]) := Lib.hid (by rw [hV, hsm]; rfl)
        have HS : Hid (smL [(X,Y)] = false) := Lib.hid (by simp [smL, hsm])
        clear hV hsm
        (go_wp2_with fail; refine (HTT.out _ hg hn hk (by omega) (by omega) (by omega)).mono ?_; rintro r w1 ⟨rfl, hb⟩; obtain ⟨E, d, rfl⟩ := bExt hb; clear hb)
        go_wp2_with fail
        refine (small_any _ 1 1 [(X,Y)] _ rfl (by simp) (one_cells (by simp [go_sem]) (by simp [go_sem])) HW.out (by omega)).mono ?_
        rintro e w1 ⟨rfl, hb1⟩
        rw [HS.out]
        obtain ⟨E1, d1, rfl⟩ := bExt hb1; clear hb1
        go_wp2
        refine bodyPost_ret (v := .tuple #[.agg #[.int .i64 (0), .bool (false), .int .i64 (0), .int .i64 (0)], .int .i64 (4)]) (by simp [results, Try.results57, go_sem]) rfl ⟨by rw [HT.out], (by repeat (first | exact Below.refl _ _ | refine Below.drew ?_ | refine below_drewN ?_ _ | refine Below.alloc ?_ (by first | exact Nat.le_refl _ | (simp; done) | (simp; omega) | omega) _ | refine Below.setCell ?_ (by first | exact Nat.le_refl _ | (simp; done) | (simp; omega) | omega) _ | refine bExtW ?_ (by first | exact Nat.le_refl _ | (simp; done) | (simp; omega) | omega) | refine Below.trans ?_ (Below.mono (by assumption) (by first | exact Nat.le_refl _ | (simp; done) | (simp; omega) | omega))))⟩
      | true =>
        have HT : Hid (coV g n ff fx fy k fh hx hy = .tuple #[.agg #[.int .i64 (T), .bool (FF), .int .i64 (X), .int .i64 (Y)], .int .i64 (0)]) := Lib.hid (by rw [hV, hsm]; rfl)
        have HS : Hid (smL [(X,Y)] = true) := Lib.hid (by simp [smL, hsm])
        clear hV hsm
        (go_wp2_with fail; refine (HTT.out _ hg hn hk (by omega) (by omega) (by omega)).mono ?_; rintro r w1 ⟨rfl, hb⟩; obtain ⟨E, d, rfl⟩ := bExt hb; clear hb)
        go_wp2_with fail
        refine (small_any _ 1 1 [(X,Y)] _ rfl (by simp) (one_cells (by simp [go_sem]) (by simp [go_sem])) HW.out (by omega)).mono ?_
        rintro e w1 ⟨rfl, hb1⟩
        rw [HS.out]
        obtain ⟨E1, d1, rfl⟩ := bExt hb1; clear hb1
        go_wp2
        refine bodyPost_ret (v := .tuple #[.agg #[.int .i64 (T), .bool (FF), .int .i64 (X), .int .i64 (Y)], .int .i64 (0)]) (by simp [results, Try.results57, go_sem]) rfl ⟨by rw [HT.out], (by repeat (first | exact Below.refl _ _ | refine Below.drew ?_ | refine below_drewN ?_ _ | refine Below.alloc ?_ (by first | exact Nat.le_refl _ | (simp; done) | (simp; omega) | omega) _ | refine Below.setCell ?_ (by first | exact Nat.le_refl _ | (simp; done) | (simp; omega) | omega) _ | refine bExtW ?_ (by first | exact Nat.le_refl _ | (simp; done) | (simp; omega) | omega) | refine Below.trans ?_ (Below.mono (by assumption) (by first | exact Nat.le_refl _ | (simp; done) | (simp; omega) | omega))))⟩
end Go.Proofs.Ytooilennejakhaa

namespace Go.Proofs.Ytooilennejakhaa
open Go.RowKit
set_option linter.unusedVariables false
set_option linter.unusedSimpArgs false
open Z (IsGcd Normal nrm Mv To lin mir okT idm both bothT inv invT neg)
/-- What Inverse answers. -/
def inV (g t : Int) (f : Bool) (x y : Int) : Value :=
  if wE g t x y ≠ 0 then .tuple #[.agg #[.int .i64 (0), .bool (false), .int .i64 (0), .int .i64 (0)], .int .i64 (wE g t x y)]
  else if smB (inv g ⟨t.toNat,f,(x,y)⟩).o.1 (inv g ⟨t.toNat,f,(x,y)⟩).o.2 = false then .tuple #[.agg #[.int .i64 (0), .bool (false), .int .i64 (0), .int .i64 (0)], .int .i64 (4)]
  else .tuple #[mvV (inv g ⟨t.toNat,f,(x,y)⟩), .int .i64 (0)]
theorem To_o0 (g : Int) (t : Nat) (f : Bool) (z : Z.Pt) : To g ⟨t,f,(0,0)⟩ z = lin g t f z := by simp [To, Z.add]
theorem invT_int {g : Int} (hg : Z.G g) {t : Nat} (ht : t < g.toNat) : (g - (t:Int)).tmod g = ((g.toNat - t) % g.toNat : Nat) ∧ 0 ≤ g - (t : Int) := by
  rcases hg with rfl | rfl
  · have h : t = 0 ∨ t = 1 ∨ t = 2 ∨ t = 3 := by omega
    rcases h with rfl | rfl | rfl | rfl <;> decide
  · have h : t = 0 ∨ t = 1 ∨ t = 2 ∨ t = 3 ∨ t = 4 ∨ t = 5 := by omega
    rcases h with rfl | rfl | rfl | rfl | rfl | rfl <;> decide
end Go.Proofs.Ytooilennejakhaa

namespace Go.Proofs.Ytooilennejakhaa
open Go.RowKit
set_option linter.unusedVariables false
set_option linter.unusedSimpArgs false
open Z (IsGcd Normal nrm Mv To lin mir okT idm both bothT inv invT neg)
theorem btZ4 : ∀ (a b : Fin 4), ((a.val + b.val) % 4 = 0 ↔ a.val = (4 - b.val) % 4) ∧ ((a.val + (4 - b.val)) % 4 = 0 ↔ a.val = b.val) := by decide +kernel
theorem btZ6 : ∀ (a b : Fin 6), ((a.val + b.val) % 6 = 0 ↔ a.val = (6 - b.val) % 6) ∧ ((a.val + (6 - b.val)) % 6 = 0 ↔ a.val = b.val) := by decide +kernel
theorem bothT_zero {g : Int} (hg : Z.G g) {f : Mv} (hf : okT g f) {i : Nat} (hi : i < g.toNat) (o : Z.Pt) : bothT g ⟨i,f.f,o⟩ f = 0 ↔ i = invT g f := by
  unfold okT at hf
  rcases hg with rfl | rfl
  · have h := btZ4 ⟨i, hi⟩ ⟨f.t, hf⟩
    unfold bothT invT
    cases f.f
    · exact h.1
    · exact h.2
  · have h := btZ6 ⟨i, hi⟩ ⟨f.t, hf⟩
    unfold bothT invT
    cases f.f
    · exact h.1
    · exact h.2
theorem invT_lt {g : Int} (hg : Z.G g) {f : Mv} (hf : okT g f) : invT g f < g.toNat := Z.inv_ok hg hf
theorem nrm_neg {g : Int} (hg : Z.G g) (p : Z.Pt) : nrm g (neg p) = nrm g p := by
  rcases hg with rfl | rfl
  · simp only [Z.nrm4, neg]; grind
  · simp only [Z.nrm6, neg]; grind
def rinW (w : World) (g t x y : Int) (f : Bool) : World := (w.alloc (.cells #[.int .i64 (t), .bool f, .int .i64 (x), .int .i64 (y)] 39)).alloc (.cells #[.int .i64 (0), .bool false, .int .i64 (0), .int .i64 (0)] 39)
end Go.Proofs.Ytooilennejakhaa

namespace Go.Proofs.Ytooilennejakhaa
open Go.RowKit
set_option linter.unusedVariables false
set_option linter.unusedSimpArgs false
open Z (IsGcd Normal nrm Mv To lin mir okT idm both bothT pw)
def ordN (g : Int) (f : Mv) : Nat := ((List.range' 1 6).find? (fun n => decide (pw g f n = idm))).getD 0
theorem ordN_some {g : Int} {f : Mv} {n : Nat} (h1 : 1 ≤ n) (h6 : n ≤ 6) (h : pw g f n = idm) (hm : ∀ m, 1 ≤ m → m < n → pw g f m ≠ idm) : ordN g f = n := by
  have hn : n = 1 ∨ n = 2 ∨ n = 3 ∨ n = 4 ∨ n = 5 ∨ n = 6 := by omega
  have m1 := hm 1 (by omega); have m2 := hm 2 (by omega); have m3 := hm 3 (by omega); have m4 := hm 4 (by omega); have m5 := hm 5 (by omega)
  clear hm
  rcases hn with rfl | rfl | rfl | rfl | rfl | rfl <;> simp at m1 m2 m3 m4 m5 <;> simp [ordN, List.range', List.find?, *]
theorem ordN_none {g : Int} {f : Mv} (hm : ∀ m, 1 ≤ m → m ≤ 6 → pw g f m ≠ idm) : ordN g f = 0 := by
  have m1 := hm 1 (by omega) (by omega); have m2 := hm 2 (by omega) (by omega); have m3 := hm 3 (by omega) (by omega); have m4 := hm 4 (by omega) (by omega); have m5 := hm 5 (by omega) (by omega); have m6 := hm 6 (by omega) (by omega)
  clear hm
  simp [ordN, List.range', List.find?, *]
/-- What Order answers. -/
def orV (g t : Int) (f : Bool) (x y : Int) : Value :=
  if wE g t x y ≠ 0 then .tuple #[.int .i64 (0), .int .i64 (wE g t x y)] else .tuple #[.int .i64 (ordN g ⟨t.toNat,f,(x,y)⟩), .int .i64 (0)]
theorem pw_nrm {g : Int} (hg : Z.G g) {f : Mv} (hs : nrm g f.o ≤ 3 * (1048576 * 1048576)) (n : Nat) : nrm g (pw g f n).o ≤ (2 * 2 ^ n - 2) * (3 * (1048576 * 1048576)) := by
  induction n with
  | zero =>
    have : nrm g (pw g f 0).o = 0 := by rcases hg with rfl | rfl <;> rfl
    omega
  | succ n ih =>
    have h := Z.nrm_To hg f (pw g f n).o
    have e : (pw g f (n+1)).o = To g f (pw g f n).o := rfl
    rw [e]
    have hp : (2:Int) ^ (n+1) = 2 * 2 ^ n := by rw [Int.pow_succ]; omega
    rw [hp]
    generalize (2:Int) ^ n = q at *
    omega
theorem pw_bd {g : Int} (hg : Z.G g) {f : Mv} (hs : nrm g f.o ≤ 3 * (1048576 * 1048576)) {n : Nat} (hn : n ≤ 6) : nrm g (pw g f n).o ≤ 1000000000000000 := by
  have h := pw_nrm hg hs n
  have hn : n = 0 ∨ n = 1 ∨ n = 2 ∨ n = 3 ∨ n = 4 ∨ n = 5 ∨ n = 6 := by omega
  rcases hn with rfl | rfl | rfl | rfl | rfl | rfl | rfl <;> omega
def mvC (m : Mv) : Array Value := #[.int .i64 (m.t), .bool m.f, .int .i64 (m.o.1), .int .i64 (m.o.2)]
end Go.Proofs.Ytooilennejakhaa

namespace Go.Proofs.Ytooilennejakhaa
open Go.RowKit
set_option linter.unusedVariables false
set_option linter.unusedSimpArgs false
open Z (IsGcd Normal nrm Mv To lin mir okT idm both bothT pw)
end Go.Proofs.Ytooilennejakhaa

namespace Go.Proofs.Ytooilennejakhaa
open Go.RowKit
set_option linter.unusedVariables false
set_option linter.unusedSimpArgs false
open Z (IsGcd Normal nrm Mv To lin mir okT idm both bothT inv pw)
theorem mvV_val (m : Mv) : ∃ (t : Int) (f : Bool) (x y : Int), mvV m = .agg #[.int .i64 (t), .bool (f), .int .i64 (x), .int .i64 (y)] := ⟨_, _, _, _, rfl⟩
theorem apV_ex (g t : Int) (f : Bool) (ox oy x y : Int) : ∃ a b e, apV g t f ox oy x y = .tuple #[.agg #[.int .i64 (a), .int .i64 (b)], .int .i64 (e)] := by
  unfold apV
  split
  · exact ⟨_, _, _, rfl⟩
  · split <;> exact ⟨_, _, _, rfl⟩
theorem coV_ex (g tf : Int) (ff : Bool) (fx fy th : Int) (fh : Bool) (hx hy : Int) : ∃ (t : Int) (f : Bool) (x y e : Int), coV g tf ff fx fy th fh hx hy = .tuple #[.agg #[.int .i64 (t), .bool (f), .int .i64 (x), .int .i64 (y)], .int .i64 (e)] := by
  unfold coV
  split
  · exact ⟨_, _, _, _, _, rfl⟩
  · split
    · exact ⟨_, _, _, _, _, rfl⟩
    · split <;> exact ⟨_, _, _, _, _, rfl⟩
theorem inV_ex (g t : Int) (f : Bool) (x y : Int) : ∃ (t' : Int) (f' : Bool) (x' y' e : Int), inV g t f x y = .tuple #[.agg #[.int .i64 (t'), .bool (f'), .int .i64 (x'), .int .i64 (y')], .int .i64 (e)] := by
  unfold inV
  split
  · exact ⟨_, _, _, _, _, rfl⟩
  · split <;> exact ⟨_, _, _, _, _, rfl⟩
theorem orV_ex (g t : Int) (f : Bool) (x y : Int) : ∃ (n e : Int), orV g t f x y = .tuple #[.int .i64 (n), .int .i64 (e)] := by
  unfold orV
  split <;> exact ⟨_, _, rfl⟩
end Go.Proofs.Ytooilennejakhaa

namespace Go.Proofs.Ytooilennejakhaa
open Go.RowKit
set_option linter.unusedVariables false
set_option linter.unusedSimpArgs false
open Z (IsGcd Normal nrm Mv To lin mir okT idm both bothT inv pw)
theorem smB_true {x y : Int} (h : smB x y = true) : -1048576 ≤ x ∧ x ≤ 1048576 ∧ -1048576 ≤ y ∧ y ≤ 1048576 := by simpa [smB] using h
/-- g is a grid, m a right move of it. -/
structure OkM (g : Int) (m : Mv) : Prop where
  gr : g = 4 ∨ g = 6
  t : m.t < g.toNat
  s : smB m.o.1 m.o.2 = true
theorem OkM.w {g : Int} {m : Mv} (h : OkM g m) : wE g m.t m.o.1 m.o.2 = 0 := by
  have hs := smB_true h.s
  have hg := h.gr
  have ht := h.t
  have hk : knB g = true := by simp [knB]; exact hg
  have hf : fltE g [(m.o.1, m.o.2)] = 0 := by simp [fltE, hk, smL, h.s]
  unfold wE
  rw [if_neg (by simp [hf]), if_neg (by omega)]
theorem OkM.of {g t x y : Int} (f : Bool) (h : wE g t x y = 0) : ∃ n : Nat, t = n ∧ OkM g ⟨n, f, (x, y)⟩ := by
  obtain ⟨hg, hs, n, rfl, hn⟩ := wE_zero h
  exact ⟨n, rfl, hg, hn, by simp [smB]; omega⟩
theorem coV_cases (g tf : Int) (ff : Bool) (fx fy th : Int) (fh : Bool) (hx hy : Int) :
    (∃ e : Int, e ≠ 0 ∧ coV g tf ff fx fy th fh hx hy = .tuple #[.agg #[.int .i64 (0), .bool (false), .int .i64 (0), .int .i64 (0)], .int .i64 (e)]) ∨
    (∃ n m : Nat, tf = n ∧ th = m ∧ OkM g ⟨n,ff,(fx,fy)⟩ ∧ OkM g ⟨m,fh,(hx,hy)⟩ ∧ OkM g (both g ⟨n,ff,(fx,fy)⟩ ⟨m,fh,(hx,hy)⟩) ∧ coV g tf ff fx fy th fh hx hy = .tuple #[mvV (both g ⟨n,ff,(fx,fy)⟩ ⟨m,fh,(hx,hy)⟩), .int .i64 (0)]) := by
  by_cases h1 : wE g tf fx fy = 0
  · by_cases h2 : wE g th hx hy = 0
    · obtain ⟨n, rfl, o1⟩ := OkM.of ff h1
      obtain ⟨m, rfl, o2⟩ := OkM.of fh h2
      cases h3 : smB (both g ⟨n,ff,(fx,fy)⟩ ⟨m,fh,(hx,hy)⟩).o.1 (both g ⟨n,ff,(fx,fy)⟩ ⟨m,fh,(hx,hy)⟩).o.2 with
      | false => exact .inl ⟨4, by omega, by simp [coV, h1, h2, h3]⟩
      | true => exact .inr ⟨n, m, rfl, rfl, o1, o2, ⟨o1.gr, Z.both_ok o1.gr _ _, h3⟩, by simp [coV, h1, h2, h3]⟩
    · exact .inl ⟨_, h2, by simp [coV, h1, h2]⟩
  · exact .inl ⟨_, h1, by simp [coV, h1]⟩
/-- Compose of right moves. -/
theorem coV_ok {g : Int} {f h : Mv} (o1 : OkM g f) (o2 : OkM g h) : coV g f.t f.f f.o.1 f.o.2 h.t h.f h.o.1 h.o.2 = if smB (both g f h).o.1 (both g f h).o.2 = false then .tuple #[.agg #[.int .i64 (0), .bool (false), .int .i64 (0), .int .i64 (0)], .int .i64 (4)] else .tuple #[mvV (both g f h), .int .i64 (0)] := by
  unfold coV
  rw [if_neg (by simp [o1.w]), if_neg (by simp [o2.w])]
  rfl
theorem apV_cases (g t : Int) (f : Bool) (ox oy x y : Int) :
    (∃ a b e : Int, e ≠ 0 ∧ apV g t f ox oy x y = .tuple #[.agg #[.int .i64 (a), .int .i64 (b)], .int .i64 (e)]) ∨
    (∃ n : Nat, t = n ∧ OkM g ⟨n,f,(ox,oy)⟩ ∧ smB x y = true ∧ smB (To g ⟨n,f,(ox,oy)⟩ (x,y)).1 (To g ⟨n,f,(ox,oy)⟩ (x,y)).2 = true ∧ apV g t f ox oy x y = .tuple #[.agg #[.int .i64 ((To g ⟨n,f,(ox,oy)⟩ (x,y)).1), .int .i64 ((To g ⟨n,f,(ox,oy)⟩ (x,y)).2)], .int .i64 (0)]) := by
  by_cases h1 : wE g t ox oy = 0
  · obtain ⟨n, rfl, o1⟩ := OkM.of f h1
    cases h2 : smB x y with
    | false => exact .inl ⟨0, 0, 3, by omega, by simp [apV, h1, h2]⟩
    | true =>
      cases h3 : smB (To g ⟨n,f,(ox,oy)⟩ (x,y)).1 (To g ⟨n,f,(ox,oy)⟩ (x,y)).2 with
      | false => exact .inl ⟨0, 0, 4, by omega, by simp [apV, h1, h2, h3, tdX, tdY, tdE]⟩
      | true => exact .inr ⟨n, rfl, o1, rfl, h3, by simp [apV, h1, h2, h3, tdX, tdY, tdE]⟩
  · exact .inl ⟨0, 0, _, h1, by simp [apV, h1]⟩
/-- Apply of a right move to a small point. -/
theorem apV_ok {g : Int} {m : Mv} (o : OkM g m) {z : Z.Pt} (hz : smB z.1 z.2 = true) : apV g m.t m.f m.o.1 m.o.2 z.1 z.2 = .tuple #[.agg #[.int .i64 (tdX (To g m z).1 (To g m z).2), .int .i64 (tdY (To g m z).1 (To g m z).2)], .int .i64 (tdE (To g m z).1 (To g m z).2)] := by
  unfold apV
  rw [if_neg (by simp [o.w]), if_neg (by simp [hz])]
  rfl
theorem inV_cases (g t : Int) (f : Bool) (x y : Int) :
    (∃ e : Int, e ≠ 0 ∧ inV g t f x y = .tuple #[.agg #[.int .i64 (0), .bool (false), .int .i64 (0), .int .i64 (0)], .int .i64 (e)]) ∨
    (∃ n : Nat, t = n ∧ OkM g ⟨n,f,(x,y)⟩ ∧ OkM g (inv g ⟨n,f,(x,y)⟩) ∧ inV g t f x y = .tuple #[mvV (inv g ⟨n,f,(x,y)⟩), .int .i64 (0)]) := by
  by_cases h1 : wE g t x y = 0
  · obtain ⟨n, rfl, o1⟩ := OkM.of f h1
    cases h3 : smB (inv g ⟨n,f,(x,y)⟩).o.1 (inv g ⟨n,f,(x,y)⟩).o.2 with
    | false => exact .inl ⟨4, by omega, by simp [inV, h1, h3]⟩
    | true => exact .inr ⟨n, rfl, o1, ⟨o1.gr, Z.inv_ok o1.gr o1.t, h3⟩, by simp [inV, h1, h3]⟩
  · exact .inl ⟨_, h1, by simp [inV, h1]⟩
theorem NV_same {g x y a b : Int} (h : nrm g (x,y) = nrm g (a,b)) (h1 : NE g x y = 0) (h2 : NE g a b = 0) : NV g x y = NV g a b := by
  unfold NE at h1 h2
  have e1 : tmX x y (miX g x y) (-y) = nrm g (x,y) := rfl
  have e2 : tmX a b (miX g a b) (-b) = nrm g (a,b) := rfl
  simp [NV, h1, h2, e1, e2, h]

theorem apply_both {g : Int} {f h : Mv} (of : OkM g f) (oh : OkM g h) (ofh : OkM g (both g f h)) {z : Z.Pt} (hz : smB z.1 z.2 = true) (hy : smB (To g h z).1 (To g h z).2 = true) :
    apV g (both g f h).t (both g f h).f (both g f h).o.1 (both g f h).o.2 z.1 z.2 = apV g f.t f.f f.o.1 f.o.2 (To g h z).1 (To g h z).2 := by
  rw [apV_ok ofh hz, apV_ok of hy, Z.To_both of.gr oh.t]
theorem compose_assoc {g : Int} {f h k : Mv} (of : OkM g f) (oh : OkM g h) (ok : OkM g k) (ofh : OkM g (both g f h)) (ohk : OkM g (both g h k)) :
    coV g (both g f h).t (both g f h).f (both g f h).o.1 (both g f h).o.2 k.t k.f k.o.1 k.o.2 = coV g f.t f.f f.o.1 f.o.2 (both g h k).t (both g h k).f (both g h k).o.1 (both g h k).o.2 := by
  rw [coV_ok ofh ok, coV_ok of ohk, Z.both_assoc of.gr oh.t ok.t]
theorem compose_inv {g : Int} {f : Mv} (of : OkM g f) (oi : OkM g (inv g f)) :
    coV g (inv g f).t (inv g f).f (inv g f).o.1 (inv g f).o.2 f.t f.f f.o.1 f.o.2 = .tuple #[.agg #[.int .i64 (0), .bool (false), .int .i64 (0), .int .i64 (0)], .int .i64 (0)] ∧
    coV g f.t f.f f.o.1 f.o.2 (inv g f).t (inv g f).f (inv g f).o.1 (inv g f).o.2 = .tuple #[.agg #[.int .i64 (0), .bool (false), .int .i64 (0), .int .i64 (0)], .int .i64 (0)] := by
  rw [coV_ok oi of, coV_ok of oi, (Z.both_inv of.gr of.t).1, (Z.both_inv of.gr of.t).2]
  exact ⟨rfl, rfl⟩
end Go.Proofs.Ytooilennejakhaa
