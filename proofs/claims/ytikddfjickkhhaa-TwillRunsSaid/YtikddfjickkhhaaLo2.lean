/- Lemmas and contracts of functions (what each call returns, and that it changes nothing that was there) that the proof of a law of this seat uses; each lemma states its own conditions. -/
import Derived.Test.YtikddfjickkhhaaLo1
import Derived.Test.YtikddfjickkhhaaLoM
import Derived.Test.YtikddfjickkhhaaAl3
import Derived.IntWalk
namespace Go.Proofs.Ytikddfjickkhhaa
open Go.RowKit
set_option linter.unusedVariables false
set_option linter.unusedSimpArgs false
open Go.Shelf Lo
attribute [local go_sem] Oper.semAt_some
/-- What lies where while the rows are gone through. -/
structure LI (w : World) (q W H n : Nat) (a : Option Addr) (c : Nat) (of : Bool) (most : Nat) (W' : World) : Prop where
  ro : Boxed W' (q+1) 4 (.bool of)
  rs : Boxed W' (q+1+1) 3 (.int .i64 (0))
  rm : Boxed W' (q+1+1+1) 3 (.int .i64 (most))
  rt : W'.rowIs (q+1+1+1+1) 26 3 (tF W H (.slice a n c))
  bel : Below w.heap.size w W'
section
variable {w : World} {q W H n : Nat} {a : Option Addr} {c : Nat} {of : Bool} {most : Nat} {A B : World}
theorem LI.kept {row : Option Nat} (h : LI w q W H n a c of most A) (hg : A.grownBy B row) (hr : ∀ r, row = some r → w.heap.size ≤ r ∧ ∃ o : Obj, A.heap[r]? = some o ∧ o.isCells = false) : LI w q W H n a c of most B :=
  have hr' : ∀ r, row = some r → ∃ o : Obj, A.heap[r]? = some o ∧ o.isCells = false := fun r e => (hr r e).2
  ⟨box_kept h.ro hg hr', box_kept h.rs hg hr', box_kept h.rm hg hr', rowIs_kept h.rt hg hr', h.bel.grown hg h.bel.size (fun k e => (hr k e).1)⟩
theorem LI.below (h : LI w q W H n a c of most A) (hb : Below A.heap.size A B) : LI w q W H n a c of most B :=
  ⟨Boxed.below h.ro hb, Boxed.below h.rs hb, Boxed.below h.rm hb, rowBelow h.rt hb h.rt.lt, h.bel.trans (hb.mono h.bel.size)⟩
theorem LI.set (h : LI w q W H n a c of most A) (hw : w.heap.size ≤ q) (m : Nat) : LI w q W H n a c of m (A.setCell ⟨q+1+1+1, 0, none⟩ (.int .i64 (m))) :=
  ⟨Boxed.other h.ro (by omega) _, Boxed.other h.rs (by omega) _, h.rm.set _, h.rt.setOther (by simp) _, h.bel.setCell (p := ⟨q+1+1+1, 0, none⟩) (by simp; omega) _⟩
end
set_option maxRecDepth 100000 in
set_option maxHeartbeats 8000000 in
theorem longest_ok (W H : Nat) (a : Option Addr) (n c : Nat) (hn : n = W * H) (bs : List Bool) (of : Bool) (w : World) (hT : OkT w a n c bs) (hW : W ≤ 64) (hH : H ≤ 64) (hW0 : 0 < W) :
    Calls Try.prog 66 #[.agg #[.int .i64 (W), .int .i64 (H), .slice a n c], .bool of] w fun e w' => e = .returned (.int .i64 (longV of W H bs)) ∧ Below w.heap.size w w' := by
  have HT := Lib.hid hT
  have HN := Lib.hid hn
  have hcap := hT.cap
  have hlim := hT.lim
  clear hT hn
  refine (callsIn_wide (n := 9)).1 ?_
  refine callsIn_of_wp_marks Try.func66 rfl trivial ?_ rfl
  simp only [Try.ntmps66, List.size_toArray, List.length_cons, List.length_nil, Nat.reduceAdd, Nat.reduceSub, Array.replicate_succ, Array.replicate_zero, List.push_toArray, List.append_toArray, List.nil_append, List.cons_append]
  refine wpIn_wide.2 ?_
  go_wp2_with fail
  have h0 : (w.alloc (.cells #[.int .i64 (W), .int .i64 (H), .slice a n c] 26)).heap.size = w.heap.size + 1 := by simp
  have hro := Boxed.new (w.alloc (.cells #[.int .i64 (W), .int .i64 (H), .slice a n c] 26)) 4 (.bool of)
  have hrs := Boxed.new ((w.alloc (.cells #[.int .i64 (W), .int .i64 (H), .slice a n c] 26)).alloc (.cells #[.bool of] 4)) 3 (.int .i64 (0))
  have hrm := Boxed.new (((w.alloc (.cells #[.int .i64 (W), .int .i64 (H), .slice a n c] 26)).alloc (.cells #[.bool of] 4)).alloc (.cells #[.int .i64 (0)] 3)) 3 (.int .i64 (0))
  simp only [World.size_alloc] at hro hrs hrm
  refine (callsIn_wide.1 (rows_in W H a n c 9 _)).mono ?_
  rintro r w3 ⟨rfl, rfl⟩
  go_wp2_with fail
  have hrt := tF_alloc ((((w.alloc (.cells #[.int .i64 (W), .int .i64 (H), .slice a n c] 26)).alloc (.cells #[.bool of] 4)).alloc (.cells #[.int .i64 (0)] 3)).alloc (.cells #[.int .i64 (0)] 3)) W H (.slice a n c) rfl
  simp only [World.size_alloc] at hrt
  replace hro := ((hro.alloc (.cells #[.int .i64 (0)] 3)).alloc (.cells #[.int .i64 (0)] 3)).alloc (.cells #[.int .i64 (W), .int .i64 (H), .slice a n c] 26)
  replace hrs := (hrs.alloc (.cells #[.int .i64 (0)] 3)).alloc (.cells #[.int .i64 (W), .int .i64 (H), .slice a n c] 26)
  replace hrm := hrm.alloc (.cells #[.int .i64 (W), .int .i64 (H), .slice a n c] 26)
  have hbl : Below w.heap.size w (((((w.alloc (.cells #[.int .i64 (W), .int .i64 (H), .slice a n c] 26)).alloc (.cells #[.bool of] 4)).alloc (.cells #[.int .i64 (0)] 3)).alloc (.cells #[.int .i64 (0)] 3)).alloc (.cells #[.int .i64 (W), .int .i64 (H), .slice a n c] 26)) := (by repeat (first | exact Below.refl _ _ | refine Below.drew ?_ | refine below_drewN ?_ _ | refine Below.alloc ?_ (by first | exact Nat.le_refl _ | (simp; done) | (simp; omega) | omega) _ | refine Below.setCell ?_ (by first | exact Nat.le_refl _ | (simp; done) | (simp; omega) | omega) _ | refine bExtW ?_ (by first | exact Nat.le_refl _ | (simp; done) | (simp; omega) | omega) | refine Below.trans ?_ (Below.mono (by assumption) (by first | exact Nat.le_refl _ | (simp; done) | (simp; omega) | omega))))
  have hs3 : (((((w.alloc (.cells #[.int .i64 (W), .int .i64 (H), .slice a n c] 26)).alloc (.cells #[.bool of] 4)).alloc (.cells #[.int .i64 (0)] 3)).alloc (.cells #[.int .i64 (0)] 3)).alloc (.cells #[.int .i64 (W), .int .i64 (H), .slice a n c] 26)).heap.size = w.heap.size + 5 := by simp
  generalize ((((w.alloc (.cells #[.int .i64 (W), .int .i64 (H), .slice a n c] 26)).alloc (.cells #[.bool of] 4)).alloc (.cells #[.int .i64 (0)] 3)).alloc (.cells #[.int .i64 (0)] 3)).alloc (.cells #[.int .i64 (W), .int .i64 (H), .slice a n c] 26) = W3 at *
  obtain ⟨q, hq⟩ : ∃ q, w.heap.size = q := ⟨_, rfl⟩
  rw [hq] at hro hrs hrm hrt hs3 ⊢
  have hwq : w.heap.size ≤ q := by omega
  have hLI : LI w q W H n a c of (foldG (rowG of W bs) ([] : List (Fin H))) W3 := ⟨hro, hrs, hrm, hrt, hbl⟩
  have hTB : TB (q+1+1+1+1) W H a n c bs W3 := TB.of_row hrt (HT.out.bits.below hbl)
  clear hro hrs hrm hrt hbl h0 hq
  refine (wpIn_wide (n := 9)).1 ?_
  refine wpIn_rangeFunc_ownG rfl (by omega) (gf := 82) (lb := #[.pointer (some ⟨q+1+1+1+1, 0, none⟩)]) rfl trivial (enters_of Try.func82 (by kernel_rfl) rfl)
    (rows_stops 8 (by omega) (q+1+1+1+1) W H a n c bs hW hH HN.out hcap hlim W3 hTB) (fun h k x => k (h x))
    (fun A l o o' _ ho hc _ x => x.kept (grownBy_putObj' A l o') (fun r e => by cases e; exact ⟨o, ho, hc⟩)) (Below.refl _ _) (fun _ => rfl)
    (fun pre W' => LI w q W H n a c of (foldG (rowG of W bs) pre) W') (fun c' pre W' => (c' = .ret ∧ ∃ y, y < H ∧ rowG of W bs y = 65) ∧ Boxed W' (q+1+1) 3 (.int .i64 (65)) ∧ Below w.heap.size w W')
    (fun s A B row hs hg hr => hs.kept hg (fun r e => ⟨by have := (hr r e).1; omega, (hr r e).2⟩))
    (fun c' s A B row hs hg hr => ⟨hs.1, box_kept hs.2.1 hg (fun r e => (hr r e).2), hs.2.2.grown hg hs.2.2.size (fun k e => by have := (hr k e).1; omega)⟩) hLI
    (fun x => { tmps := #[.agg #[.int .i64 (W), .int .i64 (H), .slice a n c], .bool of, .pointer (some ⟨q, 0, none⟩), .pointer (some ⟨q + 1, 0, none⟩), .pointer (some ⟨q + 1 + 1, 0, none⟩), .pointer (some ⟨q + 1 + 1 + 1, 0, none⟩), undef, rowV a c W x.val, undef, undef, undef, .agg #[.int .i64 (W), .int .i64 (H), .slice a n c], .func (.func 82) #[] #[.pointer (some ⟨q + 1 + 1 + 1 + 1, 0, none⟩)], .int .i64 ((x.val : Nat)), rowV a c W x.val, undef, undef, undef, undef, undef, undef, undef, undef, undef, undef, undef, undef, undef, undef, undef, undef, undef, undef, undef, undef, undef, undef, undef, undef, undef, undef, undef, undef, undef], defers := [] }) ?assign ?body ?done ?stop
  case assign =>
    intro l x W' K hK
    gi_wp2
    exact hK
  case body =>
    rintro l pre x W4 hL _
    obtain ⟨y, hy⟩ := x
    obtain ⟨A1, cc1, hrv, hrow⟩ := rowV_bools (a := a) (bs := bs) hcap HN.out hy
    simp only [hrv]
    have hfs := foldG_snoc (rowG of W bs) pre ⟨y, hy⟩
    have hfl := foldG_le (rowG of W bs) (B := 65) (fun y => rowG_le of W bs y) pre
    generalize foldG (rowG of W bs) pre = m0 at *
    obtain ⟨nof, hno⟩ : ∃ nof, (!of) = nof := ⟨_, rfl⟩
    have HNO := Lib.hid hno
    have hrb := (hrow W4 (HT.out.below hL.bel)).bits
    have HIX := Lib.hid (Index_any A1 W cc1 (rowL bs W y) nof W4 hrb (by omega))
    have hbi : bIdx (rowL bs W y) nof ≤ W := by have := List.findIdx_le_length (xs := rowL bs W y) (p := fun b => decide (b = nof)); rw [rowL_len] at this; exact this
    have co := hL.ro.cell
    have HL4 := Lib.hid hL; have HRW := Lib.hid hrow; have HFS := Lib.hid hfs
    clear hL hrow hfs hrb hrv
    by_cases hs : bIdx (rowL bs W y) nof < W
    · obtain ⟨e1, _⟩ := bIdx_spec (r := rowL bs W y) (v := nof) (by rw [rowL_len]; exact hs)
      have hfe : rf of W bs y (bIdx (rowL bs W y) nof) = false := by
        unfold rf
        rw [Nat.mod_eq_of_lt hs, ← rowL_get bs hs, e1]
        rw [← HNO.out]; cases of <;> rfl
      have HIV : Hid (idxV W (bIdx (rowL bs W y) nof) = (bIdx (rowL bs W y) nof : Int)) := Lib.hid (if_pos hs)
      have HSM := Lib.hid (scan_max (most := m0) (rf_per of W bs y) hs hfe hW)
      have HG : Hid (rowG of W bs y = mxTo (fun x => crun (rf of W bs y) x 65) W) := Lib.hid rfl
      generalize bIdx (rowL bs W y) nof = s at *
      clear e1 hfe
      gi_wp2
      refine ⟨trivial, ?_⟩
      gi_at_call 84
      refine (CallsIn.inRound l (callsIn_wide.2 HIX.out)).mono ?_
      rintro e W5 ⟨rfl, rfl⟩
      rw [HIV.out]
      gi_wp2
      clear co hno
      gi_loopw [9, 23] (fun nn i wr => ∃ k : Nat, k ≤ W ∧ i = .int .i64 k ∧ nn = .int .i64 (scanTo (rf of W bs y) s m0 k).1 ∧ Hid (LI w q W H n a c of (scanTo (rf of W bs y) s m0 k).2 wr) ∧ Hid (KeepsOthers W4 wr)) (fun _ i _ => W - (intOf i).toNat)
      case atStart => exact ⟨0, Nat.zero_le _, rfl, rfl, HL4, Lib.hid (KeepsOthers.refl _)⟩
      case round =>
        obtain ⟨k, hk, rfl, rfl, HL, HKO⟩ := hrel
        by_cases hkW : k < W
        · obtain ⟨b1, o1, rfl, hb1, hc1⟩ := (HRW.out _ (HT.out.below HL.out.bel)).bits.2 (by omega)
          obtain ⟨p, hp⟩ : ∃ p, (s + k) % W = p := ⟨_, rfl⟩
          have hpW : p < W := by rw [← hp]; exact Nat.mod_lt _ hW0
          have k1 := hc1 p hpW
          rw [rowL_get bs hpW] at k1
          have hri : ((s : Int) + (k : Int)).tmod (W : Int) = (p : Int) := by rw [← hp, Int.tmod_eq_emod_of_nonneg (by omega)]; rfl
          have hff : rf of W bs y (s + k) = decide (bs.getD (y * W + p) false = of) := by unfold rf; rw [hp]
          have co := HL.out.ro.cell
          have cm := HL.out.rm.cell
          have fm := HL.out.rm.frozen
          have HSL := Lib.hid (show scanTo (rf of W bs y) s m0 (k+1) = if rf of W bs y (s+k) then ((scanTo (rf of W bs y) s m0 k).1 + 1, max (scanTo (rf of W bs y) s m0 k).2 ((scanTo (rf of W bs y) s m0 k).1 + 1)) else (0, (scanTo (rf of W bs y) s m0 k).2) from rfl)
          have hsl := (scan_len (rf of W bs y) s m0 k).1
          have l1 : LtW b1 wr := hb1
          have lq : LtW (q+1) wr := HL.out.ro.lt
          have hN0 : ((W : Int) == 0) = false := by simp; omega
          have hN3 : ¬ W = 0 := by omega
          have v1 : IntKind.i64.wrap ((s : Int) + (k : Int)) = (s : Int) + (k : Int) := IntWalk.i64_in _ (by omega)
          have g0 : (0 : Int) ≤ (p : Int) := by omega
          have g1 : (p : Int) < (W : Int) := by omega
          generalize bs.getD (y * W + p) false = bit at *
          have HFF := Lib.hid hff
          clear hc1 hb1 hp hff
          generalize (scanTo (rf of W bs y) s m0 k).1 = nn at *
          generalize (scanTo (rf of W bs y) s m0 k).2 = mm at *
          gi_wp2
          (refine region_inRound (by kernel_rfl) (by kernel_rfl) (fun a w h => h) (any_region_ext_tail 10 (by kernel_rfl) (by kernel_rfl) ?_); simp only [List.take_succ_cons, List.take_zero, List.drop_succ_cons, List.drop_zero]; (repeat (first | ((with_reducible refine ext_step (fun K hK => ?_)); go_simp; first | (refine hK _ ?_; clear hK K) | (apply Exists.intro; refine ⟨fun _ _ => ?_, hK _ ?_⟩; fail; clear hK K)))); refine wpQuiet_nil ?_; intro E d)
          clear v1 hN0 hN3 hri k1
          have hbE : Below wr.heap.size wr (extW wr E d) := bExtW (Below.refl _ _) (Nat.le_refl _)
          have HL6 := Lib.hid (HL.out.below hbE)
          have HK6 := Lib.hid (HKO.out.trans (keepsOthers_of_below hbE))
          generalize extW wr E d = w6 at *
          clear co cm fm hbE l1 lq
          have cm : w6.cell? ⟨q+1+1+1, 0, none⟩ = some (.int .i64 (mm)) := HL6.out.rm.cell
          have fm := HL6.out.rm.frozen
          by_cases hbo : bit = of
          · have hfv : rf of W bs y (s + k) = true := by rw [HFF.out]; simpa using hbo
            have HS1 : Hid (scanTo (rf of W bs y) s m0 (k+1) = (nn + 1, max mm (nn + 1))) := Lib.hid (by rw [HSL.out, if_pos hfv])
            clear hfv
            subst hbo
            have HLN := Lib.hid (HL6.out.set hwq (max mm (nn+1)))
            have HKN := Lib.hid (HK6.out.trans (KeepsOthers.setCell w6 ⟨q+1+1+1, 0, none⟩ (.int .i64 ((max mm (nn+1) : Nat)))))
            by_cases hmx : mm < nn + 1
            · have hme : max mm (nn + 1) = nn + 1 := by omega
              rw [hme] at HLN HKN HS1
              clear hme
              cases bit <;> (go_wp2_with fail) <;> gi_wp2
              all_goals
                go_roundw
                case rel => exact ⟨k + 1, by omega, by go_num, by rw [HS1.out]; go_num, by rw [HS1.out]; exact HLN, HKN⟩
                case measure => simp [intOf]; omega
            · have hme : max mm (nn + 1) = mm := by omega
              rw [hme] at HLN HKN HS1
              clear hme
              cases bit <;> (go_wp2_with fail) <;> gi_wp2
              all_goals
                go_roundw
                case rel => exact ⟨k + 1, by omega, by go_num, by rw [HS1.out]; go_num, by rw [HS1.out]; exact HLN, HKN⟩
                case measure => simp [intOf]; omega
          · have hfv : rf of W bs y (s + k) = false := by rw [HFF.out]; simpa using hbo
            have HS1 : Hid (scanTo (rf of W bs y) s m0 (k+1) = (0, mm)) := Lib.hid (by rw [HSL.out, if_neg (by simp [hfv])])
            clear hfv cm fm
            cases bit <;> cases of
            · exact absurd rfl hbo
            · clear hbo
              go_wp2_with fail
              gi_wp2
              go_roundw
              case rel => exact ⟨k + 1, by omega, by go_num, by rw [HS1.out]; rfl, by rw [HS1.out]; exact HL6, HK6⟩
              case measure => simp [intOf]; omega
            · clear hbo
              go_wp2_with fail
              gi_wp2
              go_roundw
              case rel => exact ⟨k + 1, by omega, by go_num, by rw [HS1.out]; rfl, by rw [HS1.out]; exact HL6, HK6⟩
              case measure => simp [intOf]; omega
            · exact absurd rfl hbo
        · obtain rfl : k = W := by omega
          have HE : Hid ((scanTo (rf of k bs y) s m0 k).2 = max m0 (rowG of k bs y)) := Lib.hid (by rw [HSM.out, HG.out])
          have HLF : Hid (LI w q k H n a c of (max m0 (rowG of k bs y)) wr) := Lib.hid (by rw [← HE.out]; exact HL.out)
          clear hbi
          generalize scanTo (rf of k bs y) s m0 k = sc at *
          gi_wp2
          refine ⟨HKO.out.from _, fun _ => TB.of_row HLF.out.rt (HT.out.below HLF.out.bel).bits, ?_⟩
          show LI _ _ _ _ _ _ _ _ (foldG (rowG of k bs) (pre ++ [⟨y, hy⟩])) _
          rw [HFS.out]; exact HLF.out
    · have hbe : bIdx (rowL bs W y) nof = W := by omega
      have HIV : Hid (idxV W (bIdx (rowL bs W y) nof) = -1) := Lib.hid (if_neg hs)
      have HG : Hid (rowG of W bs y = 65) := Lib.hid (run_full hW0 fun i => by
        unfold rf
        have hiW : i % W < W := Nat.mod_lt _ hW0
        have h1 := List.not_of_lt_findIdx (xs := rowL bs W y) (p := fun b => decide (b = nof)) (i := i % W) (by show i % W < bIdx (rowL bs W y) nof; omega)
        have h2 : (rowL bs W y)[i % W]'(by rw [rowL_len]; exact hiW) = bs.getD (y * W + i % W) false := by
          rw [← rowL_get bs hiW, List.getD_eq_getElem?_getD, List.getElem?_eq_getElem (by rw [rowL_len]; exact hiW)]; rfl
        rw [h2] at h1
        simp only [decide_eq_false_iff_not] at h1
        rw [decide_eq_true_iff]
        rw [← HNO.out] at h1
        cases hb : bs.getD (y * W + i % W) false <;> cases of <;> simp_all)
      generalize bIdx (rowL bs W y) nof = s at *
      clear hbe hs
      have cs := HL4.out.rs.cell
      have fs := HL4.out.rs.frozen
      gi_wp2
      refine ⟨trivial, ?_⟩
      gi_at_call 84
      refine (CallsIn.inRound l (callsIn_wide.2 HIX.out)).mono ?_
      rintro e W5 ⟨rfl, rfl⟩
      rw [HIV.out]
      gi_wp2
      exact ⟨(KeepsOthers.setCell _ _ _).from _, ⟨rfl, y, hy, HG.out⟩, HL4.out.rs.set _, HL4.out.bel.setCell (p := ⟨q+1+1, 0, none⟩) (by simp; omega) _⟩
  case done =>
    rintro D ys W4 hD rfl hL hK
    rw [foldG_all] at hL
    have HV : Hid (longV of W H bs = mxTo (rowG of W bs) H) := Lib.hid rfl
    generalize mxTo (rowG of W bs) H = V at *
    have cm := hL.rm.cell
    have cs := hL.rs.cell
    have fs := hL.rs.frozen
    have HL := Lib.hid hL
    have HKD := Lib.hid hK
    clear hL hK
    go_wp2
    have hK1 := (KeepsOthers.setCell W4 ⟨q+1+1, 0, none⟩ (.int .i64 (V))).same D _ HKD.out rfl
    have hb4 := HL.out.bel.setCell (p := ⟨q+1+1, 0, none⟩) (by simp; omega) (.int .i64 (V))
    have hbx := HL.out.rs.set (.int .i64 (V))
    generalize W4.setCell ⟨q+1+1, 0, none⟩ (.int .i64 (V)) = W6 at *
    have hkk : ∀ r, some D = some r → ∃ o : Obj, W6.heap[r]? = some o ∧ o.isCells = false := fun r e => by cases e; exact ⟨_, hK1, rfl⟩
    refine ⟨by simp, .inl ⟨_, _, rfl, run_takeDeferred hK1, ?_⟩⟩
    have k0 := (box_kept hbx (grownBy_putObj' _ D (.deferred none)) hkk).cell
    refine ⟨.int .i64 (V), by simp [results, Try.f66, go_sem, k0], by rw [HV.out], ?_⟩
    exact hb4.trans (belowK_b (w := w) (Nat.le_refl _) W6 D _ _ (by omega) hK1 rfl rfl)
  case stop =>
    rintro D c' pre W4 hD _ ⟨⟨rfl, y, hy, hg⟩, hbx, hb4⟩ hK
    have HV : Hid (longV of W H bs = 65) := Lib.hid (Nat.le_antisymm (longV_le of W H bs) (by have := le_mxTo (g := rowG of W bs) hy; unfold longV; omega))
    have HKD := Lib.hid hK
    have HBX := Lib.hid hbx
    clear hbx hK hg
    gi_wp2
    have hkk : ∀ r, some D = some r → ∃ o : Obj, W4.heap[r]? = some o ∧ o.isCells = false := fun r e => by cases e; exact ⟨_, HKD.out, rfl⟩
    refine ⟨by simp, .inl ⟨_, _, rfl, run_takeDeferred HKD.out, ?_⟩⟩
    have k0 := (box_kept HBX.out (grownBy_putObj' _ D (.deferred none)) hkk).cell
    refine ⟨.int .i64 (65), by simp [results, Try.f66, go_sem, k0], by rw [HV.out]; rfl, ?_⟩
    exact hb4.trans (belowK_b (w := w) (Nat.le_refl _) W4 D _ _ (by omega) HKD.out rfl rfl)
end Go.Proofs.Ytikddfjickkhhaa
