/- Lemmas on which the law of this seat rests; each states its own conditions. -/
import Derived.Test.YtajdoobkfbdgoaaDoorC22
import Derived.Test.YtajdoobkfbdgoaaDoorC06
import Derived.IntWalk
import Derived.Test.YtajdoobkfbdgoaaDoorC05
import Derived.Test.YtajdoobkfbdgoaaDoorC20
import Derived.Test.YtajdoobkfbdgoaaDoorC07
set_option linter.unusedVariables false
set_option linter.unusedSimpArgs false
namespace Go.Proofs.YtajdoobkfbdgoaaDoor
section
open Go.RowKit
open Go.Shelf Lo
attribute [local go_sem] Oper.semAt_some
structure LI (w : World) (q W H n : Nat) (a : Option Addr) (c : Nat) (of : Bool) (most : Nat) (W' : World) : Prop where
 ro : Boxed W' (q+1) 4 (.bool of)
 rs : Boxed W' (q+1+1) 3 (.int .i64 (0))
 rm : Boxed W' (q+1+1+1) 3 (.int .i64 (most))
 rt : W'.rowIs (q+1+1+1+1) 33 3 (tF W H (.slice a n c))
 bel : Below w.heap.size w W'
section
variable {w : World} {q W H n : Nat} {a : Option Addr} {c : Nat} {of : Bool} {most : Nat} {A B : World}
theorem LI.kept {row : Option Nat} (h : LI w q W H n a c of most A) (hg : A.grownBy B row) (hr : ∀ r, row = some r → w.heap.size ≤ r ∧ ∃ o : Obj, A.heap[r]? = some o ∧ o.isCells = false) : LI w q W H n a c of most B :=
 have hr' : ∀ r, row = some r → ∃ o : Obj, A.heap[r]? = some o ∧ o.isCells = false := fun r e => (hr r e).2
 ⟨box_kept h.ro hg hr', box_kept h.rs hg hr', box_kept h.rm hg hr', rowIs_kept h.rt hg hr', h.bel.grown hg h.bel.size (fun k e => (hr k e).1)⟩
theorem LI.below (h : LI w q W H n a c of most A) (hb : Below A.heap.size A B) : LI w q W H n a c of most B :=
 ⟨Boxed.below h.ro hb, Boxed.below h.rs hb, Boxed.below h.rm hb, rowBelow h.rt hb h.rt.lt, h.bel.trans (hb.mono h.bel.size)⟩
theorem LI.set (h : LI w q W H n a c of most A) (hw : w.heap.size ≤ q) (m : Nat) : LI w q W H n a c of m (A.setCell ⟨q+1+1+1, 0, none⟩ (.int .i64 (m))) :=
 ⟨Boxed.other h.ro (by omega) _, Boxed.other h.rs (by omega) _, h.rm.set _, h.rt.setOther (by simp) _, h.bel.setCell (p := ⟨q+1+1+1, 0, none⟩) (by simp; omega) _⟩
end
theorem lfLo20 {P : Prop} (h : P := by
 clear hme
 cases bit <;> (go_wp2_with fail) <;> gi_wp2
 all_goals
  go_roundw
  case rel => exact ⟨k + 1, by omega, by go_num, by rw [HS1.out]; go_num, by rw [HS1.out]; exact HLN, HKN⟩
  case measure => simp [intOf]; omega) : P := h
theorem lfLo21 {P : Prop} (h : P := by
 go_wp2_with fail
 gi_wp2
 go_roundw
 case rel => exact ⟨k + 1, by omega, by go_num, by rw [HS1.out]; rfl, by rw [HS1.out]; exact HL6, HK6⟩
 case measure => simp [intOf]; omega) : P := h
set_option maxRecDepth 100000 in
set_option maxHeartbeats 8000000 in
theorem longest_ok (W H : Nat) (a : Option Addr) (n c : Nat) (hn : n = W * H) (bs : List Bool) (of : Bool) (w : World) (hT : OkT w a n c bs) (hW : W ≤ 64) (hH : H ≤ 64) (hW0 : 0 < W) :
  Calls Tryd.prog 77 #[.agg #[.int .i64 (W), .int .i64 (H), .slice a n c], .bool of] w fun e w' => e = .returned (.int .i64 (longV of W H bs)) ∧ Below w.heap.size w w' := by
 have HT := Lib.hid hT
 have HN := Lib.hid hn
 have hcap := hT.cap
 have hlim := hT.lim
 clear hT hn
 refine (callsIn_wide (n := 9)).1 ?_
 refine callsIn_of_wp_marks Tryd.func77 rfl trivial ?_ rfl
 simp only [Tryd.ntmps77, List.size_toArray, List.length_cons, List.length_nil, Nat.reduceAdd, Nat.reduceSub, Array.replicate_succ, Array.replicate_zero, List.push_toArray, List.append_toArray, List.nil_append, List.cons_append]
 refine wpIn_wide.2 ?_
 go_wp2_with fail
 have h0 : (w.alloc (.cells #[.int .i64 (W), .int .i64 (H), .slice a n c] 33)).heap.size = w.heap.size + 1 := by simp
 have hro := Boxed.new (w.alloc (.cells #[.int .i64 (W), .int .i64 (H), .slice a n c] 33)) 4 (.bool of)
 have hrs := Boxed.new ((w.alloc (.cells #[.int .i64 (W), .int .i64 (H), .slice a n c] 33)).alloc (.cells #[.bool of] 4)) 3 (.int .i64 (0))
 have hrm := Boxed.new (((w.alloc (.cells #[.int .i64 (W), .int .i64 (H), .slice a n c] 33)).alloc (.cells #[.bool of] 4)).alloc (.cells #[.int .i64 (0)] 3)) 3 (.int .i64 (0))
 simp only [World.size_alloc] at hro hrs hrm
 refine (callsIn_wide.1 (rows_in W H a n c 9 _)).mono ?_
 rintro r w3 ⟨rfl, rfl⟩
 go_wp2_with fail
 have hrt := tF_alloc ((((w.alloc (.cells #[.int .i64 (W), .int .i64 (H), .slice a n c] 33)).alloc (.cells #[.bool of] 4)).alloc (.cells #[.int .i64 (0)] 3)).alloc (.cells #[.int .i64 (0)] 3)) W H (.slice a n c) rfl
 simp only [World.size_alloc] at hrt
 replace hro := ((hro.alloc (.cells #[.int .i64 (0)] 3)).alloc (.cells #[.int .i64 (0)] 3)).alloc (.cells #[.int .i64 (W), .int .i64 (H), .slice a n c] 33)
 replace hrs := (hrs.alloc (.cells #[.int .i64 (0)] 3)).alloc (.cells #[.int .i64 (W), .int .i64 (H), .slice a n c] 33)
 replace hrm := hrm.alloc (.cells #[.int .i64 (W), .int .i64 (H), .slice a n c] 33)
 have hbl : Below w.heap.size w (((((w.alloc (.cells #[.int .i64 (W), .int .i64 (H), .slice a n c] 33)).alloc (.cells #[.bool of] 4)).alloc (.cells #[.int .i64 (0)] 3)).alloc (.cells #[.int .i64 (0)] 3)).alloc (.cells #[.int .i64 (W), .int .i64 (H), .slice a n c] 33)) := blw
 have hs3 : (((((w.alloc (.cells #[.int .i64 (W), .int .i64 (H), .slice a n c] 33)).alloc (.cells #[.bool of] 4)).alloc (.cells #[.int .i64 (0)] 3)).alloc (.cells #[.int .i64 (0)] 3)).alloc (.cells #[.int .i64 (W), .int .i64 (H), .slice a n c] 33)).heap.size = w.heap.size + 5 := by simp
 generalize ((((w.alloc (.cells #[.int .i64 (W), .int .i64 (H), .slice a n c] 33)).alloc (.cells #[.bool of] 4)).alloc (.cells #[.int .i64 (0)] 3)).alloc (.cells #[.int .i64 (0)] 3)).alloc (.cells #[.int .i64 (W), .int .i64 (H), .slice a n c] 33) = W3 at *
 obtain ⟨q, hq⟩ : ∃ q, w.heap.size = q := ⟨_, rfl⟩
 rw [hq] at hro hrs hrm hrt hs3 ⊢
 have hwq : w.heap.size ≤ q := by omega
 have hLI : LI w q W H n a c of (foldG (rowG of W bs) ([] : List (Fin H))) W3 := ⟨hro, hrs, hrm, hrt, hbl⟩
 have hTB : TB (q+1+1+1+1) W H a n c bs W3 := TB.of_row hrt (HT.out.bits.below hbl)
 clear hro hrs hrm hrt hbl h0 hq
 refine (wpIn_wide (n := 9)).1 ?_
 refine wpIn_rangeFunc_ownG rfl (by omega) (gf := 57) (lb := #[.pointer (some ⟨q+1+1+1+1, 0, none⟩)]) rfl trivial (enters_of Tryd.func57 (by kernel_rfl) rfl)
  (rows_stops 8 (by omega) (q+1+1+1+1) W H a n c bs hW hH HN.out hcap hlim W3 hTB) (fun h k x => k (h x))
  (fun A l o o' _ ho hc _ x => x.kept (grownBy_putObj' A l o') (fun r e => by cases e; exact ⟨o, ho, hc⟩)) (Below.refl _ _) (fun _ => rfl)
  (fun pre W' => LI w q W H n a c of (foldG (rowG of W bs) pre) W') (fun c' pre W' => (c' = .ret ∧ ∃ y, y < H ∧ rowG of W bs y = 65) ∧ Boxed W' (q+1+1) 3 (.int .i64 (65)) ∧ Below w.heap.size w W')
  (fun s A B row hs hg hr => hs.kept hg (fun r e => ⟨by have := (hr r e).1; omega, (hr r e).2⟩))
  (fun c' s A B row hs hg hr => ⟨hs.1, box_kept hs.2.1 hg (fun r e => (hr r e).2), hs.2.2.grown hg hs.2.2.size (fun k e => by have := (hr k e).1; omega)⟩) hLI
  (fun x => { tmps := #[.agg #[.int .i64 (W), .int .i64 (H), .slice a n c], .bool of, .pointer (some ⟨q, 0, none⟩), .pointer (some ⟨q + 1, 0, none⟩), .pointer (some ⟨q + 1 + 1, 0, none⟩), .pointer (some ⟨q + 1 + 1 + 1, 0, none⟩), undef, rowV a c W x.val, undef, undef, undef, .agg #[.int .i64 (W), .int .i64 (H), .slice a n c], .func (.func 57) #[] #[.pointer (some ⟨q + 1 + 1 + 1 + 1, 0, none⟩)], .int .i64 ((x.val : Nat)), rowV a c W x.val, undef, undef, undef, undef, undef, undef, undef, undef, undef, undef, undef, undef, undef, undef, undef, undef, undef, undef, undef, undef, undef, undef, undef, undef, undef, undef, undef, undef, undef], defers := [] }) ?assign ?body ?done ?stop
 case assign =>
  intro l x W' K hK
  gi_wp2
  exact hK
 case body =>
  rintro l pre x W4 hL _
  obtain ⟨y, hy⟩ := x
  obtain ⟨A1, cc1, hrv, hrow⟩ := rowV_bools (a := a) (bs := bs) hcap HN.out hy
  simp only [hrv]
  have hfs := foldG_snoc (rowG of W bs) pre ⟨y, hy⟩
  have hfl := foldG_le (rowG of W bs) (B := 65) (fun y => rowG_le of W bs y) pre
  generalize foldG (rowG of W bs) pre = m0 at *
  obtain ⟨nof, hno⟩ : ∃ nof, (!of) = nof := ⟨_, rfl⟩
  have HNO := Lib.hid hno
  have hrb := (hrow W4 (HT.out.below hL.bel)).bits
  have HIX := Lib.hid (Index_any A1 W cc1 (rowL bs W y) nof W4 hrb (by omega))
  have hbi : bIdx (rowL bs W y) nof ≤ W := by have := List.findIdx_le_length (xs := rowL bs W y) (p := fun b => decide (b = nof)); rw [rowL_len] at this; exact this
  have co := hL.ro.cell
  have HL4 := Lib.hid hL; have HRW := Lib.hid hrow; have HFS := Lib.hid hfs
  clear hL hrow hfs hrb hrv
  by_cases hs : bIdx (rowL bs W y) nof < W
  ·obtain ⟨e1, _⟩ := bIdx_spec (r := rowL bs W y) (v := nof) (by rw [rowL_len]; exact hs)
   have hfe : rf of W bs y (bIdx (rowL bs W y) nof) = false := by
    unfold rf
    rw [Nat.mod_eq_of_lt hs, ← rowL_get bs hs, e1]
    rw [← HNO.out]; cases of <;> rfl
   have HIV : Hid (idxV W (bIdx (rowL bs W y) nof) = (bIdx (rowL bs W y) nof : Int)) := Lib.hid (if_pos hs)
   have HSM := Lib.hid (scan_max (most := m0) (rf_per of W bs y) hs hfe hW)
   have HG : Hid (rowG of W bs y = mxTo (fun x => crun (rf of W bs y) x 65) W) := Lib.hid rfl
   generalize bIdx (rowL bs W y) nof = s at *
   clear e1 hfe
   gi_wp2
   refine ⟨trivial, ?_⟩
   gi_at_call 94
   refine (CallsIn.inRound l (callsIn_wide.2 HIX.out)).mono ?_
   rintro e W5 ⟨rfl, rfl⟩
   rw [HIV.out]
   gi_wp2
   clear co hno
   gi_loopw [9, 23] (fun nn i wr => ∃ k : Nat, k ≤ W ∧ i = .int .i64 k ∧ nn = .int .i64 (scanTo (rf of W bs y) s m0 k).1 ∧ Hid (LI w q W H n a c of (scanTo (rf of W bs y) s m0 k).2 wr) ∧ Hid (KeepsOthers W4 wr)) (fun _ i _ => W - (intOf i).toNat)
   case atStart => exact ⟨0, Nat.zero_le _, rfl, rfl, HL4, Lib.hid (KeepsOthers.refl _)⟩
   case round =>
    obtain ⟨k, hk, rfl, rfl, HL, HKO⟩ := hrel
    by_cases hkW : k < W
    ·obtain ⟨b1, o1, rfl, hb1, hc1⟩ := (HRW.out _ (HT.out.below HL.out.bel)).bits.2 (by omega)
     obtain ⟨p, hp⟩ : ∃ p, (s + k) % W = p := ⟨_, rfl⟩
     have hpW : p < W := by rw [← hp]; exact Nat.mod_lt _ hW0
     have k1 := hc1 p hpW
     rw [rowL_get bs hpW] at k1
     have hri : ((s : Int) + (k : Int)).tmod (W : Int) = (p : Int) := by rw [← hp, Int.tmod_eq_emod_of_nonneg (by omega)]; rfl
     have hff : rf of W bs y (s + k) = decide (bs.getD (y * W + p) false = of) := by unfold rf; rw [hp]
     have co := HL.out.ro.cell
     have cm := HL.out.rm.cell
     have fm := HL.out.rm.frozen
     have HSL := Lib.hid (show scanTo (rf of W bs y) s m0 (k+1) = if rf of W bs y (s+k) then ((scanTo (rf of W bs y) s m0 k).1 + 1, max (scanTo (rf of W bs y) s m0 k).2 ((scanTo (rf of W bs y) s m0 k).1 + 1)) else (0, (scanTo (rf of W bs y) s m0 k).2) from rfl)
     have hsl := (scan_len (rf of W bs y) s m0 k).1
     have l1 : LtW b1 wr := hb1
     have lq : LtW (q+1) wr := HL.out.ro.lt
     have hN0 : ((W : Int) == 0) = false := by simp; omega
     have hN3 : ¬ W = 0 := by omega
     have v1 : IntKind.i64.wrap ((s : Int) + (k : Int)) = (s : Int) + (k : Int) := IntWalk.i64_in _ (by omega)
     have g0 : (0 : Int) ≤ (p : Int) := by omega
     have g1 : (p : Int) < (W : Int) := by omega
     generalize bs.getD (y * W + p) false = bit at *
     have HFF := Lib.hid hff
     clear hc1 hb1 hp hff
     generalize (scanTo (rf of W bs y) s m0 k).1 = nn at *
     generalize (scanTo (rf of W bs y) s m0 k).2 = mm at *
     gi_wp2
     (refine region_inRound (by kernel_rfl) (by kernel_rfl) (fun a w h => h) (any_region_ext_tail 10 (by kernel_rfl) (by kernel_rfl) ?_); simp only [List.take_succ_cons, List.take_zero, List.drop_succ_cons, List.drop_zero]; (repeat (first | ((with_reducible refine ext_step (fun K hK => ?_)); go_simp; first | (refine hK _ ?_; clear hK K) | (apply Exists.intro; refine ⟨fun _ _ => ?_, hK _ ?_⟩; fail; clear hK K)))); refine wpQuiet_nil ?_; intro E d)
     clear v1 hN0 hN3 hri k1
     have hbE : Below wr.heap.size wr (extW wr E d) := bExtW (Below.refl _ _) (Nat.le_refl _)
     have HL6 := Lib.hid (HL.out.below hbE)
     have HK6 := Lib.hid (HKO.out.trans (keepsOthers_of_below hbE))
     generalize extW wr E d = w6 at *
     clear co cm fm hbE l1 lq
     have cm : w6.cell? ⟨q+1+1+1, 0, none⟩ = some (.int .i64 (mm)) := HL6.out.rm.cell
     have fm := HL6.out.rm.frozen
     by_cases hbo : bit = of
     ·have hfv : rf of W bs y (s + k) = true := by rw [HFF.out]; simpa using hbo
      have HS1 : Hid (scanTo (rf of W bs y) s m0 (k+1) = (nn + 1, max mm (nn + 1))) := Lib.hid (by rw [HSL.out, if_pos hfv])
      clear hfv
      subst hbo
      have HLN := Lib.hid (HL6.out.set hwq (max mm (nn+1)))
      have HKN := Lib.hid (HK6.out.trans (KeepsOthers.setCell w6 ⟨q+1+1+1, 0, none⟩ (.int .i64 ((max mm (nn+1) : Nat)))))
      by_cases hmx : mm < nn + 1
      ·have hme : max mm (nn + 1) = nn + 1 := by omega
       have hmz : max (mm : Int) ((nn : Int) + 1) = ((nn + 1 : Nat) : Int) := by omega
       rw [hme] at HLN HKN HS1
       exact lfLo20
      ·have hme : max mm (nn + 1) = mm := by omega
       have hmz : max (mm : Int) ((nn : Int) + 1) = (mm : Int) := by omega
       rw [hme] at HLN HKN HS1
       exact lfLo20
     ·have hfv : rf of W bs y (s + k) = false := by rw [HFF.out]; simpa using hbo
      have HS1 : Hid (scanTo (rf of W bs y) s m0 (k+1) = (0, mm)) := Lib.hid (by rw [HSL.out, if_neg (by simp [hfv])])
      clear hfv cm fm
      cases bit <;> cases of
      ·exact absurd rfl hbo
      ·clear hbo
       exact lfLo21
      ·clear hbo
       exact lfLo21
      ·exact absurd rfl hbo
    ·obtain rfl : k = W := by omega
     have HE : Hid ((scanTo (rf of k bs y) s m0 k).2 = max m0 (rowG of k bs y)) := Lib.hid (by rw [HSM.out, HG.out])
     have HLF : Hid (LI w q k H n a c of (max m0 (rowG of k bs y)) wr) := Lib.hid (by rw [← HE.out]; exact HL.out)
     clear hbi
     generalize scanTo (rf of k bs y) s m0 k = sc at *
     gi_wp2
     refine ⟨HKO.out.from _, fun _ => TB.of_row HLF.out.rt (HT.out.below HLF.out.bel).bits, ?_⟩
     show LI _ _ _ _ _ _ _ _ (foldG (rowG of k bs) (pre ++ [⟨y, hy⟩])) _
     rw [HFS.out]; exact HLF.out
  ·have hbe : bIdx (rowL bs W y) nof = W := by omega
   have HIV : Hid (idxV W (bIdx (rowL bs W y) nof) = -1) := Lib.hid (if_neg hs)
   have HG : Hid (rowG of W bs y = 65) := Lib.hid (run_full hW0 fun i => by
    unfold rf
    have hiW : i % W < W := Nat.mod_lt _ hW0
    have h1 := List.not_of_lt_findIdx (xs := rowL bs W y) (p := fun b => decide (b = nof)) (i := i % W) (by show i % W < bIdx (rowL bs W y) nof; omega)
    have h2 : (rowL bs W y)[i % W]'(by rw [rowL_len]; exact hiW) = bs.getD (y * W + i % W) false := by
     rw [← rowL_get bs hiW, List.getD_eq_getElem?_getD, List.getElem?_eq_getElem (by rw [rowL_len]; exact hiW)]; rfl
    rw [h2] at h1
    simp only [decide_eq_false_iff_not] at h1
    rw [decide_eq_true_iff]
    rw [← HNO.out] at h1
    cases hb : bs.getD (y * W + i % W) false <;> cases of <;> simp_all)
   generalize bIdx (rowL bs W y) nof = s at *
   clear hbe hs
   have cs := HL4.out.rs.cell
   have fs := HL4.out.rs.frozen
   gi_wp2
   refine ⟨trivial, ?_⟩
   gi_at_call 94
   refine (CallsIn.inRound l (callsIn_wide.2 HIX.out)).mono ?_
   rintro e W5 ⟨rfl, rfl⟩
   rw [HIV.out]
   gi_wp2
   exact ⟨(KeepsOthers.setCell _ _ _).from _, ⟨rfl, y, hy, HG.out⟩, HL4.out.rs.set _, HL4.out.bel.setCell (p := ⟨q+1+1, 0, none⟩) (by simp; omega) _⟩
 case done =>
  rintro D ys W4 hD rfl hL hK
  rw [foldG_all] at hL
  have HV : Hid (longV of W H bs = mxTo (rowG of W bs) H) := Lib.hid rfl
  generalize mxTo (rowG of W bs) H = V at *
  have cm := hL.rm.cell
  have cs := hL.rs.cell
  have fs := hL.rs.frozen
  have HL := Lib.hid hL
  have HKD := Lib.hid hK
  clear hL hK
  go_wp2
  have hK1 := (KeepsOthers.setCell W4 ⟨q+1+1, 0, none⟩ (.int .i64 (V))).same D _ HKD.out rfl
  have hb4 := HL.out.bel.setCell (p := ⟨q+1+1, 0, none⟩) (by simp; omega) (.int .i64 (V))
  have hbx := HL.out.rs.set (.int .i64 (V))
  generalize W4.setCell ⟨q+1+1, 0, none⟩ (.int .i64 (V)) = W6 at *
  have hkk : ∀ r, some D = some r → ∃ o : Obj, W6.heap[r]? = some o ∧ o.isCells = false := fun r e => by cases e; exact ⟨_, hK1, rfl⟩
  refine ⟨by simp, .inl ⟨_, _, rfl, run_takeDeferred hK1, ?_⟩⟩
  have k0 := (box_kept hbx (grownBy_putObj' _ D (.deferred none)) hkk).cell
  refine ⟨.int .i64 (V), by simp [results, Tryd.f77, go_sem, k0], by rw [HV.out], ?_⟩
  exact hb4.trans (belowK_b (w := w) (Nat.le_refl _) W6 D _ _ (by omega) hK1 rfl rfl)
 case stop =>
  rintro D c' pre W4 hD _ ⟨⟨rfl, y, hy, hg⟩, hbx, hb4⟩ hK
  have HV : Hid (longV of W H bs = 65) := Lib.hid (Nat.le_antisymm (longV_le of W H bs) (by have := le_mxTo (g := rowG of W bs) hy; unfold longV; omega))
  have HKD := Lib.hid hK
  have HBX := Lib.hid hbx
  clear hbx hK hg
  gi_wp2
  have hkk : ∀ r, some D = some r → ∃ o : Obj, W4.heap[r]? = some o ∧ o.isCells = false := fun r e => by cases e; exact ⟨_, HKD.out, rfl⟩
  refine ⟨by simp, .inl ⟨_, _, rfl, run_takeDeferred HKD.out, ?_⟩⟩
  have k0 := (box_kept HBX.out (grownBy_putObj' _ D (.deferred none)) hkk).cell
  refine ⟨.int .i64 (65), by simp [results, Tryd.f77, go_sem, k0], by rw [HV.out]; rfl, ?_⟩
  exact hb4.trans (belowK_b (w := w) (Nat.le_refl _) W4 D _ _ (by omega) HKD.out rfl rfl)
end
section
open Go.RowKit
open Lo
set_option maxRecDepth 100000 in
set_option maxHeartbeats 8000000 in
theorem Floats_ok (W H n : Nat) (hn : n = W * H) (a : Option Addr) (c : Nat) (bs : List Bool) (w : World) (hT : OkT w a n c bs) (hW : W ≤ 64) (hH : H ≤ 64) (hW0 : 0 < W) (hH0 : 0 < H) :
  Calls Tryd.prog 55 #[.agg #[.int .i64 (W), .int .i64 (H), .slice a n c]] w fun e w' => e = .returned (.tuple #[.int .i64 (longV true H W (turnL W H bs)), .int .i64 (longV false W H bs), .int .i64 (0)]) ∧ Below w.heap.size w w' := by
 have HT1 := Lib.hid (fun w h => Turned_any W H n hn a c bs w h hW hH)
 have HL1 := Lib.hid (fun w g h => longest_ok H W (some ⟨g, 0, none⟩) n n (by rw [hn, Nat.mul_comm]) (turnL W H bs) true w h hH hW hH0)
 have HL2 := Lib.hid (fun w h => longest_ok W H a n c hn bs false w h hW hH hW0)
 have HT := Lib.hid hT
 have hn0 : n ≠ 0 := by rw [hn]; have := Nat.mul_pos hW0 hH0; omega
 have hbn : ((n : Int) == 0) = false := by simp; omega
 clear hT hn hn0
 generalize turnL W H bs = tl at *
 generalize longV true H W tl = p1 at *
 generalize longV false W H bs = p2 at *
 go_enter Tryd.func55, Tryd.ntmps55
 go_wp2_with fail
 refine (HT1.out _ (HT.out.below blw)).mono ?_
 rintro r wx ⟨g1, rfl, hT1, hb⟩
 obtain ⟨E1, d1, rfl⟩ := bExt hb
 have HX := Lib.hid hT1
 clear hb hT1
 go_wp2_with fail
 (refine wp_region_ext (by kernel_rfl) (by kernel_rfl) ?_; (repeat (first | ((with_reducible refine ext_step (fun K hK => ?_)); go_simp; first | (refine hK _ ?_; clear hK K) | (apply Exists.intro; refine ⟨fun _ _ => ?_, hK _ ?_⟩; fail; clear hK K)))); ((with_reducible refine ext_step (fun K hK => ?_)); go_simp; (apply Exists.intro; refine ⟨fun _ _ => ?_, hK _ ?_⟩; (go_at_call 77; exact extOf (HL1.out _ g1 (HX.out.below blw))); clear hK K)); (repeat (first | ((with_reducible refine ext_step (fun K hK => ?_)); go_simp; first | (refine hK _ ?_; clear hK K) | (apply Exists.intro; refine ⟨fun _ _ => ?_, hK _ ?_⟩; fail; clear hK K)))); ((with_reducible refine ext_step (fun K hK => ?_)); go_simp; (apply Exists.intro; refine ⟨fun _ _ => ?_, hK _ ?_⟩; (go_at_call 77; exact extOf (HL2.out _ (HT.out.below blw))); clear hK K)); (repeat (first | ((with_reducible refine ext_step (fun K hK => ?_)); go_simp; first | (refine hK _ ?_; clear hK K) | (apply Exists.intro; refine ⟨fun _ _ => ?_, hK _ ?_⟩; fail; clear hK K)))); refine wpQuiet_nil ?_; intro E d)
 go_wp2
 refine bodyPost_ret (v := .tuple #[.int .i64 (p1), .int .i64 (p2), .int .i64 (0)]) (by simp [results, Tryd.results55, go_sem]) rfl ⟨rfl, blw⟩
end
section
open Go.RowKit
def byt (f : Nat → Bool) (j : Nat) : Nat := 128 * (f (8*j)).toNat + 64 * (f (8*j+1)).toNat + 32 * (f (8*j+2)).toNat + 16 * (f (8*j+3)).toNat + 8 * (f (8*j+4)).toNat + 4 * (f (8*j+5)).toNat + 2 * (f (8*j+6)).toNat + (f (8*j+7)).toNat
theorem toNat_le (b : Bool) : b.toNat ≤ 1 := by cases b <;> simp
theorem byt_lt (f : Nat → Bool) (j : Nat) : byt f j < 256 := by
 unfold byt
 have h0 := toNat_le (f (8*j)); have h1 := toNat_le (f (8*j+1)); have h2 := toNat_le (f (8*j+2)); have h3 := toNat_le (f (8*j+3))
 have h4 := toNat_le (f (8*j+4)); have h5 := toNat_le (f (8*j+5)); have h6 := toNat_le (f (8*j+6)); have h7 := toNat_le (f (8*j+7))
 omega
def punchL (r : List Bool) : List Nat := (List.range ((r.length + 7) / 8)).map (byt fun i => r.getD i false)
theorem punchL_len (r : List Bool) : (punchL r).length = (r.length + 7) / 8 := by simp [punchL]
theorem punchL_get {r : List Bool} {j : Nat} (h : j < (r.length + 7) / 8) : (punchL r).getD j 0 = byt (fun i => r.getD i false) j := by
 unfold punchL
 rw [List.getD_eq_getElem?_getD, List.getElem?_map, List.getElem?_range h]; rfl
def rlF (R : Nat → List Bool) (H y : Nat) : Nat → Nat → Nat
 | 0, n => n
 | f + 1, n => if y + n < H ∧ R y = R (y + n) then rlF R H y f (n + 1) else n
def runLen (R : Nat → List Bool) (H y : Nat) : Nat := rlF R H y (H + 1) 1
def cardsL (R : Nat → List Bool) (H : Nat) : Nat → Nat → List Nat
 | 0, _ => []
 | f + 1, y => if y < H then runLen R H y :: (punchL (R y) ++ cardsL R H f (y + runLen R H y)) else []
def chk (l : List Nat) : Nat := (256 - l.sum % 256) % 256
def hdrL (W H : Nat) : List Nat := [74, 81, 49, W, H]
def deckB (W H : Nat) (bs : List Bool) : List Nat := hdrL W H ++ cardsL (rowL bs W) H (H + 1) 0
def deckL (W H : Nat) (bs : List Bool) : List Nat := deckB W H bs ++ [chk (deckB W H bs)]
inductive CRes where
 | bad (at_ : Nat)
 | ok (bits : List Bool)
theorem chk_lt (l : List Nat) : chk l < 256 := by unfold chk; omega
theorem cards_done {R : Nat → List Bool} {H f y : Nat} (h : ¬ y < H) : cardsL R H f y = [] := by
 cases f with
 | zero => rfl
 | succ f => unfold cardsL; rw [if_neg h]
theorem rowL_len' (bs : List Bool) (W y : Nat) : (rowL bs W y).length = W := by simp [rowL]
end
section
open Go.RowKit
def IsB8 (w : World) (a : Option Addr) (n : Nat) (l : List Nat) : Prop :=
 l.length = n ∧ (0 < n → ∃ b o, a = some ⟨b, o, none⟩ ∧ b < w.heap.size ∧ ∀ j, j < n → w.cell? ⟨b, o + j, none⟩ = some (.int .u8 (l.getD j 0 : Nat)))
theorem IsB8.below {w w' : World} {a : Option Addr} {n : Nat} {l : List Nat} (h : IsB8 w a n l) (hb : Below w.heap.size w w') : IsB8 w' a n l := by
 refine ⟨h.1, fun hn => ?_⟩
 obtain ⟨b, o, h1, h2, h3⟩ := h.2 hn
 exact ⟨b, o, h1, Nat.lt_of_lt_of_le h2 hb.size, fun j hj => bCs hb (h3 j hj)⟩
theorem u8_nat (n : Nat) : IntKind.u8.wrap (n : Int) = ((n % 256 : Nat) : Int) := by rw [IntKind.wrap_u8]; omega
theorem take_sum {l : List Nat} {k : Nat} (hk : k < l.length) : (l.take (k+1)).sum = (l.take k).sum + l.getD k 0 := by
 rw [List.take_add_one, List.sum_append]; simp [List.getD, hk]
set_option maxRecDepth 100000 in
set_option maxHeartbeats 8000000 in
theorem sum_any (a : Option Addr) (n c : Nat) (l : List Nat) (w : World) (hi : IsB8 w a n l) (hn : n ≤ 9223372036854775807) (hl : ∀ x ∈ l, x < 256) :
  Calls Tryd.prog 27 #[.slice a n c] w fun e w' => e = .returned (.int .u8 ((l.sum % 256 : Nat))) ∧ Below w.heap.size w w' := by
 have HI := Lib.hid hi; have HL := Lib.hid hi.1; have HB := Lib.hid hl
 clear hi hl
 go_enter Tryd.func27, Tryd.ntmps27
 go_wp2_with fail
 go_loopw [8, 3] (fun i m wr => ∃ k : Nat, k ≤ n ∧ i = .int .i64 k ∧ m = .int .u8 (((l.take k).sum % 256 : Nat)) ∧ Below w.heap.size w wr) (fun i _ _ => n - (intOf i).toNat)
 case atStart => exact ⟨0, Nat.zero_le _, rfl, rfl, Below.refl _ _⟩
 case round =>
  obtain ⟨k, hk, rfl, rfl, hbel⟩ := hrel
  have HBL := Lib.hid hbel
  by_cases hkn : k < n
  ·obtain ⟨b, o, rfl, hb, hc⟩ := (HI.out.below hbel).2 (by omega)
   have c0 := hc k hkn
   have lb : LtW b wr := hb
   have hx : l.getD k 0 < 256 := HB.out _ (getD_memN (by rw [HL.out]; exact hkn))
   have HS := Lib.hid (take_sum (l := l) (k := k) (by rw [HL.out]; exact hkn))
   obtain ⟨x, hxe⟩ : ∃ x, l.getD k 0 = x := ⟨_, rfl⟩
   rw [hxe] at c0 hx HS
   obtain ⟨s, hs⟩ : ∃ s, (l.take k).sum % 256 = s := ⟨_, rfl⟩
   have hs2 : s < 256 := by omega
   have HSE := Lib.hid hs
   rw [hs]
   have v1 : IntKind.u8.wrap ((s : Int) + (x : Int)) = (((s + x) % 256 : Nat) : Int) := by rw [← Int.natCast_add, u8_nat]
   clear hc hb hxe hs hbel
   go_wp2
   go_roundw
   case rel => exact ⟨k + 1, by omega, by go_num, by rw [HS.out, Nat.add_mod, HSE.out, Nat.mod_eq_of_lt hx]; rfl, HBL.out⟩
   case measure => simp [intOf]; omega
  ·obtain rfl : n = k := by omega
   have HT : Hid (l.take n = l) := Lib.hid (List.take_of_length_le (by rw [HL.out]; exact Nat.le_refl _))
   go_wp2
   go_ret
   exact ⟨by rw [HT.out]; rfl, HBL.out⟩
theorem or8 : ∀ b0 b1 b2 b3 b4 b5 b6 b7 : Bool, ∀ k : Fin 8, [b0, b1, b2, b3, b4, b5, b6, b7].getD k.val false = false →
  (128 * b0.toNat + 64 * b1.toNat + 32 * b2.toNat + 16 * b3.toNat + 8 * b4.toNat + 4 * b5.toNat + 2 * b6.toNat + b7.toNat) ||| (128 / 2 ^ k.val) =
   128 * (b0 || k.val == 0).toNat + 64 * (b1 || k.val == 1).toNat + 32 * (b2 || k.val == 2).toNat + 16 * (b3 || k.val == 3).toNat + 8 * (b4 || k.val == 4).toNat + 4 * (b5 || k.val == 5).toNat + 2 * (b6 || k.val == 6).toNat + (b7 || k.val == 7).toNat := by decide +kernel
theorem byt_congr {f g : Nat → Bool} {j : Nat} (h : ∀ k, k < 8 → f (8*j+k) = g (8*j+k)) : byt f j = byt g j := by
 unfold byt
 have h0 := h 0 (by omega)
 rw [Nat.add_zero] at h0
 rw [h0, h 1 (by omega), h 2 (by omega), h 3 (by omega), h 4 (by omega), h 5 (by omega), h 6 (by omega), h 7 (by omega)]
theorem byt_or {f g : Nat → Bool} {j k : Nat} (hk : k < 8) (hf : f (8*j+k) = false) (hg : ∀ i, g i = (f i || i == 8*j+k)) : byt f j ||| (128 / 2 ^ k) = byt g j := by
 have h := or8 (f (8*j)) (f (8*j+1)) (f (8*j+2)) (f (8*j+3)) (f (8*j+4)) (f (8*j+5)) (f (8*j+6)) (f (8*j+7)) ⟨k, hk⟩
 have hk8 : k = 0 ∨ k = 1 ∨ k = 2 ∨ k = 3 ∨ k = 4 ∨ k = 5 ∨ k = 6 ∨ k = 7 := by omega
 have e : ∀ i, i < 8 → (8*j+i == 8*j+k) = (k == i) := fun i _ => by
  by_cases h : k = i
  ·subst h; simp
  ·rw [beq_eq_false_iff_ne.2 (by omega), beq_eq_false_iff_ne.2 h]
 refine Eq.trans (h ?_) ?_
 ·rcases hk8 with rfl | rfl | rfl | rfl | rfl | rfl | rfl | rfl <;> exact hf
 ·unfold byt
  have e0 := e 0 (by omega)
  rw [Nat.add_zero] at e0
  rw [hg, hg, hg, hg, hg, hg, hg, hg, e0, e 1 (by omega), e 2 (by omega), e 3 (by omega), e 4 (by omega), e 5 (by omega), e 6 (by omega), e 7 (by omega)]
theorem BelowX.extB {base mb : Nat} {W w : World} (h : BelowX base mb W w) (E : Array Obj) (d : Nat) : BelowX base mb W (extW w E d) :=
 have hb : Below w.heap.size w (extW w E d) := bExtW (Below.refl _ _) (Nat.le_refl _)
 ⟨hb.os.trans h.os, hb.tape.trans h.tape, hb.output.trans h.output, Nat.le_trans h.size hb.size, fun k hk hkm => (hb.block k (Nat.lt_of_lt_of_le hk h.size)).trans (h.block k hk hkm)⟩
def BytesPost (L : List Nat) (w : World) (r : Ending) (w' : World) : Prop := ∃ g, r = .returned (.slice (some ⟨g, 0, none⟩) L.length L.length) ∧ IsB8 w' (some ⟨g, 0, none⟩) L.length L ∧ Below w.heap.size w w' ∧ w.heap.size ≤ g
theorem okB8 : ElemOk 78 5 1 1 (.int .u8 0) := ⟨Tryd.underlying78, by kernel_rfl, rfl, by omega⟩
set_option maxRecDepth 100000 in
set_option maxHeartbeats 8000000 in
theorem punched_any (a : Option Addr) (n c : Nat) (r : List Bool) (w : World) (hi : IsBools w a n r) (hn : n ≤ 64) :
  Calls Tryd.prog 25 #[.slice a n c] w (BytesPost (punchL r) w) := by
 have hm : (n + 7) / 8 ≤ 8 := by omega
 have hmk := makeRow okB8 rfl ((n + 7) / 8) (by omega) (by omega)
 have HI := Lib.hid hi; have HL := Lib.hid hi.1
 have HM : Hid ((n + 7) / 8 * 8 ≤ n + 7 ∧ n + 7 < (n + 7) / 8 * 8 + 8) := Lib.hid (by omega)
 have v0 : IntKind.i64.wrap ((n : Int) + 7) = (n : Int) + 7 := IntWalk.i64_in _ (by omega)
 have v1 : IntKind.i64.wrap (((n : Int) + 7).tdiv 8) = (((n + 7) / 8 : Nat) : Int) := by rw [IntWalk.i64_quo _ _ (by omega)]; omega
 have v2 : ((n : Int) + 7).tdiv 8 = (((n + 7) / 8 : Nat) : Int) := by rw [Int.tdiv_eq_ediv_of_nonneg (by omega)]; omega
 have v3 : ((n : Int) + 7) / 8 = (((n + 7) / 8 : Nat) : Int) := by omega
 clear hi
 obtain ⟨m, hme⟩ : ∃ m, (n + 7) / 8 = m := ⟨_, rfl⟩
 rw [hme] at hm hmk HM v1 v2 v3
 have HME := Lib.hid hme
 clear hme
 go_enter Tryd.func25, Tryd.ntmps25
 go_wp2_with fail
 have hrow0 := World.rowIs_made w (.int .u8 0) m 5
 have hb1 : Below w.heap.size w (w.alloc (.cells (madeCells #[.int .u8 0] m) 5)) := blw
 have hs1 : (w.alloc (.cells (madeCells #[.int .u8 0] m) 5)).heap.size = w.heap.size + 1 := by simp
 generalize w.alloc (.cells (madeCells #[.int .u8 0] m) 5) = W1 at *
 generalize hgb : w.heap.size = gb at *
 have HGB := Lib.hid hgb
 clear hgb
 obtain ⟨base, hbase⟩ : ∃ b, b = W1.heap.size := ⟨_, rfl⟩
 have hord : gb < base := by omega
 have HBS := Lib.hid hbase; have HROW0 := Lib.hid hrow0
 have hB0 : Hid (∀ w', BelowX base gb W1 w' → Below w.heap.size w w') := Lib.hid fun w' h => by
  rw [HGB.out]
  exact hb1.trans ((h.below hbase.symm (Nat.le_refl _) hord).mono (by omega))
 clear hrow0 hb1 hs1 hbase
 go_loopw [13] (fun i wr => ∃ k : Nat, k ≤ n ∧ i = .int .i64 k ∧ wr.rowIs gb 5 m (fun j => .int .u8 ((byt (fun i => decide (i < k) && r.getD i false) j : Nat))) ∧ BelowX base gb W1 wr) (fun i _ => n - (intOf i).toNat)
 case atStart => exact ⟨0, Nat.zero_le _, rfl, HROW0.out.congr fun j hj => by simp [byt], BelowX.refl (by have := HBS.out; omega)⟩
 case round =>
  obtain ⟨k, hk, rfl, hrow, hbx⟩ := hrel
  have hbw := hB0.out _ hbx
  have HBW := Lib.hid hbw
  by_cases hkn : k < n
  ·obtain ⟨b, o, rfl, hbl, hc⟩ := (HI.out.below hbw).2 (by omega)
   have c0 := hc k hkn
   have lb : LtW b wr := hbl
   have hkm : k / 8 < m := by have := HM.out; omega
   have cg := hrow.cell hkm
   have fg := hrow.frozen (k / 8)
   have lg : LtW gb wr := hrow.lt
   obtain ⟨v, hv⟩ : ∃ v, byt (fun i => decide (i < k) && r.getD i false) (k / 8) = v := ⟨_, rfl⟩
   have hvl : v < 256 := by rw [← hv]; exact byt_lt _ _
   simp only [hv] at cg
   have HV := Lib.hid hv
   obtain ⟨bit, hbit⟩ : ∃ bit, r.getD k false = bit := ⟨_, rfl⟩
   rw [hbit] at c0
   have HBIT := Lib.hid hbit
   have HROW := Lib.hid hrow; have HBX := Lib.hid hbx
   clear hc hbl hrow hbx hbw hv hbit
   cases bit with
   | false =>
    go_wp2
    go_roundw
    case rel =>
     refine ⟨k + 1, by omega, by go_num, HROW.out.congr fun j hj => ?_, HBX.out⟩
     rw [byt_congr (f := fun i => decide (i < k) && r.getD i false) (g := fun i => decide (i < k + 1) && r.getD i false) fun i _ => ?_]
     show (decide (8 * j + i < k) && r.getD (8 * j + i) false) = (decide (8 * j + i < k + 1) && r.getD (8 * j + i) false)
     by_cases e : 8 * j + i = k
     ·rw [e, HBIT.out]; simp
     ·rw [show decide (8 * j + i < k) = decide (8 * j + i < k + 1) by congr 1; apply propext; omega]
    case measure => simp [intOf]; omega
   | true =>
    obtain ⟨qk, hqk⟩ : ∃ qk, k / 8 = qk := ⟨_, rfl⟩
    obtain ⟨rk, hrk⟩ : ∃ rk, k % 8 = rk := ⟨_, rfl⟩
    have hk8 : rk < 8 := by rw [← hrk]; exact Nat.mod_lt _ (by omega)
    have hdm : k = 8 * qk + rk := by omega
    have d1 : IntKind.i64.wrap ((k : Int).tdiv 8) = (qk : Int) := by rw [IntWalk.i64_quo _ _ (by omega)]; omega
    have d2 : (k : Int).tdiv 8 = (qk : Int) := by rw [Int.tdiv_eq_ediv_of_nonneg (by omega)]; omega
    have d3 : (k : Int) / 8 = (qk : Int) := by omega
    have d9 : IntKind.i64.wrap (qk : Int) = (qk : Int) := IntWalk.i64_in _ (by omega)
    have d10 : IntKind.i64.wrap (rk : Int) = (rk : Int) := IntWalk.i64_in _ (by omega)
    have d4 : (k : Int).tmod 8 = (rk : Int) := by rw [Int.tmod_eq_emod_of_nonneg (by omega)]; omega
    have d5 : (k : Int) % 8 = (rk : Int) := by omega
    obtain ⟨pw, hpw⟩ : ∃ pw, 128 / 2 ^ rk = pw := ⟨_, rfl⟩
    have hpl : pw < 256 := by rw [← hpw]; exact Nat.lt_of_le_of_lt (Nat.div_le_self _ _) (by omega)
    have d6 : (128 : Int) / 2 ^ min rk 8 = (pw : Int) := by
     rw [Nat.min_eq_left (by omega), ← hpw]
     simp
    have d8 : (128 : Int) / 2 ^ rk = (pw : Int) := by rw [← hpw]; simp
    obtain ⟨nv, hnv⟩ : ∃ nv, v ||| pw = nv := ⟨_, rfl⟩
    have d7 : bits .or .u8 (v : Int) (pw : Int) = (nv : Int) := by rw [← hnv]; exact (bits_nat .u8 8 (by decide) wraps_u8 v _ hvl hpl).2
    have HNV : Hid (nv = byt (fun i => decide (i < k + 1) && r.getD i false) qk) := Lib.hid (by
     rw [← hnv, ← hpw, ← HV.out, hqk]
     refine byt_or hk8 ?_ fun i => ?_
     ·rw [← hdm]; simp
     ·show (decide (i < k + 1) && r.getD i false) = ((decide (i < k) && r.getD i false) || (i == 8 * qk + rk))
      rw [← hdm]
      by_cases e : i = k
      ·subst e; rw [HBIT.out]; simp
      ·rw [beq_eq_false_iff_ne.2 e, Bool.or_false, show decide (i < k + 1) = decide (i < k) by congr 1; apply propext; omega])
    rw [hqk] at cg fg hkm
    have HQK := Lib.hid hqk
    clear hqk hrk hpw hnv hdm
    go_wp2_with fail
    (refine wp_region_ext_tail 10 (by kernel_rfl) (by kernel_rfl) ?_; simp only [List.take_succ_cons, List.take_zero, List.drop_succ_cons, List.drop_zero]; (repeat (first | ((with_reducible refine ext_step (fun K hK => ?_)); go_simp; first | (refine hK _ ?_; clear hK K) | (apply Exists.intro; refine ⟨fun _ _ => ?_, hK _ ?_⟩; fail; clear hK K)))); refine wpQuiet_nil ?_; intro E d)
    go_wp2
    go_roundw
    case rel =>
     refine ⟨k + 1, by omega, by go_num, (rowBelow (HROW.out.set qk (.int .u8 (nv : Nat))) (bExtW (Below.refl _ _) (Nat.le_refl _)) (by rw [World.size_setCell]; exact HROW.out.lt)).congr fun j hj => ?_, (HBX.out.set qk _).extB _ _⟩
     by_cases e : j = qk
     ·rw [if_pos e, e, HNV.out]
     ·rw [if_neg e]
      refine congrArg (fun x : Nat => Value.int .u8 (x : Int)) (byt_congr fun i hi => ?_)
      have h8 : 8 * j + i ≠ k := fun h => by have := HQK.out; omega
      show (decide (8 * j + i < k) && r.getD (8 * j + i) false) = (decide (8 * j + i < k + 1) && r.getD (8 * j + i) false)
      rw [show decide (8 * j + i < k) = decide (8 * j + i < k + 1) by congr 1; apply propext; omega]
    case measure => simp [intOf]; omega
  ·obtain rfl : n = k := by omega
   have hPL : (punchL r).length = m := by rw [punchL_len, HL.out, HME.out]
   have HP : Hid (IsB8 wr (some ⟨gb, 0, none⟩) m (punchL r)) := Lib.hid ⟨hPL, fun _ => ⟨gb, 0, rfl, hrow.lt, fun j hj => by
    rw [Nat.zero_add, hrow.cell hj]
    rw [punchL_get (by rw [HL.out, HME.out]; exact hj)]
    refine congrArg (fun x : Nat => some (Value.int .u8 (x : Int))) (byt_congr fun i hi => ?_)
    show (decide (8 * j + i < n) && r.getD (8 * j + i) false) = r.getD (8 * j + i) false
    by_cases e : 8 * j + i < n
    ·rw [decide_eq_true e, Bool.true_and]
    ·have : r.getD (8 * j + i) false = false := by
      rw [List.getD_eq_getElem?_getD, List.getElem?_eq_none (by rw [HL.out]; omega)]; rfl
     rw [this, Bool.and_false]⟩⟩
   have HPLL := Lib.hid hPL
   clear hrow hbx hPL hbw
   go_wp2
   go_ret
   unfold BytesPost
   rw [HPLL.out]
   exact ⟨gb, rfl, HP.out, HBW.out, by rw [HGB.out]; exact Nat.le_refl _⟩
end
end Go.Proofs.YtajdoobkfbdgoaaDoor
