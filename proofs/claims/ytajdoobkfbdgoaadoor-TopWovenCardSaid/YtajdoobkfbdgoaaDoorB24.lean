/- Lemmas on which the law of this seat rests; each states its own conditions. -/
import Derived.Test.YtajdoobkfbdgoaaDoorB23
import Derived.Test.YtajdoobkfbdgoaaDoorB08
import Derived.Test.YtajdoobkfbdgoaaDoorB07
import Derived.IntWalk
import Derived.Test.YtajdoobkfbdgoaaDoorB05
import Derived.Test.YtajdoobkfbdgoaaDoorB20
set_option linter.unusedVariables false
set_option linter.unusedSimpArgs false
namespace Go.Proofs.YtajdoobkfbdgoaaDoor
section
open Go.RowKit
open Go.Shelf Lo
attribute [local go_sem] Oper.semAt_some
structure LI (w : World) (q W H n : Nat) (a : Option Addr) (c : Nat) (of : Bool) (most : Nat) (W' : World) : Prop where
 ro : Boxed W' (q+1) 4 (.bool of)
 rs : Boxed W' (q+1+1) 3 (.int .i64 (0))
 rm : Boxed W' (q+1+1+1) 3 (.int .i64 (most))
 rt : W'.rowIs (q+1+1+1+1) 33 3 (tF W H (.slice a n c))
 bel : Below w.heap.size w W'
section
variable {w : World} {q W H n : Nat} {a : Option Addr} {c : Nat} {of : Bool} {most : Nat} {A B : World}
theorem LI.kept {row : Option Nat} (h : LI w q W H n a c of most A) (hg : A.grownBy B row) (hr : ∀ r, row = some r → w.heap.size ≤ r ∧ ∃ o : Obj, A.heap[r]? = some o ∧ o.isCells = false) : LI w q W H n a c of most B :=
 have hr' : ∀ r, row = some r → ∃ o : Obj, A.heap[r]? = some o ∧ o.isCells = false := fun r e => (hr r e).2
 ⟨box_kept h.ro hg hr', box_kept h.rs hg hr', box_kept h.rm hg hr', rowIs_kept h.rt hg hr', h.bel.grown hg h.bel.size (fun k e => (hr k e).1)⟩
theorem LI.below (h : LI w q W H n a c of most A) (hb : Below A.heap.size A B) : LI w q W H n a c of most B :=
 ⟨Boxed.below h.ro hb, Boxed.below h.rs hb, Boxed.below h.rm hb, rowBelow h.rt hb h.rt.lt, h.bel.trans (hb.mono h.bel.size)⟩
theorem LI.set (h : LI w q W H n a c of most A) (hw : w.heap.size ≤ q) (m : Nat) : LI w q W H n a c of m (A.setCell ⟨q+1+1+1, 0, none⟩ (.int .i64 (m))) :=
 ⟨Boxed.other h.ro (by omega) _, Boxed.other h.rs (by omega) _, h.rm.set _, h.rt.setOther (by simp) _, h.bel.setCell (p := ⟨q+1+1+1, 0, none⟩) (by simp; omega) _⟩
end
theorem lfLo20 {P : Prop} (h : P := by
 clear hme
 cases bit <;> (go_wp2_with fail) <;> gi_wp2
 all_goals
  go_roundw
  case rel => exact ⟨k + 1, by omega, by go_num, by rw [HS1.out]; go_num, by rw [HS1.out]; exact HLN, HKN⟩
  case measure => simp [intOf]; omega) : P := h
theorem lfLo21 {P : Prop} (h : P := by
 go_wp2_with fail
 gi_wp2
 go_roundw
 case rel => exact ⟨k + 1, by omega, by go_num, by rw [HS1.out]; rfl, by rw [HS1.out]; exact HL6, HK6⟩
 case measure => simp [intOf]; omega) : P := h
set_option maxRecDepth 100000 in
set_option maxHeartbeats 8000000 in
theorem longest_ok (W H : Nat) (a : Option Addr) (n c : Nat) (hn : n = W * H) (bs : List Bool) (of : Bool) (w : World) (hT : OkT w a n c bs) (hW : W ≤ 64) (hH : H ≤ 64) (hW0 : 0 < W) :
  Calls Tryd.prog 77 #[.agg #[.int .i64 (W), .int .i64 (H), .slice a n c], .bool of] w fun e w' => e = .returned (.int .i64 (longV of W H bs)) ∧ Below w.heap.size w w' := by
 have HT := Lib.hid hT
 have HN := Lib.hid hn
 have hcap := hT.cap
 have hlim := hT.lim
 clear hT hn
 refine (callsIn_wide (n := 9)).1 ?_
 refine callsIn_of_wp_marks Tryd.func77 rfl trivial ?_ rfl
 simp only [Tryd.ntmps77, List.size_toArray, List.length_cons, List.length_nil, Nat.reduceAdd, Nat.reduceSub, Array.replicate_succ, Array.replicate_zero, List.push_toArray, List.append_toArray, List.nil_append, List.cons_append]
 refine wpIn_wide.2 ?_
 go_wp2_with fail
 have h0 : (w.alloc (.cells #[.int .i64 (W), .int .i64 (H), .slice a n c] 33)).heap.size = w.heap.size + 1 := by simp
 have hro := Boxed.new (w.alloc (.cells #[.int .i64 (W), .int .i64 (H), .slice a n c] 33)) 4 (.bool of)
 have hrs := Boxed.new ((w.alloc (.cells #[.int .i64 (W), .int .i64 (H), .slice a n c] 33)).alloc (.cells #[.bool of] 4)) 3 (.int .i64 (0))
 have hrm := Boxed.new (((w.alloc (.cells #[.int .i64 (W), .int .i64 (H), .slice a n c] 33)).alloc (.cells #[.bool of] 4)).alloc (.cells #[.int .i64 (0)] 3)) 3 (.int .i64 (0))
 simp only [World.size_alloc] at hro hrs hrm
 refine (callsIn_wide.1 (rows_in W H a n c 9 _)).mono ?_
 rintro r w3 ⟨rfl, rfl⟩
 go_wp2_with fail
 have hrt := tF_alloc ((((w.alloc (.cells #[.int .i64 (W), .int .i64 (H), .slice a n c] 33)).alloc (.cells #[.bool of] 4)).alloc (.cells #[.int .i64 (0)] 3)).alloc (.cells #[.int .i64 (0)] 3)) W H (.slice a n c) rfl
 simp only [World.size_alloc] at hrt
 replace hro := ((hro.alloc (.cells #[.int .i64 (0)] 3)).alloc (.cells #[.int .i64 (0)] 3)).alloc (.cells #[.int .i64 (W), .int .i64 (H), .slice a n c] 33)
 replace hrs := (hrs.alloc (.cells #[.int .i64 (0)] 3)).alloc (.cells #[.int .i64 (W), .int .i64 (H), .slice a n c] 33)
 replace hrm := hrm.alloc (.cells #[.int .i64 (W), .int .i64 (H), .slice a n c] 33)
 have hbl : Below w.heap.size w (((((w.alloc (.cells #[.int .i64 (W), .int .i64 (H), .slice a n c] 33)).alloc (.cells #[.bool of] 4)).alloc (.cells #[.int .i64 (0)] 3)).alloc (.cells #[.int .i64 (0)] 3)).alloc (.cells #[.int .i64 (W), .int .i64 (H), .slice a n c] 33)) := blw
 have hs3 : (((((w.alloc (.cells #[.int .i64 (W), .int .i64 (H), .slice a n c] 33)).alloc (.cells #[.bool of] 4)).alloc (.cells #[.int .i64 (0)] 3)).alloc (.cells #[.int .i64 (0)] 3)).alloc (.cells #[.int .i64 (W), .int .i64 (H), .slice a n c] 33)).heap.size = w.heap.size + 5 := by simp
 generalize ((((w.alloc (.cells #[.int .i64 (W), .int .i64 (H), .slice a n c] 33)).alloc (.cells #[.bool of] 4)).alloc (.cells #[.int .i64 (0)] 3)).alloc (.cells #[.int .i64 (0)] 3)).alloc (.cells #[.int .i64 (W), .int .i64 (H), .slice a n c] 33) = W3 at *
 obtain ⟨q, hq⟩ : ∃ q, w.heap.size = q := ⟨_, rfl⟩
 rw [hq] at hro hrs hrm hrt hs3 ⊢
 have hwq : w.heap.size ≤ q := by omega
 have hLI : LI w q W H n a c of (foldG (rowG of W bs) ([] : List (Fin H))) W3 := ⟨hro, hrs, hrm, hrt, hbl⟩
 have hTB : TB (q+1+1+1+1) W H a n c bs W3 := TB.of_row hrt (HT.out.bits.below hbl)
 clear hro hrs hrm hrt hbl h0 hq
 refine (wpIn_wide (n := 9)).1 ?_
 refine wpIn_rangeFunc_ownG rfl (by omega) (gf := 57) (lb := #[.pointer (some ⟨q+1+1+1+1, 0, none⟩)]) rfl trivial (enters_of Tryd.func57 (by kernel_rfl) rfl)
  (rows_stops 8 (by omega) (q+1+1+1+1) W H a n c bs hW hH HN.out hcap hlim W3 hTB) (fun h k x => k (h x))
  (fun A l o o' _ ho hc _ x => x.kept (grownBy_putObj' A l o') (fun r e => by cases e; exact ⟨o, ho, hc⟩)) (Below.refl _ _) (fun _ => rfl)
  (fun pre W' => LI w q W H n a c of (foldG (rowG of W bs) pre) W') (fun c' pre W' => (c' = .ret ∧ ∃ y, y < H ∧ rowG of W bs y = 65) ∧ Boxed W' (q+1+1) 3 (.int .i64 (65)) ∧ Below w.heap.size w W')
  (fun s A B row hs hg hr => hs.kept hg (fun r e => ⟨by have := (hr r e).1; omega, (hr r e).2⟩))
  (fun c' s A B row hs hg hr => ⟨hs.1, box_kept hs.2.1 hg (fun r e => (hr r e).2), hs.2.2.grown hg hs.2.2.size (fun k e => by have := (hr k e).1; omega)⟩) hLI
  (fun x => { tmps := #[.agg #[.int .i64 (W), .int .i64 (H), .slice a n c], .bool of, .pointer (some ⟨q, 0, none⟩), .pointer (some ⟨q + 1, 0, none⟩), .pointer (some ⟨q + 1 + 1, 0, none⟩), .pointer (some ⟨q + 1 + 1 + 1, 0, none⟩), undef, rowV a c W x.val, undef, undef, undef, .agg #[.int .i64 (W), .int .i64 (H), .slice a n c], .func (.func 57) #[] #[.pointer (some ⟨q + 1 + 1 + 1 + 1, 0, none⟩)], .int .i64 ((x.val : Nat)), rowV a c W x.val, undef, undef, undef, undef, undef, undef, undef, undef, undef, undef, undef, undef, undef, undef, undef, undef, undef, undef, undef, undef, undef, undef, undef, undef, undef, undef, undef, undef, undef], defers := [] }) ?assign ?body ?done ?stop
 case assign =>
  intro l x W' K hK
  gi_wp2
  exact hK
 case body =>
  rintro l pre x W4 hL _
  obtain ⟨y, hy⟩ := x
  obtain ⟨A1, cc1, hrv, hrow⟩ := rowV_bools (a := a) (bs := bs) hcap HN.out hy
  simp only [hrv]
  have hfs := foldG_snoc (rowG of W bs) pre ⟨y, hy⟩
  have hfl := foldG_le (rowG of W bs) (B := 65) (fun y => rowG_le of W bs y) pre
  generalize foldG (rowG of W bs) pre = m0 at *
  obtain ⟨nof, hno⟩ : ∃ nof, (!of) = nof := ⟨_, rfl⟩
  have HNO := Lib.hid hno
  have hrb := (hrow W4 (HT.out.below hL.bel)).bits
  have HIX := Lib.hid (Index_any A1 W cc1 (rowL bs W y) nof W4 hrb (by omega))
  have hbi : bIdx (rowL bs W y) nof ≤ W := by have := List.findIdx_le_length (xs := rowL bs W y) (p := fun b => decide (b = nof)); rw [rowL_len] at this; exact this
  have co := hL.ro.cell
  have HL4 := Lib.hid hL; have HRW := Lib.hid hrow; have HFS := Lib.hid hfs
  clear hL hrow hfs hrb hrv
  by_cases hs : bIdx (rowL bs W y) nof < W
  ·obtain ⟨e1, _⟩ := bIdx_spec (r := rowL bs W y) (v := nof) (by rw [rowL_len]; exact hs)
   have hfe : rf of W bs y (bIdx (rowL bs W y) nof) = false := by
    unfold rf
    rw [Nat.mod_eq_of_lt hs, ← rowL_get bs hs, e1]
    rw [← HNO.out]; cases of <;> rfl
   have HIV : Hid (idxV W (bIdx (rowL bs W y) nof) = (bIdx (rowL bs W y) nof : Int)) := Lib.hid (if_pos hs)
   have HSM := Lib.hid (scan_max (most := m0) (rf_per of W bs y) hs hfe hW)
   have HG : Hid (rowG of W bs y = mxTo (fun x => crun (rf of W bs y) x 65) W) := Lib.hid rfl
   generalize bIdx (rowL bs W y) nof = s at *
   clear e1 hfe
   gi_wp2
   refine ⟨trivial, ?_⟩
   gi_at_call 94
   refine (CallsIn.inRound l (callsIn_wide.2 HIX.out)).mono ?_
   rintro e W5 ⟨rfl, rfl⟩
   rw [HIV.out]
   gi_wp2
   clear co hno
   gi_loopw [9, 23] (fun nn i wr => ∃ k : Nat, k ≤ W ∧ i = .int .i64 k ∧ nn = .int .i64 (scanTo (rf of W bs y) s m0 k).1 ∧ Hid (LI w q W H n a c of (scanTo (rf of W bs y) s m0 k).2 wr) ∧ Hid (KeepsOthers W4 wr)) (fun _ i _ => W - (intOf i).toNat)
   case atStart => exact ⟨0, Nat.zero_le _, rfl, rfl, HL4, Lib.hid (KeepsOthers.refl _)⟩
   case round =>
    obtain ⟨k, hk, rfl, rfl, HL, HKO⟩ := hrel
    by_cases hkW : k < W
    ·obtain ⟨b1, o1, rfl, hb1, hc1⟩ := (HRW.out _ (HT.out.below HL.out.bel)).bits.2 (by omega)
     obtain ⟨p, hp⟩ : ∃ p, (s + k) % W = p := ⟨_, rfl⟩
     have hpW : p < W := by rw [← hp]; exact Nat.mod_lt _ hW0
     have k1 := hc1 p hpW
     rw [rowL_get bs hpW] at k1
     have hri : ((s : Int) + (k : Int)).tmod (W : Int) = (p : Int) := by rw [← hp, Int.tmod_eq_emod_of_nonneg (by omega)]; rfl
     have hff : rf of W bs y (s + k) = decide (bs.getD (y * W + p) false = of) := by unfold rf; rw [hp]
     have co := HL.out.ro.cell
     have cm := HL.out.rm.cell
     have fm := HL.out.rm.frozen
     have HSL := Lib.hid (show scanTo (rf of W bs y) s m0 (k+1) = if rf of W bs y (s+k) then ((scanTo (rf of W bs y) s m0 k).1 + 1, max (scanTo (rf of W bs y) s m0 k).2 ((scanTo (rf of W bs y) s m0 k).1 + 1)) else (0, (scanTo (rf of W bs y) s m0 k).2) from rfl)
     have hsl := (scan_len (rf of W bs y) s m0 k).1
     have l1 : LtW b1 wr := hb1
     have lq : LtW (q+1) wr := HL.out.ro.lt
     have hN0 : ((W : Int) == 0) = false := by simp; omega
     have hN3 : ¬ W = 0 := by omega
     have v1 : IntKind.i64.wrap ((s : Int) + (k : Int)) = (s : Int) + (k : Int) := IntWalk.i64_in _ (by omega)
     have g0 : (0 : Int) ≤ (p : Int) := by omega
     have g1 : (p : Int) < (W : Int) := by omega
     generalize bs.getD (y * W + p) false = bit at *
     have HFF := Lib.hid hff
     clear hc1 hb1 hp hff
     generalize (scanTo (rf of W bs y) s m0 k).1 = nn at *
     generalize (scanTo (rf of W bs y) s m0 k).2 = mm at *
     gi_wp2
     (refine region_inRound (by kernel_rfl) (by kernel_rfl) (fun a w h => h) (any_region_ext_tail 10 (by kernel_rfl) (by kernel_rfl) ?_); simp only [List.take_succ_cons, List.take_zero, List.drop_succ_cons, List.drop_zero]; (repeat (first | ((with_reducible refine ext_step (fun K hK => ?_)); go_simp; first | (refine hK _ ?_; clear hK K) | (apply Exists.intro; refine ⟨fun _ _ => ?_, hK _ ?_⟩; fail; clear hK K)))); refine wpQuiet_nil ?_; intro E d)
     clear v1 hN0 hN3 hri k1
     have hbE : Below wr.heap.size wr (extW wr E d) := bExtW (Below.refl _ _) (Nat.le_refl _)
     have HL6 := Lib.hid (HL.out.below hbE)
     have HK6 := Lib.hid (HKO.out.trans (keepsOthers_of_below hbE))
     generalize extW wr E d = w6 at *
     clear co cm fm hbE l1 lq
     have cm : w6.cell? ⟨q+1+1+1, 0, none⟩ = some (.int .i64 (mm)) := HL6.out.rm.cell
     have fm := HL6.out.rm.frozen
     by_cases hbo : bit = of
     ·have hfv : rf of W bs y (s + k) = true := by rw [HFF.out]; simpa using hbo
      have HS1 : Hid (scanTo (rf of W bs y) s m0 (k+1) = (nn + 1, max mm (nn + 1))) := Lib.hid (by rw [HSL.out, if_pos hfv])
      clear hfv
      subst hbo
      have HLN := Lib.hid (HL6.out.set hwq (max mm (nn+1)))
      have HKN := Lib.hid (HK6.out.trans (KeepsOthers.setCell w6 ⟨q+1+1+1, 0, none⟩ (.int .i64 ((max mm (nn+1) : Nat)))))
      by_cases hmx : mm < nn + 1
      ·have hme : max mm (nn + 1) = nn + 1 := by omega
       have hmz : max (mm : Int) ((nn : Int) + 1) = ((nn + 1 : Nat) : Int) := by omega
       rw [hme] at HLN HKN HS1
       exact lfLo20
      ·have hme : max mm (nn + 1) = mm := by omega
       have hmz : max (mm : Int) ((nn : Int) + 1) = (mm : Int) := by omega
       rw [hme] at HLN HKN HS1
       exact lfLo20
     ·have hfv : rf of W bs y (s + k) = false := by rw [HFF.out]; simpa using hbo
      have HS1 : Hid (scanTo (rf of W bs y) s m0 (k+1) = (0, mm)) := Lib.hid (by rw [HSL.out, if_neg (by simp [hfv])])
      clear hfv cm fm
      cases bit <;> cases of
      ·exact absurd rfl hbo
      ·clear hbo
       exact lfLo21
      ·clear hbo
       exact lfLo21
      ·exact absurd rfl hbo
    ·obtain rfl : k = W := by omega
     have HE : Hid ((scanTo (rf of k bs y) s m0 k).2 = max m0 (rowG of k bs y)) := Lib.hid (by rw [HSM.out, HG.out])
     have HLF : Hid (LI w q k H n a c of (max m0 (rowG of k bs y)) wr) := Lib.hid (by rw [← HE.out]; exact HL.out)
     clear hbi
     generalize scanTo (rf of k bs y) s m0 k = sc at *
     gi_wp2
     refine ⟨HKO.out.from _, fun _ => TB.of_row HLF.out.rt (HT.out.below HLF.out.bel).bits, ?_⟩
     show LI _ _ _ _ _ _ _ _ (foldG (rowG of k bs) (pre ++ [⟨y, hy⟩])) _
     rw [HFS.out]; exact HLF.out
  ·have hbe : bIdx (rowL bs W y) nof = W := by omega
   have HIV : Hid (idxV W (bIdx (rowL bs W y) nof) = -1) := Lib.hid (if_neg hs)
   have HG : Hid (rowG of W bs y = 65) := Lib.hid (run_full hW0 fun i => by
    unfold rf
    have hiW : i % W < W := Nat.mod_lt _ hW0
    have h1 := List.not_of_lt_findIdx (xs := rowL bs W y) (p := fun b => decide (b = nof)) (i := i % W) (by show i % W < bIdx (rowL bs W y) nof; omega)
    have h2 : (rowL bs W y)[i % W]'(by rw [rowL_len]; exact hiW) = bs.getD (y * W + i % W) false := by
     rw [← rowL_get bs hiW, List.getD_eq_getElem?_getD, List.getElem?_eq_getElem (by rw [rowL_len]; exact hiW)]; rfl
    rw [h2] at h1
    simp only [decide_eq_false_iff_not] at h1
    rw [decide_eq_true_iff]
    rw [← HNO.out] at h1
    cases hb : bs.getD (y * W + i % W) false <;> cases of <;> simp_all)
   generalize bIdx (rowL bs W y) nof = s at *
   clear hbe hs
   have cs := HL4.out.rs.cell
   have fs := HL4.out.rs.frozen
   gi_wp2
   refine ⟨trivial, ?_⟩
   gi_at_call 94
   refine (CallsIn.inRound l (callsIn_wide.2 HIX.out)).mono ?_
   rintro e W5 ⟨rfl, rfl⟩
   rw [HIV.out]
   gi_wp2
   exact ⟨(KeepsOthers.setCell _ _ _).from _, ⟨rfl, y, hy, HG.out⟩, HL4.out.rs.set _, HL4.out.bel.setCell (p := ⟨q+1+1, 0, none⟩) (by simp; omega) _⟩
 case done =>
  rintro D ys W4 hD rfl hL hK
  rw [foldG_all] at hL
  have HV : Hid (longV of W H bs = mxTo (rowG of W bs) H) := Lib.hid rfl
  generalize mxTo (rowG of W bs) H = V at *
  have cm := hL.rm.cell
  have cs := hL.rs.cell
  have fs := hL.rs.frozen
  have HL := Lib.hid hL
  have HKD := Lib.hid hK
  clear hL hK
  go_wp2
  have hK1 := (KeepsOthers.setCell W4 ⟨q+1+1, 0, none⟩ (.int .i64 (V))).same D _ HKD.out rfl
  have hb4 := HL.out.bel.setCell (p := ⟨q+1+1, 0, none⟩) (by simp; omega) (.int .i64 (V))
  have hbx := HL.out.rs.set (.int .i64 (V))
  generalize W4.setCell ⟨q+1+1, 0, none⟩ (.int .i64 (V)) = W6 at *
  have hkk : ∀ r, some D = some r → ∃ o : Obj, W6.heap[r]? = some o ∧ o.isCells = false := fun r e => by cases e; exact ⟨_, hK1, rfl⟩
  refine ⟨by simp, .inl ⟨_, _, rfl, run_takeDeferred hK1, ?_⟩⟩
  have k0 := (box_kept hbx (grownBy_putObj' _ D (.deferred none)) hkk).cell
  refine ⟨.int .i64 (V), by simp [results, Tryd.f77, go_sem, k0], by rw [HV.out], ?_⟩
  exact hb4.trans (belowK_b (w := w) (Nat.le_refl _) W6 D _ _ (by omega) hK1 rfl rfl)
 case stop =>
  rintro D c' pre W4 hD _ ⟨⟨rfl, y, hy, hg⟩, hbx, hb4⟩ hK
  have HV : Hid (longV of W H bs = 65) := Lib.hid (Nat.le_antisymm (longV_le of W H bs) (by have := le_mxTo (g := rowG of W bs) hy; unfold longV; omega))
  have HKD := Lib.hid hK
  have HBX := Lib.hid hbx
  clear hbx hK hg
  gi_wp2
  have hkk : ∀ r, some D = some r → ∃ o : Obj, W4.heap[r]? = some o ∧ o.isCells = false := fun r e => by cases e; exact ⟨_, HKD.out, rfl⟩
  refine ⟨by simp, .inl ⟨_, _, rfl, run_takeDeferred HKD.out, ?_⟩⟩
  have k0 := (box_kept HBX.out (grownBy_putObj' _ D (.deferred none)) hkk).cell
  refine ⟨.int .i64 (65), by simp [results, Tryd.f77, go_sem, k0], by rw [HV.out]; rfl, ?_⟩
  exact hb4.trans (belowK_b (w := w) (Nat.le_refl _) W4 D _ _ (by omega) HKD.out rfl rfl)
end
section
open Go.RowKit
open Lo
set_option maxRecDepth 100000 in
set_option maxHeartbeats 8000000 in
theorem Floats_ok (W H n : Nat) (hn : n = W * H) (a : Option Addr) (c : Nat) (bs : List Bool) (w : World) (hT : OkT w a n c bs) (hW : W ≤ 64) (hH : H ≤ 64) (hW0 : 0 < W) (hH0 : 0 < H) :
  Calls Tryd.prog 55 #[.agg #[.int .i64 (W), .int .i64 (H), .slice a n c]] w fun e w' => e = .returned (.tuple #[.int .i64 (longV true H W (turnL W H bs)), .int .i64 (longV false W H bs), .int .i64 (0)]) ∧ Below w.heap.size w w' := by
 have HT1 := Lib.hid (fun w h => Turned_any W H n hn a c bs w h hW hH)
 have HL1 := Lib.hid (fun w g h => longest_ok H W (some ⟨g, 0, none⟩) n n (by rw [hn, Nat.mul_comm]) (turnL W H bs) true w h hH hW hH0)
 have HL2 := Lib.hid (fun w h => longest_ok W H a n c hn bs false w h hW hH hW0)
 have HT := Lib.hid hT
 have hn0 : n ≠ 0 := by rw [hn]; have := Nat.mul_pos hW0 hH0; omega
 have hbn : ((n : Int) == 0) = false := by simp; omega
 clear hT hn hn0
 generalize turnL W H bs = tl at *
 generalize longV true H W tl = p1 at *
 generalize longV false W H bs = p2 at *
 go_enter Tryd.func55, Tryd.ntmps55
 go_wp2_with fail
 refine (HT1.out _ (HT.out.below blw)).mono ?_
 rintro r wx ⟨g1, rfl, hT1, hb⟩
 obtain ⟨E1, d1, rfl⟩ := bExt hb
 have HX := Lib.hid hT1
 clear hb hT1
 go_wp2_with fail
 (refine wp_region_ext (by kernel_rfl) (by kernel_rfl) ?_; (repeat (first | ((with_reducible refine ext_step (fun K hK => ?_)); go_simp; first | (refine hK _ ?_; clear hK K) | (apply Exists.intro; refine ⟨fun _ _ => ?_, hK _ ?_⟩; fail; clear hK K)))); ((with_reducible refine ext_step (fun K hK => ?_)); go_simp; (apply Exists.intro; refine ⟨fun _ _ => ?_, hK _ ?_⟩; (go_at_call 77; exact extOf (HL1.out _ g1 (HX.out.below blw))); clear hK K)); (repeat (first | ((with_reducible refine ext_step (fun K hK => ?_)); go_simp; first | (refine hK _ ?_; clear hK K) | (apply Exists.intro; refine ⟨fun _ _ => ?_, hK _ ?_⟩; fail; clear hK K)))); ((with_reducible refine ext_step (fun K hK => ?_)); go_simp; (apply Exists.intro; refine ⟨fun _ _ => ?_, hK _ ?_⟩; (go_at_call 77; exact extOf (HL2.out _ (HT.out.below blw))); clear hK K)); (repeat (first | ((with_reducible refine ext_step (fun K hK => ?_)); go_simp; first | (refine hK _ ?_; clear hK K) | (apply Exists.intro; refine ⟨fun _ _ => ?_, hK _ ?_⟩; fail; clear hK K)))); refine wpQuiet_nil ?_; intro E d)
 go_wp2
 refine bodyPost_ret (v := .tuple #[.int .i64 (p1), .int .i64 (p2), .int .i64 (0)]) (by simp [results, Tryd.results55, go_sem]) rfl ⟨rfl, blw⟩
end
section
open Go.RowKit
def byt (f : Nat → Bool) (j : Nat) : Nat := 128 * (f (8*j)).toNat + 64 * (f (8*j+1)).toNat + 32 * (f (8*j+2)).toNat + 16 * (f (8*j+3)).toNat + 8 * (f (8*j+4)).toNat + 4 * (f (8*j+5)).toNat + 2 * (f (8*j+6)).toNat + (f (8*j+7)).toNat
theorem toNat_le (b : Bool) : b.toNat ≤ 1 := by cases b <;> simp
theorem byt_lt (f : Nat → Bool) (j : Nat) : byt f j < 256 := by
 unfold byt
 have h0 := toNat_le (f (8*j)); have h1 := toNat_le (f (8*j+1)); have h2 := toNat_le (f (8*j+2)); have h3 := toNat_le (f (8*j+3))
 have h4 := toNat_le (f (8*j+4)); have h5 := toNat_le (f (8*j+5)); have h6 := toNat_le (f (8*j+6)); have h7 := toNat_le (f (8*j+7))
 omega
def bitAt (v k : Nat) : Bool := decide ((v / 2 ^ (7 - k)) % 2 = 1)
theorem bit8 : ∀ b0 b1 b2 b3 b4 b5 b6 b7 : Bool, ∀ k : Fin 8, bitAt (128 * b0.toNat + 64 * b1.toNat + 32 * b2.toNat + 16 * b3.toNat + 8 * b4.toNat + 4 * b5.toNat + 2 * b6.toNat + b7.toNat) k.val = [b0, b1, b2, b3, b4, b5, b6, b7].getD k.val false := by decide +kernel
theorem byt_bit (f : Nat → Bool) (j k : Nat) (hk : k < 8) : bitAt (byt f j) k = f (8*j+k) := by
 have h := bit8 (f (8*j)) (f (8*j+1)) (f (8*j+2)) (f (8*j+3)) (f (8*j+4)) (f (8*j+5)) (f (8*j+6)) (f (8*j+7)) ⟨k, hk⟩
 refine Eq.trans h ?_
 have hk8 : k = 0 ∨ k = 1 ∨ k = 2 ∨ k = 3 ∨ k = 4 ∨ k = 5 ∨ k = 6 ∨ k = 7 := by omega
 rcases hk8 with rfl | rfl | rfl | rfl | rfl | rfl | rfl | rfl <;> rfl
def punchL (r : List Bool) : List Nat := (List.range ((r.length + 7) / 8)).map (byt fun i => r.getD i false)
def readRow (W : Nat) (h : Nat → Nat) : List Bool := (List.range W).map fun x => bitAt (h (x / 8)) (x % 8)
theorem punchL_len (r : List Bool) : (punchL r).length = (r.length + 7) / 8 := by simp [punchL]
theorem punchL_get {r : List Bool} {j : Nat} (h : j < (r.length + 7) / 8) : (punchL r).getD j 0 = byt (fun i => r.getD i false) j := by
 unfold punchL
 rw [List.getD_eq_getElem?_getD, List.getElem?_map, List.getElem?_range h]; rfl
theorem readRow_len (W : Nat) (h : Nat → Nat) : (readRow W h).length = W := by simp [readRow]
theorem readRow_congr {W : Nat} {h g : Nat → Nat} (e : ∀ j, j < (W + 7) / 8 → h j = g j) : readRow W h = readRow W g := by
 unfold readRow
 refine List.map_congr_left fun x hx => ?_
 rw [List.mem_range] at hx
 rw [e (x / 8) (by omega)]
theorem readRow_get {W : Nat} {h : Nat → Nat} {x : Nat} (hx : x < W) : (readRow W h).getD x false = bitAt (h (x / 8)) (x % 8) := by
 unfold readRow
 rw [List.getD_eq_getElem?_getD, List.getElem?_map, List.getElem?_range hx]; rfl
theorem eq_of_getB {l m : List Bool} {n : Nat} (h1 : l.length = n) (h2 : m.length = n) (h : ∀ j, j < n → l.getD j false = m.getD j false) : l = m := by
 apply List.ext_getElem (by omega)
 intro i p q
 have := h i (by omega)
 simpa [List.getD, p, q] using this
theorem read_punch {r : List Bool} {W : Nat} (hW : r.length = W) : readRow W (fun j => (punchL r).getD j 0) = r := by
 refine eq_of_getB (n := W) (readRow_len _ _) hW fun x hx => ?_
 rw [readRow_get hx, punchL_get (by omega), byt_bit _ _ _ (Nat.mod_lt _ (by omega)), Nat.div_add_mod]
def rlF (R : Nat → List Bool) (H y : Nat) : Nat → Nat → Nat
 | 0, n => n
 | f + 1, n => if y + n < H ∧ R y = R (y + n) then rlF R H y f (n + 1) else n
def runLen (R : Nat → List Bool) (H y : Nat) : Nat := rlF R H y (H + 1) 1
theorem rlF_spec {R : Nat → List Bool} {H y : Nat} : ∀ (f n : Nat), y + n ≤ H → H < y + n + f → (∀ i, i < n → R (y + i) = R y) →
  n ≤ rlF R H y f n ∧ y + rlF R H y f n ≤ H ∧ (∀ i, i < rlF R H y f n → R (y + i) = R y) ∧ (y + rlF R H y f n = H ∨ R y ≠ R (y + rlF R H y f n)) := by
 intro f
 induction f with
 | zero => intro n h1 h2 _; omega
 | succ f ih =>
  intro n h1 h2 h3
  unfold rlF
  by_cases h : y + n < H ∧ R y = R (y + n)
  ·rw [if_pos h]
   obtain ⟨a, b, c, d⟩ := ih (n + 1) (by omega) (by omega) (fun i hi => by
    by_cases e : i = n
    ·rw [e]; exact h.2.symm
    ·exact h3 i (by omega))
   exact ⟨by omega, b, c, d⟩
  ·rw [if_neg h]
   refine ⟨Nat.le_refl _, h1, h3, ?_⟩
   by_cases e : y + n < H
   ·exact .inr fun e2 => h ⟨e, e2⟩
   ·left; omega
theorem runLen_spec {R : Nat → List Bool} {H y : Nat} (hy : y < H) : 1 ≤ runLen R H y ∧ y + runLen R H y ≤ H ∧ (∀ i, i < runLen R H y → R (y + i) = R y) ∧ (y + runLen R H y = H ∨ R y ≠ R (y + runLen R H y)) :=
 rlF_spec (H + 1) 1 (by omega) (by omega) fun i hi => by
  obtain rfl : i = 0 := by omega
  rfl
def cardsL (R : Nat → List Bool) (H : Nat) : Nat → Nat → List Nat
 | 0, _ => []
 | f + 1, y => if y < H then runLen R H y :: (punchL (R y) ++ cardsL R H f (y + runLen R H y)) else []
def chk (l : List Nat) : Nat := (256 - l.sum % 256) % 256
def hdrL (W H : Nat) : List Nat := [74, 81, 49, W, H]
def deckB (W H : Nat) (bs : List Bool) : List Nat := hdrL W H ++ cardsL (rowL bs W) H (H + 1) 0
def deckL (W H : Nat) (bs : List Bool) : List Nat := deckB W H bs ++ [chk (deckB W H bs)]
inductive CRes where
 | bad (at_ : Nat)
 | ok (bits : List Bool)
def unF (B : List Nat) (W H : Nat) : Nat → Nat → Nat → List Bool → List Bool → CRes
 | 0, _, p, _, _ => .bad p
 | f + 1, y, p, last, acc =>
  if y < H then
   if p = B.length ∨ B.getD p 0 = 0 ∨ H - y < B.getD p 0 then .bad p
   else if B.length < p + 1 + (W + 7) / 8 then .bad B.length
   else if punchL (readRow W fun j => B.getD (p + 1 + j) 0) ≠ (B.drop (p + 1)).take ((W + 7) / 8) ∨ (0 < y ∧ readRow W (fun j => B.getD (p + 1 + j) 0) = last) then .bad p
   else unF B W H f (y + B.getD p 0) (p + 1 + (W + 7) / 8) (readRow W fun j => B.getD (p + 1 + j) 0) (acc ++ (List.replicate (B.getD p 0) (readRow W fun j => B.getD (p + 1 + j) 0)).flatten)
  else if p = B.length ∨ B.getD p 0 ≠ chk (B.take p) then .bad p
  else if p + 1 < B.length then .bad (p + 1)
  else .ok acc
theorem chk_lt (l : List Nat) : chk l < 256 := by unfold chk; omega
theorem cards_done {R : Nat → List Bool} {H f y : Nat} (h : ¬ y < H) : cardsL R H f y = [] := by
 cases f with
 | zero => rfl
 | succ f => unfold cardsL; rw [if_neg h]
theorem rows_flat_len {R : Nat → List Bool} {W : Nat} (hR : ∀ y, (R y).length = W) (n : Nat) : ((List.range n).map R).flatten.length = n * W := by
 induction n with
 | zero => simp
 | succ n ih => rw [List.range_succ, List.map_append, List.flatten_append, List.length_append, ih]; simp [hR, Nat.add_mul]
theorem rows_add {R : Nat → List Bool} {y : Nat} : ∀ n, (∀ i, i < n → R (y + i) = R y) → ((List.range (y + n)).map R).flatten = ((List.range y).map R).flatten ++ (List.replicate n (R y)).flatten := by
 intro n
 induction n with
 | zero => intro _; simp
 | succ n ih =>
  intro h
  rw [← Nat.add_assoc, List.range_succ, List.map_append, List.flatten_append, ih (fun i hi => h i (by omega)), List.replicate_succ', List.flatten_append, ← List.append_assoc]
  simp [h n (by omega)]
theorem unF_deck {R : Nat → List Bool} {W H : Nat} {B : List Nat} (hR : ∀ y, (R y).length = W) (hc : B.getD (B.length - 1) 0 = chk (B.take (B.length - 1))) :
  ∀ (f g y p : Nat) (last acc : List Bool), y ≤ H → H < y + f → H < y + g → p < B.length → B.drop p = cardsL R H f y ++ [B.getD (B.length - 1) 0] → acc = ((List.range y).map R).flatten → (0 < y → y < H → R y ≠ last) →
   unF B W H g y p last acc = .ok ((List.range H).map R).flatten := by
 intro f
 induction f with
 | zero => intro g y p last acc h1 h2; omega
 | succ f ih =>
  intro g y p last acc h1 h2 h3 hp hd ha hl
  obtain ⟨g, rfl⟩ : ∃ g', g = g' + 1 := ⟨g - 1, by omega⟩
  unfold unF
  by_cases hy : y < H
  ·rw [if_pos hy]
   unfold cardsL at hd
   rw [if_pos hy] at hd
   obtain ⟨n1, n2, n3, n4⟩ := runLen_spec (R := R) hy
   obtain ⟨n, hn⟩ : ∃ n, runLen R H y = n := ⟨_, rfl⟩
   rw [hn] at hd n1 n2 n3 n4
   have hlen := congrArg List.length hd
   simp only [List.length_drop, List.length_append, List.length_cons, List.length_nil, punchL_len, hR] at hlen
   have get : ∀ j, B.getD (p + j) 0 = (n :: (punchL (R y) ++ cardsL R H f (y + n)) ++ [B.getD (B.length - 1) 0]).getD j 0 := fun j => by
    rw [← hd, List.getD_eq_getElem?_getD, List.getD_eq_getElem?_getD, List.getElem?_drop]
   have g0 : B.getD p 0 = n := by have := get 0; simpa using this
   have gj : ∀ j, j < (W + 7) / 8 → B.getD (p + 1 + j) 0 = (punchL (R y)).getD j 0 := fun j hj => by
    have := get (1 + j)
    rw [← Nat.add_assoc] at this
    rw [this, Nat.add_comm 1 j, List.cons_append, List.getD_cons_succ, List.append_assoc, List.getD_eq_getElem?_getD, List.getElem?_append_left (by rw [punchL_len, hR]; exact hj), ← List.getD_eq_getElem?_getD]
   have hrow : readRow W (fun j => B.getD (p + 1 + j) 0) = R y := (readRow_congr gj).trans (read_punch (hR y))
   have htake : (B.drop (p + 1)).take ((W + 7) / 8) = punchL (R y) := by
    rw [← List.drop_drop, hd, List.cons_append, List.drop_succ_cons, List.drop_zero, List.append_assoc, List.take_append_of_le_length (by rw [punchL_len, hR]; exact Nat.le_refl _), List.take_of_length_le (by rw [punchL_len, hR]; exact Nat.le_refl _)]
   rw [if_neg (by rw [g0]; omega), if_neg (by omega), hrow, htake, if_neg (by rintro (h | ⟨h, h'⟩); exact h rfl; exact hl h hy h'), g0]
   refine ih g (y + n) _ _ _ n2 (by omega) (by omega) (by omega) ?_ (by rw [rows_add n n3, ha]) (fun _ h => ?_)
   ·rw [show p + 1 + (W + 7) / 8 = p + (1 + (W + 7) / 8) by omega, ← List.drop_drop, hd, Nat.add_comm 1, List.cons_append, List.drop_succ_cons, List.append_assoc, List.drop_left' (by rw [punchL_len, hR])]
   ·rcases n4 with h5 | h5
    ·omega
    ·exact fun e => h5 e.symm
  ·rw [if_neg hy]
   have e : cardsL R H (f + 1) y = [] := cards_done hy
   rw [e, List.nil_append] at hd
   have hlen := congrArg List.length hd
   simp only [List.length_drop, List.length_cons, List.length_nil] at hlen
   have hpe : p = B.length - 1 := by omega
   rw [if_neg (by rintro (h | h); omega; exact h (by rw [hpe]; exact hc)), if_neg (by omega), ha, show y = H by omega]
theorem rep_len {row : List Bool} {W n : Nat} (hW : row.length = W) : (List.replicate n row).flatten.length = n * W := by
 rw [List.length_flatten]; simp [hW]
def unp (B : List Nat) : CRes × Nat × Nat :=
 if 0 = B.length ∨ B.getD 0 0 ≠ 74 then (.bad 0, 0, 0)
 else if 1 = B.length ∨ B.getD 1 0 ≠ 81 then (.bad 1, 0, 0)
 else if 2 = B.length ∨ B.getD 2 0 ≠ 49 then (.bad 2, 0, 0)
 else if 3 = B.length ∨ 64 < B.getD 3 0 then (.bad 3, 0, 0)
 else if 4 = B.length ∨ 64 < B.getD 4 0 then (.bad 4, 0, 0)
 else (unF B (B.getD 3 0) (B.getD 4 0) (B.getD 4 0 + 1) 0 5 [] [], B.getD 3 0, B.getD 4 0)
theorem rowL_len' (bs : List Bool) (W y : Nat) : (rowL bs W y).length = W := by simp [rowL]
theorem rows_of {W H : Nat} {bs : List Bool} (hl : bs.length = W * H) : ((List.range H).map (rowL bs W)).flatten = bs := by
 have hlen : ((List.range H).map (rowL bs W)).flatten.length = W * H := by rw [rows_flat_len (W := W) (fun y => rowL_len' bs W y), Nat.mul_comm]
 refine grid_ext (W := W) (H := H) hlen hl fun y x hy hx => ?_
 have := grid_get (l := List.range H) (m := List.range W) (f := fun a b => bs.getD (a * W + b) false) (y := y) (x := x) (by simpa using hy) (by simpa using hx)
 rw [List.length_range] at this
 refine Eq.trans this ?_
 simp [List.getD, hy, hx]
theorem deckB_len (W H : Nat) (bs : List Bool) : 5 ≤ (deckB W H bs).length := by unfold deckB hdrL; simp
theorem unp_deck {W H : Nat} {bs : List Bool} (hW : W ≤ 64) (hH : H ≤ 64) (hl : bs.length = W * H) : unp (deckL W H bs) = (.ok bs, W, H) := by
 have h5 := deckB_len W H bs
 have hlen : (deckL W H bs).length = (deckB W H bs).length + 1 := by simp [deckL]
 have g : ∀ j, j < 5 → (deckL W H bs).getD j 0 = (hdrL W H).getD j 0 := fun j hj => by
  unfold deckL deckB
  rw [List.append_assoc, List.getD_eq_getElem?_getD, List.getElem?_append_left (by simpa [hdrL] using hj), ← List.getD_eq_getElem?_getD]
 have e1 : (deckL W H bs).length - 1 = (deckB W H bs).length := by omega
 have e2 : (deckL W H bs).getD ((deckL W H bs).length - 1) 0 = chk ((deckL W H bs).take ((deckL W H bs).length - 1)) := by
  rw [e1]
  unfold deckL
  rw [List.getD_eq_getElem?_getD, List.getElem?_append_right (Nat.le_refl _), Nat.sub_self, List.take_append_of_le_length (Nat.le_refl _), List.take_of_length_le (Nat.le_refl _)]
  rfl
 unfold unp
 rw [g 0 (by omega), g 1 (by omega), g 2 (by omega), g 3 (by omega), g 4 (by omega)]
 rw [show (hdrL W H).getD 0 0 = 74 from rfl, show (hdrL W H).getD 1 0 = 81 from rfl, show (hdrL W H).getD 2 0 = 49 from rfl, show (hdrL W H).getD 3 0 = W from rfl, show (hdrL W H).getD 4 0 = H from rfl]
 rw [if_neg (by omega), if_neg (by omega), if_neg (by omega), if_neg (by omega), if_neg (by omega)]
 have hd : (deckL W H bs).drop 5 = cardsL (rowL bs W) H (H + 1) 0 ++ [(deckL W H bs).getD ((deckL W H bs).length - 1) 0] := by
  rw [e2, e1]
  unfold deckL
  rw [List.take_append_of_le_length (Nat.le_refl _), List.take_of_length_le (Nat.le_refl _)]
  conv => lhs; unfold deckB
  rw [List.append_assoc, List.drop_left' (by simp [hdrL])]; rfl
 rw [unF_deck (fun y => rowL_len' bs W y) e2 (H + 1) (H + 1) 0 5 [] [] (by omega) (by omega) (by omega) (by omega) hd rfl (fun h => by omega), rows_of hl]
end
end Go.Proofs.YtajdoobkfbdgoaaDoor
