/- Lemmas and contracts of functions (what each call returns, and that it changes nothing that was there) that the proof of a law of this seat uses; each lemma states its own conditions. -/
import Derived.Test.YtooilennejakhaaB49
namespace Go.Proofs.Ytooilennejakhaa
open Go.RowKit
set_option linter.unusedVariables false
set_option linter.unusedSimpArgs false
open Z (torN place pnt Mv To lin okT nrm keepB colP idm md redM both inv movd movdL SameSig dyeL layL pieceL)
theorem FM.appV {mb T nc k e : Nat} {f : Value → Nat → Value} {L N : List Value} {W1 w WE w2 : World} {v v' : Value} (h : FM mb T nc f e L W1 v w) (hE : Below w.heap.size w WE)
    (hown : w2.ownsRow W1.heap.size e 1 v' (L.length + N.length) (L ++ N)) (hg : WE.grownBy w2 v.ownBlock) (hat : v'.ownBlock = v.ownBlock ∨ v'.ownBlock = some WE.heap.size) (hf : ∀ i, i < nc → (if i = k then v' else f v i) = f v' i) :
    FM mb T nc f e (L ++ N) W1 v' (w2.setCell ⟨mb, k, none⟩ v') := by
  have hlt : mb < w.heap.size := h.row.lt
  have hE2 := hE.size
  have hne : v'.ownBlock ≠ some mb := by
    rcases hat with e1 | e1
    · rw [e1]; exact h.ne
    · rw [e1]; intro e2; injection e2 with e2; omega
  refine ⟨?_, ?_, hne, ?_, h.mb1⟩
  · exact (((rowBelow h.row hE hlt).of_block (hg.block mb (by omega) (fun e => h.ne e.symm))).set k _).congr fun i hi => hf i hi
  · rw [List.length_append]
    exact own_setOther hown hne
  · refine Below.setCell ((h.bel.trans (hE.mono h.bel.size)).grown hg (Nat.le_trans h.bel.size hE2) (fun k hk => (h.own.lt k hk).1)) h.mb1 _
set_option maxRecDepth 100000 in
set_option maxHeartbeats 8000000 in
theorem kmov_fine (G W H n : Nat) (a : Option Addr) (c : Nat) (cs : List Int) (t : Int) (f : Bool) (ox oy add wide high : Int) (w : World) (hI : IsInts w a n cs) (h : ChOk G W H n cs) (h24 : torN W H ≤ 24) (ht : (-9223372036854775808 ≤ t ∧ t ≤ 9223372036854775807)) (hx : (-9223372036854775808 ≤ ox ∧ ox ≤ 9223372036854775807)) (hy : (-9223372036854775808 ≤ oy ∧ oy ≤ 9223372036854775807)) (had : (-9223372036854775808 ≤ add ∧ add ≤ 9223372036854775807)) (hwi : (-9223372036854775808 ≤ wide ∧ wide ≤ 9223372036854775807)) (hhi : (-9223372036854775808 ≤ high ∧ high ≤ 9223372036854775807)) (hnc : n ≤ c) (hcm : c ≤ 9223372036854775807) :
    Calls Try.prog 6 #[.agg #[.int .i64 (G), .int .i64 (W), .int .i64 (H), .slice a n c], .agg #[.int .i64 (t), .bool (f), .int .i64 (ox), .int .i64 (oy)], .int .i64 (add), .int .i64 (wide), .int .i64 (high)] w fun r w' => r = .returned (.bool true) ∧ Below w.heap.size w w' := by
  obtain ⟨K, hK⟩ := KindIs.ex h h24
  have hn4 := h.n4
  have hw1 := h.w1; have hw2 := h.w2; have hh1 := h.h1; have hh2 := h.h2
  have hlen : cs.length = n := hI.1
  have HCR := Lib.hid h.cr
  have HLN : Hid (cs.length = W * H) := Lib.hid (by rw [hlen, h.hn])
  have HK0 := Lib.hid (fun w (hI : IsInts w a n cs) => Kind_is (c := c) hI h hK)
  obtain ⟨G', N', M', mm, LM, em, hMV, hMK⟩ := mov_kind G W H n a c cs t f ox oy h h24 ht hx hy hK
  have HMV := Lib.hid hMV
  unfold MdPost at HMV
  -- the colours
  obtain ⟨am, ham⟩ : ∃ am, add.tmod 62 = am := ⟨_, rfl⟩
  have hamb : -62 < am ∧ am < 62 := by
    have h1 := Int.tmod_lt_of_pos add (show (0 : Int) < 62 by omega)
    have h2 := Int.lt_tmod_of_pos add (show (0 : Int) < 62 by omega)
    omega
  obtain ⟨A, hA⟩ : ∃ A : Nat, (am + 62).tmod 62 = A := by
    have h1 := Int.tmod_nonneg 62 (show 0 ≤ am + 62 by omega)
    exact ⟨((am + 62).tmod 62).toNat, by omega⟩
  have hA62 : A < 62 := by
    have h1 := Int.tmod_lt_of_pos (am + 62) (show (0 : Int) < 62 by omega)
    omega
  have v1 : IntKind.i64.wrap am = am := IntWalk.i64_in _ (by omega)
  have v2 : IntKind.i64.wrap (am + 62) = am + 62 := IntWalk.i64_in _ (by omega)
  have v3 : IntKind.i64.wrap (A : Int) = (A : Int) := IntWalk.i64_in _ (by omega)
  have hX : ChOk G W H n (dyeL A cs) := ⟨h.g, h.w1, h.w2, h.h1, h.h2, h.hn, Z.dyeL_mem⟩
  have HKX : Hid (∀ A' C w, IsInts w A' n (dyeL A cs) → Calls Try.prog 8 #[.agg #[.int .i64 (G), .int .i64 (W), .int .i64 (H), .slice A' n C]] w fun r w' => r = .returned (.tuple #[.int .i64 (K), .int .i64 (0)]) ∧ Below w.heap.size w w') := Lib.hid fun A' C w hI => Kind_is hI hX (hK.same h hX h24 (Z.dye_sig h.w1 h.h1 (by rw [hlen, h.hn]) h.cr))
  have HDT : Hid (∀ i, i < n → (dyeL A cs).take (i + 1) = (dyeL A cs).take i ++ [(cs.getD i 0 + A) % 62]) := Lib.hid fun i hi => Z.dyeL_take (by omega)
  have HDL : Hid ((dyeL A cs).length = n) := Lib.hid (by rw [Z.dyeL_len, hlen])
  -- laid out
  have HKY : Hid (∀ wd hg : Nat, 0 < wd → 0 < hg → wd * W ≤ 24 → hg * H ≤ 24 → ∀ A' C, ∃ k e : Int, (e = 4 ∨ e = 0 ∧ k = K) ∧ ∀ w, IsInts w A' (hg * H * wd * W) (layL W H cs wd (hg * H * wd)) → Calls Try.prog 8 #[.agg #[.int .i64 (G), .int .i64 ((wd * W : Nat)), .int .i64 ((hg * H : Nat)), .slice A' (hg * H * wd * W) C]] w fun r w' => r = .returned (.tuple #[.int .i64 (k), .int .i64 (e)]) ∧ Below w.heap.size w w') := Lib.hid fun wd hg k1 k2 k3 k4 A' C => by
    have hY : ChOk G (wd * W) (hg * H) (hg * H * wd * W) (layL W H cs wd (hg * H * wd)) := ⟨h.g, Nat.mul_pos k1 h.w1, by omega, Nat.mul_pos k2 h.h1, by omega, by rw [Nat.mul_assoc (hg * H), Nat.mul_comm], Z.layL_mem (P := fun x => 0 ≤ x ∧ x < 62) h.cr _⟩
    refine Kind_or hY fun h24' => hK.same h hY h24' ?_
    refine Z.sig_dyed fun y z => ?_
    rw [Z.lay_col h.w1 h.h1 k1 k2 (by rw [hlen, h.hn]), Z.lay_col h.w1 h.h1 k1 k2 (by rw [hlen, h.hn])]
  have k6 : (K != K) = false := by simp
  have k7 : (K == K) = true := by simp
  obtain ⟨q, hq⟩ : ∃ q, w.heap.size = q := ⟨_, rfl⟩
  have hr0 := row4 w (.int .i64 (G)) (.int .i64 (W)) (.int .i64 (H)) (.slice a n c) 24
  have hwa : (w.alloc (.cells #[.int .i64 (G), .int .i64 (W), .int .i64 (H), .slice a n c] 24)).heap.size = q + 1 := by simp [hq]
  have hm0 := row4 (w.alloc (.cells #[.int .i64 (G), .int .i64 (W), .int .i64 (H), .slice a n c] 24)) (.int .i64 t) (.bool f) (.int .i64 ox) (.int .i64 oy) 39
  have hb00 : Below w.heap.size w ((w.alloc (.cells #[.int .i64 (G), .int .i64 (W), .int .i64 (H), .slice a n c] 24)).alloc (.cells #[.int .i64 t, .bool f, .int .i64 ox, .int .i64 oy] 39)) := (by repeat (first | exact Below.refl _ _ | refine Below.drew ?_ | refine below_drewN ?_ _ | refine Below.alloc ?_ (by first | exact Nat.le_refl _ | (simp; done) | (simp; omega) | omega) _ | refine Below.setCell ?_ (by first | exact Nat.le_refl _ | (simp; done) | (simp; omega) | omega) _ | refine bExtW ?_ (by first | exact Nat.le_refl _ | (simp; done) | (simp; omega) | omega) | refine Below.trans ?_ (Below.mono (by assumption) (by first | exact Nat.le_refl _ | (simp; done) | (simp; omega) | omega))))
  have hr00 := rowBelow hr0 (w' := (w.alloc (.cells #[.int .i64 (G), .int .i64 (W), .int .i64 (H), .slice a n c] 24)).alloc (.cells #[.int .i64 t, .bool f, .int .i64 ox, .int .i64 oy] 39)) ((Below.refl _ _).alloc (Nat.le_refl _) _) (by rw [hwa, hq]; omega)
  rw [hwa] at hm0
  rw [hq] at hr00 hb00
  have HR0 := Lib.hid hr00; have HM0 := Lib.hid hm0; have HB0 := Lib.hid hb00; have HQ := Lib.hid hq
  have HI := Lib.hid hI
  clear hI h ht hx hy had hK hMV hX hlen hr0 hr00 hm0 hb00 hwa
  go_enter Try.func6, Try.ntmps6
  (go_wp2_with fail; refine (alive4_any _).mono ?_; rintro r w1 ⟨rfl, hb⟩; obtain ⟨E, d, rfl⟩ := bExt hb; clear hb)
  try rw [hq]
  have HI0 : Hid (IsInts (extW ((w.alloc (.cells #[.int .i64 (G), .int .i64 (W), .int .i64 (H), .slice a n c] 24)).alloc (.cells #[.int .i64 t, .bool f, .int .i64 ox, .int .i64 oy] 39)) E d) a n cs) := Lib.hid (HI.out.below (bExtW (by repeat (first | exact Below.refl _ _ | refine Below.drew ?_ | refine below_drewN ?_ _ | refine Below.alloc ?_ (by first | exact Nat.le_refl _ | (simp; done) | (simp; omega) | omega) _ | refine Below.setCell ?_ (by first | exact Nat.le_refl _ | (simp; done) | (simp; omega) | omega) _ | refine bExtW ?_ (by first | exact Nat.le_refl _ | (simp; done) | (simp; omega) | omega) | refine Below.trans ?_ (Below.mono (by assumption) (by first | exact Nat.le_refl _ | (simp; done) | (simp; omega) | omega)))) (by simp; omega)))
  clear hq
  generalize (w.alloc (.cells #[.int .i64 (G), .int .i64 (W), .int .i64 (H), .slice a n c] 24)).alloc (.cells #[.int .i64 t, .bool f, .int .i64 ox, .int .i64 oy] 39) = W0 at *
  have hr1 := rowBelow HR0.out (w' := extW W0 E d) (bExtW (Below.refl _ _) (Nat.le_refl _)) HR0.out.lt
  have hm1 := rowBelow HM0.out (w' := extW W0 E d) (bExtW (Below.refl _ _) (Nat.le_refl _)) HM0.out.lt
  have HB1 : Hid (Below q w (extW W0 E d)) := Lib.hid (bExtW HB0.out (Nat.le_of_lt HR0.out.lt))
  generalize extW W0 E d = W1 at *
  have q0 : (W1).cell? ⟨q, 0, none⟩ = some (.int .i64 (G)) := (hr1).cell (i := 0) (by omega)
  have q1 : (W1).cell? ⟨q, 1, none⟩ = some (.int .i64 (W)) := (hr1).cell (i := 1) (by omega)
  have q2 : (W1).cell? ⟨q, 2, none⟩ = some (.int .i64 (H)) := (hr1).cell (i := 2) (by omega)
  have q3 : (W1).cell? ⟨q, 3, none⟩ = some (.slice a n c) := (hr1).cell (i := 3) (by omega)
  have lq : LtW q W1 := (hr1).lt
  have HR1 := Lib.hid hr1; have HM1 := Lib.hid hm1
  clear hr1 hm1
  go_wp2_with fail
  refine (HK0.out _ HI0.out).mono ?_
  rintro r w1 ⟨rfl, hb⟩
  have hr2 := rowBelow HR1.out hb HR1.out.lt
  have hm2 := rowBelow HM1.out hb HM1.out.lt
  have HB2 : Hid (Below q w w1) := Lib.hid (HB1.out.trans (hb.mono (Nat.le_of_lt HR1.out.lt)))
  have HI2 := Lib.hid (HI0.out.below hb)
  clear q0 q1 q2 q3 lq hb HB1 HI0 HR0 HB0 HR1 HM0 HM1
  have q0 : (w1).cell? ⟨q, 0, none⟩ = some (.int .i64 (G)) := (hr2).cell (i := 0) (by omega)
  have q1 : (w1).cell? ⟨q, 1, none⟩ = some (.int .i64 (W)) := (hr2).cell (i := 1) (by omega)
  have q2 : (w1).cell? ⟨q, 2, none⟩ = some (.int .i64 (H)) := (hr2).cell (i := 2) (by omega)
  have q3 : (w1).cell? ⟨q, 3, none⟩ = some (.slice a n c) := (hr2).cell (i := 3) (by omega)
  have lq : LtW q w1 := (hr2).lt
  have p0 : w1.cell? ⟨q + 1, 0, none⟩ = some (.int .i64 t) := hm2.cell (i := 0) (by omega)
  have p1 : w1.cell? ⟨q + 1, 1, none⟩ = some (.bool f) := hm2.cell (i := 1) (by omega)
  have p2 : w1.cell? ⟨q + 1, 2, none⟩ = some (.int .i64 ox) := hm2.cell (i := 2) (by omega)
  have p3 : w1.cell? ⟨q + 1, 3, none⟩ = some (.int .i64 oy) := hm2.cell (i := 3) (by omega)
  have lp : LtW (q + 1) w1 := hm2.lt
  have HR2 := Lib.hid hr2
  clear hr2 hm2
  go_wp2_with fail
  refine (HMV.out _ HI2.out).mono ?_
  rintro r w2 ⟨⟨MA, MC, rfl, hMI⟩, hb⟩
  have hr3 := rowBelow HR2.out hb HR2.out.lt
  have HB3 : Hid (Below q w w2) := Lib.hid (HB2.out.trans (hb.mono (Nat.le_of_lt HR2.out.lt)))
  have HI3 := Lib.hid (HI2.out.below hb)
  have HMI := Lib.hid hMI
  clear q0 q1 q2 q3 lq hb HB2 HI2 HR2 hMI p0 p1 p2 p3 lp
  have HR3 := Lib.hid hr3
  clear hr3
  go_upto_if 40 with fail
  have hrd := row4 w2 (.int .i64 (G')) (.int .i64 (N')) (.int .i64 (M')) (.slice MA mm MC) 24
  have hba : Below w2.heap.size w2 (w2.alloc (.cells #[.int .i64 (G'), .int .i64 (N'), .int .i64 (M'), .slice MA mm MC] 24)) := (by repeat (first | exact Below.refl _ _ | refine Below.drew ?_ | refine below_drewN ?_ _ | refine Below.alloc ?_ (by first | exact Nat.le_refl _ | (simp; done) | (simp; omega) | omega) _ | refine Below.setCell ?_ (by first | exact Nat.le_refl _ | (simp; done) | (simp; omega) | omega) _ | refine bExtW ?_ (by first | exact Nat.le_refl _ | (simp; done) | (simp; omega) | omega) | refine Below.trans ?_ (Below.mono (by assumption) (by first | exact Nat.le_refl _ | (simp; done) | (simp; omega) | omega))))
  have hr4 := rowBelow HR3.out hba HR3.out.lt
  have HB4 : Hid (Below q w (w2.alloc (.cells #[.int .i64 (G'), .int .i64 (N'), .int .i64 (M'), .slice MA mm MC] 24))) := Lib.hid (HB3.out.trans (hba.mono (Nat.le_of_lt HR3.out.lt)))
  have HI4 := Lib.hid (HI3.out.below hba)
  have HM4 := Lib.hid (HMI.out.below hba)
  have HRD := Lib.hid hrd; have HR4 := Lib.hid hr4
  clear hrd hba hr4 HB3 HI3 HR3 HMI
  generalize w2.alloc (.cells #[.int .i64 (G'), .int .i64 (N'), .int .i64 (M'), .slice MA mm MC] 24) = w3 at *
  generalize w2.heap.size = db at *
  go_cut [12] (fun ev wx => Hid (Below w3.heap.size w3 wx))
  case first =>
    rcases hMK with he | ⟨rfl, hMK⟩
    · have d0 : (em == 0) = false := by simpa using he
      clear he
      go_wp2_with fail
      go_meet
      exact Lib.hid (Below.refl _ _)
    · have d0 : ((0 : Int) == 0) = true := rfl
      have HMK := Lib.hid hMK
      clear hMK
      have p0 : w3.cell? ⟨db, 0, none⟩ = some (.int .i64 (G')) := HRD.out.cell (i := 0) (by omega)
      have p1 : w3.cell? ⟨db, 1, none⟩ = some (.int .i64 (N')) := HRD.out.cell (i := 1) (by omega)
      have p2 : w3.cell? ⟨db, 2, none⟩ = some (.int .i64 (M')) := HRD.out.cell (i := 2) (by omega)
      have p3 : w3.cell? ⟨db, 3, none⟩ = some (.slice MA mm MC) := HRD.out.cell (i := 3) (by omega)
      have lp : LtW db w3 := HRD.out.lt
      go_wp2_with fail
      refine (HMK.out _ _ _ HM4.out).mono ?_
      rintro r w4 ⟨rfl, hb⟩
      have HB5 := Lib.hid hb
      clear hb p0 p1 p2 p3 lp
      go_wp2_with fail
      go_meet
      exact HB5
  clear hMK HM4 HRD HMV
  have hr5 := rowBelow HR4.out hcut.out HR4.out.lt
  have HB5 : Hid (Below q w wc) := Lib.hid (HB4.out.trans (hcut.out.mono (Nat.le_of_lt HR4.out.lt)))
  have HI5 := Lib.hid (HI4.out.below hcut.out)
  have HR5 := Lib.hid hr5
  have hqc : q < wc.heap.size := hr5.lt
  clear hcut HB4 HI4 HR4
  have q0 : (wc).cell? ⟨q, 0, none⟩ = some (.int .i64 (G)) := (hr5).cell (i := 0) (by omega)
  have q1 : (wc).cell? ⟨q, 1, none⟩ = some (.int .i64 (W)) := (hr5).cell (i := 1) (by omega)
  have q2 : (wc).cell? ⟨q, 2, none⟩ = some (.int .i64 (H)) := (hr5).cell (i := 2) (by omega)
  have q3 : (wc).cell? ⟨q, 3, none⟩ = some (.slice a n c) := (hr5).cell (i := 3) (by omega)
  have lq : LtW q wc := (hr5).lt
  clear hr5
  have hbA : Below wc.heap.size wc (wc.alloc (.cells #[.int .i64 (G), .int .i64 (W), .int .i64 (H), .slice none 0 0] 24)) := (by repeat (first | exact Below.refl _ _ | refine Below.drew ?_ | refine below_drewN ?_ _ | refine Below.alloc ?_ (by first | exact Nat.le_refl _ | (simp; done) | (simp; omega) | omega) _ | refine Below.setCell ?_ (by first | exact Nat.le_refl _ | (simp; done) | (simp; omega) | omega) _ | refine bExtW ?_ (by first | exact Nat.le_refl _ | (simp; done) | (simp; omega) | omega) | refine Below.trans ?_ (Below.mono (by assumption) (by first | exact Nat.le_refl _ | (simp; done) | (simp; omega) | omega))))
  have HF0 : Hid (FM wc.heap.size 24 4 (chG G W H) 3 [] wc (.slice none 0 0) (wc.alloc (.cells #[.int .i64 (G), .int .i64 (W), .int .i64 (H), .slice none 0 0] 24))) := Lib.hid (FM.start (chG_alloc wc G W H (.slice none 0 0)) (World.ownsRow_nil _ _ _ _) (by simp [Value.ownBlock]) hbA (Nat.le_refl _))
  have hr6 := rowBelow HR5.out hbA HR5.out.lt
  have HI6 := Lib.hid (HI5.out.below hbA)
  have hli : n = 0 ∨ 0 < n := by omega
  go_wp2_with fail
  clear q0 q1 q2 q3 lq
  obtain ⟨xb, hxb⟩ : ∃ xb, wc.heap.size = xb := ⟨_, rfl⟩
  rw [hxb] at HF0 hbA hqc
  have HXB := Lib.hid hxb
  try rw [hxb]
  clear hxb hbA
  generalize wc.alloc (.cells #[.int .i64 (G), .int .i64 (W), .int .i64 (H), .slice none 0 0] 24) = w5 at *
  have q0 : (w5).cell? ⟨q, 0, none⟩ = some (.int .i64 (G)) := (hr6).cell (i := 0) (by omega)
  have q1 : (w5).cell? ⟨q, 1, none⟩ = some (.int .i64 (W)) := (hr6).cell (i := 1) (by omega)
  have q2 : (w5).cell? ⟨q, 2, none⟩ = some (.int .i64 (H)) := (hr6).cell (i := 2) (by omega)
  have q3 : (w5).cell? ⟨q, 3, none⟩ = some (.slice a n c) := (hr6).cell (i := 3) (by omega)
  have lq : LtW q w5 := (hr6).lt
  have HR6 := Lib.hid hr6
  clear hr6
  go_wp2_with fail
  go_loopw [63] (fun iv wr => ∃ (i : Nat) (v : Value), i ≤ n ∧ iv = .int .i64 i ∧ Hid (FM xb 24 4 (chG G W H) 3 (((dyeL A cs).take i).map i64v) wc v wr)) (fun iv _ => n - (intOf iv).toNat)
  case atStart => exact ⟨0, _, by omega, rfl, Lib.hid (by rw [List.take_zero]; exact HF0.out)⟩
  case round =>
    clear q0 q1 q2 q3 lq HF0
    obtain ⟨i, v, hi, rfl, HF⟩ := hrel
    by_cases hin : i < n
    · have di : decide ((i : Int) < (n : Int)) = true := by simpa using hin
      have vi : IntKind.i64.wrap ((i : Int) + 1) = (i : Int) + 1 := IntWalk.i64_in _ (by omega)
      have HS := Lib.hid (HDT.out i hin)
      have HIw := HI5.out.below HF.out.bel
      obtain ⟨bb, bo, rfl, hb, hc⟩ := HIw.2 (by omega)
      have c0 := hc i hin
      have lb : LtW bb wr := hb
      have hcr := HCR.out (cs.getD i 0) (by
        rw [List.getD_eq_getElem?_getD, List.getElem?_eq_getElem (by have := HI5.out.1; omega)]
        exact List.getElem_mem _)
      obtain ⟨X, hX⟩ : ∃ X, cs.getD i 0 = X := ⟨_, rfl⟩
      rw [hX] at c0 HS hcr
      obtain ⟨Y, hY⟩ : ∃ Y, (X + (A : Int)) % 62 = Y := ⟨_, rfl⟩
      have hY2 : (X + (A : Int)).tmod 62 = Y := by rw [← hY, Int.tmod_eq_emod_of_nonneg (by omega)]
      rw [hY] at HS
      have s1 : IntKind.i64.wrap (X + (A : Int)) = X + (A : Int) := IntWalk.i64_in _ (by omega)
      have s2 : IntKind.i64.wrap Y = Y := IntWalk.i64_in _ (by omega)
      have hml : (((dyeL A cs).take i).map i64v).length ≤ 4096 := by rw [List.length_map, List.length_take]; omega
      have HSM : Hid (((dyeL A cs).take (i + 1)).map i64v = ((dyeL A cs).take i).map i64v ++ [.int .i64 Y]) := Lib.hid (by rw [HS.out, List.map_append]; rfl)
      generalize ((dyeL A cs).take i).map i64v = M at *
      obtain ⟨Av, cv, rfl⟩ := own_form HF.out.own
      have m3 : wr.cell? ⟨xb, 3, none⟩ = some (.slice Av M.length cv) := HF.out.row.cell (i := 3) (by omega)
      have lmb : LtW xb wr := HF.out.row.lt
      have hbB : Below wr.heap.size wr (wr.alloc (.cells #[.int .i64 Y] 3)) := (by repeat (first | exact Below.refl _ _ | refine Below.drew ?_ | refine below_drewN ?_ _ | refine Below.alloc ?_ (by first | exact Nat.le_refl _ | (simp; done) | (simp; omega) | omega) _ | refine Below.setCell ?_ (by first | exact Nat.le_refl _ | (simp; done) | (simp; omega) | omega) _ | refine bExtW ?_ (by first | exact Nat.le_refl _ | (simp; done) | (simp; omega) | omega) | refine Below.trans ?_ (Below.mono (by assumption) (by first | exact Nat.le_refl _ | (simp; done) | (simp; omega) | omega))))
      have HFE := Lib.hid (HF.out.below hbB)
      clear hX hb hc HIw HS hcr hY hbB
      have hcx : (wr.alloc (.cells #[.int .i64 Y] 3)).cell? ⟨wr.heap.size, 0, none⟩ = some (.int .i64 Y) := by simp
      have HCX := Lib.hid hcx
      clear hcx
      go_wp2_with (at_builtin; refine wpAppK okI8 rfl (.tmp 68) (.tmp 76) rfl wc.heap.size _ _ _ (.int .i64 Y) wr.heap.size rfl HFE.out.own rfl HCX.out rfl (by omega) (by omega) HFE.out.bel.size ?_)
      intro v' w2' hown2 hg2 hat2
      obtain ⟨A', cp', rfl⟩ := own_form hown2
      have hr2 := HFE.out.mid hg2
      have cM2 : w2'.cell? ⟨xb, 3, none⟩ = some (.slice Av M.length cv) := hr2.cell (i := 3) (by omega)
      have fM2 : w2'.frozen? ⟨xb, 3, none⟩ = false := hr2.frozen 3
      have lM2 : LtW xb w2' := hr2.lt
      have HNW := Lib.hid (FM.app (k := 3) HFE.out (Below.refl _ _) hown2 hg2 (by rw [World.size_alloc]; exact hat2) chG_set)
      clear hown2 hg2 hat2 hr2 HCX HFE c0 lb m3 lmb HF
      go_wp2
      go_roundw
      case rel => exact ⟨i + 1, _, by omega, by go_num, by rw [HSM.out]; exact HNW⟩
      case measure => simp [intOf]; omega
    · obtain rfl : n = i := by omega
      have di : decide ((n : Int) < (n : Int)) = false := by simp
      have hall : (dyeL A cs).take n = dyeL A cs := List.take_of_length_le (by rw [HDL.out]; exact Nat.le_refl _)
      rw [hall] at HF
      have ho := HF.out.own
      rw [List.length_map, HDL.out] at ho
      obtain ⟨XA, XC, rfl⟩ := own_form ho
      have HID : Hid (IsInts wr XA n (dyeL A cs)) := Lib.hid (OwnI.ints (base := wc.heap.size) ⟨HDL.out, ho⟩)
      have m0 : wr.cell? ⟨xb, 0, none⟩ = some (.int .i64 (G)) := HF.out.row.cell (i := 0) (by omega)
      have m1 : wr.cell? ⟨xb, 1, none⟩ = some (.int .i64 (W)) := HF.out.row.cell (i := 1) (by omega)
      have m2 : wr.cell? ⟨xb, 2, none⟩ = some (.int .i64 (H)) := HF.out.row.cell (i := 2) (by omega)
      have m3 : wr.cell? ⟨xb, 3, none⟩ = some (.slice XA n XC) := HF.out.row.cell (i := 3) (by omega)
      have lmb : LtW xb wr := HF.out.row.lt
      have hbl := HF.out.bel
      have hr7 := rowBelow HR5.out hbl HR5.out.lt
      have HB7 : Hid (Below q w wr) := Lib.hid (HB5.out.trans (hbl.mono (Nat.le_of_lt HR5.out.lt)))
      have HI7 := Lib.hid (HI5.out.below hbl)
      have HR7 := Lib.hid hr7
      clear ho hall HF hbl hr7 HDT HDL HR6 HI6 HB5 HI5 HR5 HCR
      go_wp2_with fail
      refine (HKX.out XA XC _ HID.out).mono ?_
      rintro r w8 ⟨rfl, hb8⟩
      have hr8 := rowBelow HR7.out hb8 HR7.out.lt
      have HB8 : Hid (Below q w w8) := Lib.hid (HB7.out.trans (hb8.mono (Nat.le_of_lt HR7.out.lt)))
      have HI8 := Lib.hid (HI7.out.below hb8)
      have HR8 := Lib.hid hr8
      clear hb8 m0 m1 m2 m3 lmb HR7 HB7 HI7 HKX HID
      have q0 : (w8).cell? ⟨q, 0, none⟩ = some (.int .i64 (G)) := (hr8).cell (i := 0) (by omega)
      have q1 : (w8).cell? ⟨q, 1, none⟩ = some (.int .i64 (W)) := (hr8).cell (i := 1) (by omega)
      have q2 : (w8).cell? ⟨q, 2, none⟩ = some (.int .i64 (H)) := (hr8).cell (i := 2) (by omega)
      have q3 : (w8).cell? ⟨q, 3, none⟩ = some (.slice a n c) := (hr8).cell (i := 3) (by omega)
      have lq : LtW q w8 := (hr8).lt
      clear hr8
      -- how often it is laid out
      by_cases e1 : wide < 1
      · have d1 : decide (wide < 1) = true := by simpa using e1
        go_wp2
        go_ret
        exact ⟨rfl, by rw [HQ.out]; exact HB8.out⟩
      by_cases e2 : 3 < wide
      · have d1 : decide (wide < 1) = false := by simpa using e1
        have d2 : decide (3 < wide) = true := by simpa using e2
        go_wp2
        go_ret
        exact ⟨rfl, by rw [HQ.out]; exact HB8.out⟩
      by_cases e3 : high < 1
      · have d1 : decide (wide < 1) = false := by simpa using e1
        have d2 : decide (3 < wide) = false := by simpa using e2
        have d3 : decide (high < 1) = true := by simpa using e3
        go_wp2
        go_ret
        exact ⟨rfl, by rw [HQ.out]; exact HB8.out⟩
      by_cases e4 : 3 < high
      · have d1 : decide (wide < 1) = false := by simpa using e1
        have d2 : decide (3 < wide) = false := by simpa using e2
        have d3 : decide (high < 1) = false := by simpa using e3
        have d4 : decide (3 < high) = true := by simpa using e4
        go_wp2
        go_ret
        exact ⟨rfl, by rw [HQ.out]; exact HB8.out⟩
      obtain ⟨wd, rfl⟩ : ∃ wd : Nat, wide = wd := ⟨wide.toNat, by omega⟩
      obtain ⟨hg, rfl⟩ : ∃ hg : Nat, high = hg := ⟨high.toNat, by omega⟩
      have d1 : decide (((wd : Nat) : Int) < 1) = false := by simpa using e1
      have d2 : decide (3 < ((wd : Nat) : Int)) = false := by simpa using e2
      have d3 : decide (((hg : Nat) : Int) < 1) = false := by simpa using e3
      have d4 : decide (3 < ((hg : Nat) : Int)) = false := by simpa using e4
      have d1' : decide (wd < 1) = false := by simp; omega
      have d2' : decide (3 < wd) = false := by simp; omega
      have d3' : decide (hg < 1) = false := by simp; omega
      have d4' : decide (3 < hg) = false := by simp; omega
      obtain ⟨WW, hWW⟩ : ∃ x, wd * W = x := ⟨_, rfl⟩
      obtain ⟨HH, hHH⟩ : ∃ x, hg * H = x := ⟨_, rfl⟩
      have lWW : WW ≤ 3 * 64 := by rw [← hWW]; exact Nat.mul_le_mul (by omega) hw2
      have lHH : HH ≤ 3 * 64 := by rw [← hHH]; exact Nat.mul_le_mul (by omega) hh2
      have u1 : (wd : Int) * (W : Int) = (WW : Int) := by rw [← hWW]; push_cast; rfl
      have u2 : (hg : Int) * (H : Int) = (HH : Int) := by rw [← hHH]; push_cast; rfl
      have u3 : IntKind.i64.wrap (WW : Int) = (WW : Int) := IntWalk.i64_in _ (by omega)
      have u4 : IntKind.i64.wrap (HH : Int) = (HH : Int) := IntWalk.i64_in _ (by omega)
      by_cases e5 : 24 < WW
      · have d5 : decide (24 < (WW : Int)) = true := by simp; omega
        have d5' : decide (24 < WW) = true := by simpa using e5
        go_wp2
        go_ret
        exact ⟨rfl, by rw [HQ.out]; exact HB8.out⟩
      by_cases e6 : 24 < HH
      · have d5 : decide (24 < (WW : Int)) = false := by simp; omega
        have d5' : decide (24 < WW) = false := by simpa using e5
        have d6 : decide (24 < (HH : Int)) = true := by simp; omega
        have d6' : decide (24 < HH) = true := by simpa using e6
        go_wp2
        go_ret
        exact ⟨rfl, by rw [HQ.out]; exact HB8.out⟩
      have d5 : decide (24 < (WW : Int)) = false := by simp; omega
      have d5' : decide (24 < WW) = false := by simpa using e5
      have d6 : decide (24 < (HH : Int)) = false := by simp; omega
      have d6' : decide (24 < HH) = false := by simpa using e6
      have hWWp : 0 < WW := by rw [← hWW]; exact Nat.mul_pos (by omega) hw1
      have hHHp : 0 < HH := by rw [← hHH]; exact Nat.mul_pos (by omega) hh1
      obtain ⟨CC, hCC⟩ : ∃ x, HH * wd = x := ⟨_, rfl⟩
      have lCC : CC ≤ 24 * 3 := by rw [← hCC]; exact Nat.mul_le_mul (by omega) (by omega)
      have HKY2 := Lib.hid (HKY.out wd hg (by omega) (by omega) (by omega) (by omega))
      have HCC := Lib.hid hCC
      have HLL : Hid (∀ k, (layL W H cs wd k).length = k * W) := Lib.hid fun k => Z.layL_len hh1 HLN.out k
      have HPL : Hid (∀ k, (pieceL W H cs wd k).length = W) := Lib.hid fun k => Z.piece_len hh1 HLN.out
      have HLS : Hid (∀ k, layL W H cs wd (k + 1) = layL W H cs wd k ++ pieceL W H cs wd k) := Lib.hid fun k => rfl
      have HRB : Hid (∀ k r i, i < wd → k = r * wd + i → pieceL W H cs wd k = (cs.drop (r % H * W)).take W) := Lib.hid fun k r i hi hk => by
        unfold pieceL
        have : k / wd = r := by
          rw [hk, Nat.mul_comm, Nat.mul_add_div (by omega), Nat.div_eq_of_lt hi, Nat.add_zero]
        rw [this]
      rw [hWW, hHH, hCC] at HKY2
      clear hWW hHH hCC HKY
      have hbA : Below w8.heap.size w8 (w8.alloc (.cells #[.int .i64 (G), .int .i64 (WW), .int .i64 (HH), .slice none 0 0] 24)) := (by repeat (first | exact Below.refl _ _ | refine Below.drew ?_ | refine below_drewN ?_ _ | refine Below.alloc ?_ (by first | exact Nat.le_refl _ | (simp; done) | (simp; omega) | omega) _ | refine Below.setCell ?_ (by first | exact Nat.le_refl _ | (simp; done) | (simp; omega) | omega) _ | refine bExtW ?_ (by first | exact Nat.le_refl _ | (simp; done) | (simp; omega) | omega) | refine Below.trans ?_ (Below.mono (by assumption) (by first | exact Nat.le_refl _ | (simp; done) | (simp; omega) | omega))))
      have HF0 : Hid (FM w8.heap.size 24 4 (chG G WW HH) 3 [] w8 (.slice none 0 0) (w8.alloc (.cells #[.int .i64 (G), .int .i64 (WW), .int .i64 (HH), .slice none 0 0] 24))) := Lib.hid (FM.start (chG_alloc w8 G WW HH (.slice none 0 0)) (World.ownsRow_nil _ _ _ _) (by simp [Value.ownBlock]) hbA (Nat.le_refl _))
      go_wp2_with fail
      obtain ⟨yb, hyb⟩ : ∃ yb, w8.heap.size = yb := ⟨_, rfl⟩
      rw [hyb] at HF0 hbA
      have HYB := Lib.hid hyb
      try rw [hyb]
      have hqy : q < yb := by rw [← hyb]; exact HR8.out.lt
      clear hyb hbA q0 q1 q2 q3 lq
      generalize w8.alloc (.cells #[.int .i64 (G), .int .i64 (WW), .int .i64 (HH), .slice none 0 0] 24) = w9 at *
      have m2 : w9.cell? ⟨yb, 2, none⟩ = some (.int .i64 (HH)) := HF0.out.row.cell (i := 2) (by omega)
      have lmb : LtW yb w9 := HF0.out.row.lt
      go_loopw [21] (fun rv wr => ∃ (r : Nat) (v : Value), r ≤ HH ∧ rv = .int .i64 r ∧ Hid (FM yb 24 4 (chG G WW HH) 3 ((layL W H cs wd (r * wd)).map i64v) w8 v wr)) (fun rv _ => HH - (intOf rv).toNat)
      case atStart => exact ⟨0, _, by omega, rfl, Lib.hid (by rw [Nat.zero_mul]; exact HF0.out)⟩
      case round =>
        clear m2 lmb HF0
        obtain ⟨r, v, hr, rfl, HF⟩ := hrel
        have m2 : wr.cell? ⟨yb, 2, none⟩ = some (.int .i64 (HH)) := HF.out.row.cell (i := 2) (by omega)
        have lmb : LtW yb wr := HF.out.row.lt
        by_cases hrH : r < HH
        · have dr : decide ((r : Int) < (HH : Int)) = true := by simpa using hrH
          have vr : IntKind.i64.wrap ((r : Int) + 1) = (r : Int) + 1 := IntWalk.i64_in _ (by omega)
          go_wp2_with fail
          clear m2 lmb
          obtain ⟨w10, rfl⟩ : ∃ w10 : World, w10 = wr := ⟨_, rfl⟩
          go_loopw [22] (fun iv wr => ∃ (i : Nat) (v : Value), i ≤ wd ∧ iv = .int .i64 i ∧ Hid (FM yb 24 4 (chG G WW HH) 3 ((layL W H cs wd (r * wd + i)).map i64v) w8 v wr)) (fun iv _ => wd - (intOf iv).toNat)
          case atStart => exact ⟨0, _, by omega, rfl, HF⟩
          case round =>
            clear HF
            obtain ⟨i, v, hi, rfl, HF⟩ := hrel
            by_cases hiw : i < wd
            · have di2 : decide ((i : Int) < (wd : Int)) = true := by simpa using hiw
              have di3 : decide (i < wd) = true := by simpa using hiw
              have vi : IntKind.i64.wrap ((i : Int) + 1) = (i : Int) + 1 := IntWalk.i64_in _ (by omega)
              obtain ⟨rm, hrm⟩ : ∃ x, r % H = x := ⟨_, rfl⟩
              obtain ⟨at_, hat⟩ : ∃ x, rm * W = x := ⟨_, rfl⟩
              have hrmH : rm < H := by rw [← hrm]; exact Nat.mod_lt _ hh1
              have hatn : at_ + W ≤ n := by
                have h1 : (rm + 1) * W ≤ H * W := Nat.mul_le_mul_right W (by omega)
                have h2 : (rm + 1) * W = rm * W + W := Nat.succ_mul rm W
                have h3 := HLN.out
                have h4 := HI8.out.1
                rw [Nat.mul_comm W H] at h3
                omega
              have t1 : (r : Int).tmod (H : Int) = (rm : Int) := by rw [← hrm]; rfl
              have t2 : (rm : Int) * (W : Int) = (at_ : Int) := by rw [← hat]; push_cast; rfl
              have t3 : IntKind.i64.wrap (rm : Int) = (rm : Int) := IntWalk.i64_in _ (by omega)
              have t4 : IntKind.i64.wrap (at_ : Int) = (at_ : Int) := IntWalk.i64_in _ (by omega)
              have t5 : IntKind.i64.wrap ((at_ : Int) + (W : Int)) = (at_ : Int) + (W : Int) := IntWalk.i64_in _ (by omega)
              have b4 : ((H : Int) == 0) = false := by simp; omega
              have b5 : (H : Int) ≠ 0 := by omega
              have b6 : ¬ H = 0 := by omega
              obtain ⟨k, hk⟩ : ∃ k, r * wd + i = k := ⟨_, rfl⟩
              have HPK := Lib.hid (HRB.out k r i hiw hk.symm)
              rw [hrm, hat] at HPK
              have hr9 := rowBelow HR8.out HF.out.bel HR8.out.lt
              have q0 : (wr).cell? ⟨q, 0, none⟩ = some (.int .i64 (G)) := (hr9).cell (i := 0) (by omega)
              have q1 : (wr).cell? ⟨q, 1, none⟩ = some (.int .i64 (W)) := (hr9).cell (i := 1) (by omega)
              have q2 : (wr).cell? ⟨q, 2, none⟩ = some (.int .i64 (H)) := (hr9).cell (i := 2) (by omega)
              have q3 : (wr).cell? ⟨q, 3, none⟩ = some (.slice a n c) := (hr9).cell (i := 3) (by omega)
              have lq : LtW q wr := (hr9).lt
              have HI9 := Lib.hid (HI8.out.below HF.out.bel)
              have m3 : wr.cell? ⟨yb, 3, none⟩ = some v := HF.out.row.cell (i := 3) (by omega)
              have lmb : LtW yb wr := HF.out.row.lt
              obtain ⟨bb, bo, rfl, hb, hc⟩ := HI9.out.2 (by omega)
              have HPC : Hid (∀ j u, ((pieceL W H cs wd k).map i64v)[j]? = some u → wr.cell? ⟨bb, bo + at_ + j, none⟩ = some u) := Lib.hid fun j u hj => by
                have hjW : j < W := by
                  have h1 := (List.getElem?_eq_some_iff.1 hj).1
                  rw [List.length_map, HPL.out] at h1
                  exact h1
                have h2 := hc (at_ + j) (by omega)
                rw [← Nat.add_assoc] at h2
                rw [h2]
                rw [List.getElem?_map, HPK.out, List.getElem?_take_of_lt hjW, List.getElem?_drop, List.getElem?_eq_getElem (by have := HI9.out.1; omega)] at hj
                rw [List.getD_eq_getElem?_getD, List.getElem?_eq_getElem (by have := HI9.out.1; omega)]
                exact hj
              have hsl : ∀ wx, (Instr.slice 22 (.slice (some ⟨bb, bo, none⟩) n c) (some (.int .i64 (at_))) (some (.int .i64 ((at_ : Int) + (W : Int)))) none).run Try.prog wx = .ok (.slice (some ⟨bb, bo + at_, none⟩) W (c - at_)) wx := by
                intro wx
                have h1 := run_slice_lh (P := Try.prog) wx 22 (some ⟨bb, bo, none⟩) n c (by kernel_rfl) .i64 .i64 (at_ : Int) ((at_ : Int) + (W : Int)) (by omega) (by omega) (by omega)
                rw [h1]
                have e1 : ((at_ : Int)).toNat = at_ := by omega
                have e2 : (((at_ : Int) + (W : Int))).toNat = at_ + W := by omega
                rw [e1, e2]
                have hsz : (sizeOf (Try.prog.elem 22)).run Try.prog wx = .ok 1 wx := by go_simp
                rw [hsz]
                simp only [Result.andThen, sliced, Nat.mul_one, show at_ + W - at_ = W by omega, if_neg (show ¬ c = at_ by omega), Option.map_some, Addr.add_lit]
              obtain ⟨M, hM⟩ : ∃ M, (layL W H cs wd (r * wd + i)).map i64v = M := ⟨_, rfl⟩
              have hml : M.length ≤ 100000 := by
                rw [← hM, List.length_map, HLL.out, hk]
                have h1 : k ≤ 24 * 3 + 3 := by
                  have := Nat.mul_le_mul (show r ≤ 24 by omega) (show wd ≤ 3 by omega)
                  omega
                have := Nat.mul_le_mul h1 hw2
                omega
              have HSM : Hid ((layL W H cs wd (r * wd + (i + 1))).map i64v = M ++ (pieceL W H cs wd k).map i64v) := Lib.hid (by rw [← Nat.add_assoc, hk, HLS.out, List.map_append, ← hM, hk])
              have hpl : ((pieceL W H cs wd k).map i64v).length = W := by rw [List.length_map, HPL.out]
              have HP1 : Hid (∀ u ∈ (pieceL W H cs wd k).map i64v, u.oneCell' = true) := Lib.hid fun u hu => by
                obtain ⟨x, _, rfl⟩ := List.mem_map.1 hu
                rfl
              rw [hM] at HF
              generalize (pieceL W H cs wd k).map i64v = PL at *
              obtain ⟨Av, cv, rfl⟩ := own_form HF.out.own
              clear hr9 hrm hat hM hk HPK hb hc
              go_wp2_with fail
              (refine wp_region_ext (by kernel_rfl) (by kernel_rfl) ?_; (repeat (first | ((with_reducible refine ext_step (fun K hK => ?_)); go_simp; first | (refine hK _ ?_; clear hK K) | (apply Exists.intro; refine ⟨fun _ _ => ?_, hK _ ?_⟩; fail; clear hK K)))); refine wpQuiet_nil ?_; intro E d)
              clear q0 q1 q2 q3 lq m3 lmb
              have hbx : Below wr.heap.size wr (extW wr E d) := (by repeat (first | exact Below.refl _ _ | refine Below.drew ?_ | refine below_drewN ?_ _ | refine Below.alloc ?_ (by first | exact Nat.le_refl _ | (simp; done) | (simp; omega) | omega) _ | refine Below.setCell ?_ (by first | exact Nat.le_refl _ | (simp; done) | (simp; omega) | omega) _ | refine bExtW ?_ (by first | exact Nat.le_refl _ | (simp; done) | (simp; omega) | omega) | refine Below.trans ?_ (Below.mono (by assumption) (by first | exact Nat.le_refl _ | (simp; done) | (simp; omega) | omega))))
              have HFX := Lib.hid (HF.out.below hbx)
              have HI9 := Lib.hid (HI8.out.below HFX.out.bel)
              have HPX : Hid (∀ j u, PL[j]? = some u → (extW wr E d).cell? ⟨bb, bo + at_ + j, none⟩ = some u) := Lib.hid fun j u hj => bCs hbx (HPC.out j u hj)
              clear hbx HPC HF
              generalize extW wr E d = wx at *
              have hrx := rowBelow HR8.out HFX.out.bel HR8.out.lt
              have q0 : wx.cell? ⟨q, 0, none⟩ = some (.int .i64 (G)) := hrx.cell (i := 0) (by omega)
              have q1 : wx.cell? ⟨q, 1, none⟩ = some (.int .i64 (W)) := hrx.cell (i := 1) (by omega)
              have q2 : wx.cell? ⟨q, 2, none⟩ = some (.int .i64 (H)) := hrx.cell (i := 2) (by omega)
              have q3 : wx.cell? ⟨q, 3, none⟩ = some (.slice (some ⟨bb, bo, none⟩) n c) := hrx.cell (i := 3) (by omega)
              have lq : LtW q wx := hrx.lt
              have m3 : wx.cell? ⟨yb, 3, none⟩ = some (.slice Av M.length cv) := HFX.out.row.cell (i := 3) (by omega)
              have lmb : LtW yb wx := HFX.out.row.lt
              clear hrx
              go_wp2_with fail
              (refine wp_region_ext_tail 10 (by kernel_rfl) (by kernel_rfl) ?_; simp only [List.take_succ_cons, List.take_zero, List.drop_succ_cons, List.drop_zero]; (repeat (first | ((with_reducible refine ext_step (fun K hK => ?_)); go_simp; first | (refine hK _ ?_; clear hK K) | (apply Exists.intro; refine ⟨fun _ _ => ?_, hK _ ?_⟩; fail; clear hK K)))); refine wpQuiet_nil ?_; intro E d)
              clear q0 q1 q2 q3 lq m3 lmb hsl
              have hbx : Below wx.heap.size wx (extW wx E d) := (by repeat (first | exact Below.refl _ _ | refine Below.drew ?_ | refine below_drewN ?_ _ | refine Below.alloc ?_ (by first | exact Nat.le_refl _ | (simp; done) | (simp; omega) | omega) _ | refine Below.setCell ?_ (by first | exact Nat.le_refl _ | (simp; done) | (simp; omega) | omega) _ | refine bExtW ?_ (by first | exact Nat.le_refl _ | (simp; done) | (simp; omega) | omega) | refine Below.trans ?_ (Below.mono (by assumption) (by first | exact Nat.le_refl _ | (simp; done) | (simp; omega) | omega))))
              have HFE := Lib.hid (HFX.out.below hbx)
              have HPE : Hid (∀ j u, PL[j]? = some u → (extW wx E d).cell? ⟨bb, bo + at_ + j, none⟩ = some u) := Lib.hid fun j u hj => bCs hbx (HPX.out j u hj)
              clear hbx HFX HPX HI9
              generalize extW wx E d = WE at *
              go_wp2_with (at_builtin; go_loud (refine wpAppV okI8 rfl (.tmp 150) (.tmp 158) rfl w8.heap.size _ M.length M (some ⟨bb, bo + at_, none⟩) W (c - at_) PL rfl HFE.out.own rfl (fun e => by cases e) hpl (fun _ => ⟨bb, bo + at_, rfl, HPE.out⟩) HP1.out (by omega) (by omega) HFE.out.bel.size ?_))
              intro v' w2' hown2 hg2 hat2
              obtain ⟨A', cp', rfl⟩ := own_form hown2
              have hr2 := HFE.out.mid hg2
              have cM2 : w2'.cell? ⟨yb, 3, none⟩ = some (.slice Av M.length cv) := hr2.cell (i := 3) (by omega)
              have fM2 : w2'.frozen? ⟨yb, 3, none⟩ = false := hr2.frozen 3
              have lM2 : LtW yb w2' := hr2.lt
              have HNW := Lib.hid (FM.appV (k := 3) HFE.out (Below.refl _ _) (by rw [hpl]; exact hown2) hg2 hat2 chG_set)
              clear hown2 hg2 hat2 hr2 HPE HFE
              go_wp2
              go_roundw
              case rel => exact ⟨i + 1, _, by omega, by go_num, by rw [HSM.out]; exact HNW⟩
              case measure => simp [intOf]; omega
            · obtain rfl : i = wd := by omega
              have di2 : decide ((i : Int) < (i : Int)) = false := by simp
              rw [← Nat.succ_mul] at HF
              go_wp2
              go_roundw
              case rel => exact ⟨r + 1, v, by omega, by go_num, HF⟩
              case measure => simp [intOf]; omega
        · obtain rfl : r = HH := by omega
          have dr : decide ((r : Int) < (r : Int)) = false := by simp
          rw [HCC.out] at HF
          have hlm : ((layL W H cs wd CC).map i64v).length = CC * W := by rw [List.length_map, HLL.out]
          have ho := HF.out.own
          rw [hlm] at ho
          obtain ⟨YA, YC, rfl⟩ := own_form ho
          have HID : Hid (IsInts wr YA (CC * W) (layL W H cs wd CC)) := Lib.hid (OwnI.ints (base := w8.heap.size) ⟨HLL.out CC, ho⟩)
          obtain ⟨ky, ey, hke, hKY⟩ := HKY2.out YA YC
          have HKY3 := Lib.hid hKY
          have m0 : wr.cell? ⟨yb, 0, none⟩ = some (.int .i64 (G)) := HF.out.row.cell (i := 0) (by omega)
          have m1 : wr.cell? ⟨yb, 1, none⟩ = some (.int .i64 (WW)) := HF.out.row.cell (i := 1) (by omega)
          have m3 : wr.cell? ⟨yb, 3, none⟩ = some (.slice YA (CC * W) YC) := HF.out.row.cell (i := 3) (by omega)
          have HBE : Hid (Below q w wr) := Lib.hid (HB8.out.trans (HF.out.bel.mono (Nat.le_of_lt HR8.out.lt)))
          have hqw : q ≤ wr.heap.size := Nat.le_trans (Nat.le_of_lt HR8.out.lt) HF.out.bel.size
          clear ho HF hlm hKY HKY2
          go_wp2_with fail
          refine (HKY3.out _ HID.out).mono ?_
          rintro r' w11 ⟨rfl, hb11⟩
          have HB11 := Lib.hid (HBE.out.trans (hb11.mono hqw))
          clear hb11 m0 m1 m2 m3 lmb
          rcases hke with rfl | ⟨rfl, rfl⟩
          · go_wp2
            go_ret
            exact ⟨rfl, by rw [HQ.out]; exact HB11.out⟩
          · go_wp2
            go_ret
            exact ⟨rfl, by rw [HQ.out]; exact HB11.out⟩
theorem kmov_walk (G W H : Int) (a : Option Addr) (n c : Nat) (cs : List Int) (t : Int) (f : Bool) (ox oy add wide high : Int) (w : World) (hI : IsInts w a n cs) (h0 : (-9223372036854775808 ≤ G ∧ G ≤ 9223372036854775807)) (h1 : (-9223372036854775808 ≤ W ∧ W ≤ 9223372036854775807)) (h2 : (-9223372036854775808 ≤ H ∧ H ≤ 9223372036854775807)) (h3 : n ≤ 9223372036854775807) (ht : (-9223372036854775808 ≤ t ∧ t ≤ 9223372036854775807)) (hx : (-9223372036854775808 ≤ ox ∧ ox ≤ 9223372036854775807)) (hy : (-9223372036854775808 ≤ oy ∧ oy ≤ 9223372036854775807)) (had : (-9223372036854775808 ≤ add ∧ add ≤ 9223372036854775807)) (hwi : (-9223372036854775808 ≤ wide ∧ wide ≤ 9223372036854775807)) (hhi : (-9223372036854775808 ≤ high ∧ high ≤ 9223372036854775807)) (hnc : n ≤ c) (hcm : c ≤ 9223372036854775807) :
    Calls Try.prog 6 #[.agg #[.int .i64 (G), .int .i64 (W), .int .i64 (H), .slice a n c], .agg #[.int .i64 (t), .bool (f), .int .i64 (ox), .int .i64 (oy)], .int .i64 (add), .int .i64 (wide), .int .i64 (high)] w fun r w' => r = .returned (.bool true) ∧ Below w.heap.size w w' := by
  rcases chart_cases G W H a n c cs h0 h1 h2 h3 with ⟨e, hT⟩ | ⟨G', W', H', N, rfl, rfl, rfl, h, hN, hp, h24⟩
  · exact kmov_bad G W H a n c cs t f ox oy add wide high w hI e hT
  · exact kmov_fine G' W' H' n a c cs t f ox oy add wide high w hI h (by omega) ht hx hy had hwi hhi hnc hcm
end Go.Proofs.Ytooilennejakhaa
