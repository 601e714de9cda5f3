/- Chapter 13: the law PassesMirrored, walked. -/
import Derived.Test.YtoooihoaapfjeaaPsH
import Derived.Test.YtoooihoaapfjeaaTwoG
namespace Go.Proofs.Ytoooihoaapfjeaa
open Go.RowKit
set_option linter.unusedVariables false
set_option linter.unusedSimpArgs false
open Ps
/-- Two lists of integers that a call makes, apart. -/
structure D2 (base : Nat) (w : World) (u v : Value) (L M : List Int) : Prop where
  a : w.ownsRow base 3 1 u L.length (L.map i64v)
  b : w.ownsRow base 3 1 v M.length (M.map i64v)
  ap : ∀ k, u.ownBlock = some k → v.ownBlock ≠ some k
theorem D2.nil (base : Nat) (w : World) : D2 base w (.slice none 0 0) (.slice none 0 0) [] [] := ⟨⟨rfl, .inl ⟨rfl, rfl⟩⟩, ⟨rfl, .inl ⟨rfl, rfl⟩⟩, fun k h => by cases h⟩
theorem D2.swap {base : Nat} {w : World} {u v : Value} {L M : List Int} (h : D2 base w u v L M) : D2 base w v u M L := ⟨h.b, h.a, fun k e1 e2 => h.ap k e2 e1⟩
theorem D2.below {base : Nat} {w w' : World} {u v : Value} {L M : List Int} (h : D2 base w u v L M) (hb : Below w.heap.size w w') : D2 base w' u v L M := ⟨ownBelow h.a hb, ownBelow h.b hb, h.ap⟩
theorem D2.app {base : Nat} {w w' : World} {u v u' : Value} {L M : List Int} {x : Int} (h : D2 base w u v L M) (hown : w'.ownsRow base 3 1 u' (L.length + 1) (L.map i64v ++ [i64v x])) (hg : w.grownBy w' u.ownBlock) (hat : u'.ownBlock = u.ownBlock ∨ u'.ownBlock = some w.heap.size) : D2 base w' u' v (L ++ [x]) M := by
  refine ⟨by rw [List.length_append, List.map_append]; exact hown, own_grownG h.b hg h.ap, fun k hk hv => ?_⟩
  rcases hat with e | e
  · exact h.ap k (e ▸ hk) hv
  · rw [e] at hk
    cases hk
    have := (h.b.lt _ hv).2
    omega
/-- The chains of a round: what is made of each list. -/
def dU (u : Value) (t i : Nat) (b : Act) : Value := if i < 2 then u else b.tmps.getD t undef
def dL (L : List Int) (x : Int) (i : Nat) : List Int := if i < 2 then L else L ++ [x]
/-- Both. -/
structure RD (base : Nat) (u v : Value) (L M : List Int) (x y : Int) (t1 t2 s1 s2 i j : Nat) (b : Act) (w : World) : Prop where
  d : D2 base w (dU u t2 i b) (dU v s2 j b) (dL L x i) (dL M y j)
  p : i = 1 → ∃ g, b.tmps.getD t1 undef = .slice (some ⟨g, 0, none⟩) 1 1 ∧ w.cell? ⟨g, 0, none⟩ = some (.int .i64 (x)) ∧ g < w.heap.size ∧ (dU v s2 j b).ownBlock ≠ some g
  q : j = 1 → ∃ g, b.tmps.getD s1 undef = .slice (some ⟨g, 0, none⟩) 1 1 ∧ w.cell? ⟨g, 0, none⟩ = some (.int .i64 (y)) ∧ g < w.heap.size ∧ (dU u t2 i b).ownBlock ≠ some g
theorem RD.swap {base : Nat} {u v : Value} {L M : List Int} {x y : Int} {t1 t2 s1 s2 i j : Nat} {b : Act} {w : World} (h : RD base u v L M x y t1 t2 s1 s2 i j b w) : RD base v u M L y x s1 s2 t1 t2 j i b w := ⟨h.d.swap, h.q, h.p⟩
theorem RD.build {base : Nat} {u v : Value} {L M : List Int} {x y : Int} {t1 t2 s1 s2 j : Nat} {b : Act} {w : World} (h : RD base u v L M x y t1 t2 s1 s2 0 j b w) (hl : t1 < b.tmps.size) (n1 : t1 ≠ s1) (n2 : t1 ≠ s2) : RD base u v L M x y t1 t2 s1 s2 1 j (b.put (some t1) (.slice (some ⟨w.heap.size, 0, none⟩) 1 1)) (w.alloc (.cells #[.int .i64 (x)] 3)) := by
  have hb : Below w.heap.size w (w.alloc (.cells #[.int .i64 (x)] 3)) := Below.alloc (Below.refl _ _) (Nat.le_refl _) _
  have e : (b.put (some t1) (.slice (some ⟨w.heap.size, 0, none⟩) 1 1)).tmps.getD s2 undef = b.tmps.getD s2 undef := put_off n2
  have ev : dU v s2 j (b.put (some t1) (.slice (some ⟨w.heap.size, 0, none⟩) 1 1)) = dU v s2 j b := by unfold dU; rw [e]
  have hD := h.d.below hb
  refine ⟨?_, fun _ => ⟨w.heap.size, put_at hl, by simp [go_sem], by simp, fun e2 => ?_⟩, fun hj => ?_⟩
  · rw [ev]; exact hD
  · rw [ev] at e2
    have := (h.d.b.lt _ e2).2
    omega
  · obtain ⟨g, g1, g2, g3, g4⟩ := h.q hj
    exact ⟨g, by rw [put_off n1]; exact g1, bCs hb g2, Nat.lt_of_lt_of_le g3 hb.size, g4⟩
theorem RD.app {base : Nat} {u v u' : Value} {L M : List Int} {x y : Int} {t1 t2 s1 s2 j : Nat} {b : Act} {w w' : World} (h : RD base u v L M x y t1 t2 s1 s2 1 j b w) (hl : t2 < b.tmps.size) (n1 : t2 ≠ s1) (n2 : t2 ≠ s2)
    (hown : w'.ownsRow base 3 1 u' (L.length + 1) (L.map i64v ++ [i64v x])) (hg : w.grownBy w' u.ownBlock) (hat : u'.ownBlock = u.ownBlock ∨ u'.ownBlock = some w.heap.size) : RD base u v L M x y t1 t2 s1 s2 2 j (b.put (some t2) u') w' := by
  have e : (b.put (some t2) u').tmps.getD s2 undef = b.tmps.getD s2 undef := put_off n2
  have ev : dU v s2 j (b.put (some t2) u') = dU v s2 j b := by unfold dU; rw [e]
  have eu : dU u t2 2 (b.put (some t2) u') = u' := put_at hl
  refine ⟨?_, fun h => absurd h (by omega), fun hj => ?_⟩
  · rw [ev, eu]
    exact D2.app (L := L) h.d hown hg hat
  · obtain ⟨g, g1, g2, g3, g4⟩ := h.q hj
    refine ⟨g, by rw [put_off n1]; exact g1, ?_, Nat.lt_of_lt_of_le g3 hg.size, ?_⟩
    · rw [World.cell?_of_block (hg.block g g3 fun e2 => g4 e2.symm)]; exact g2
    · rw [eu]
      intro e2
      rcases hat with e3 | e3
      · exact g4 (e3 ▸ e2)
      · rw [e3] at e2; cases e2; omega
set_option maxRecDepth 100000 in
set_option maxHeartbeats 8000000 in
theorem mirrored_walk (fa : Option Addr) (fn fc : Nat) (zs : List Int) (ta : Option Addr) (tn tc : Nat) (to : List Int) (sl : Int) (w : World) (hI : IsInts w fa fn zs) (hT : IsInts w ta tn to) (hfn : fn ≤ 9223372036854775807) (htn : tn ≤ 9223372036854775807) (hs : (-9223372036854775808 ≤ sl ∧ sl ≤ 9223372036854775807)) :
    Calls Try.prog 3 #[.slice fa fn fc, .slice ta tn tc, .int .i64 sl] w fun e w' => e = .returned (.bool true) ∧ Below w.heap.size w w' := by
  have HI := Lib.hid hI; have HT := Lib.hid hT
  have HPL := Lib.hid (fun (w' : World) (hb : Below w.heap.size w w') => Plan_any fa fn fc zs ta tn tc to sl w' (hI.below hb) (hT.below hb) hfn htn hs)
  clear hI hT
  go_enter Try.func3, Try.ntmps3
  go_wp2_with fail
  refine (alive13 w).mono ?_
  rintro r w1 ⟨rfl, hb1⟩
  have HB1 := Lib.hid hb1
  clear hb1
  go_wp2_with fail
  refine (HPL.out w1 HB1.out).mono ?_
  rintro r w2 ⟨hb2, hc⟩
  have HB2 : Hid (Below w.heap.size w w2) := Lib.hid (HB1.out.trans (hb2.mono HB1.out.size))
  have HC := Lib.hid hc
  clear hb2 hc HPL
  rcases HC.out with ⟨h, rfl⟩ | ⟨h, hno, rfl⟩ | ⟨h, N, L, A, C, hN, hd, hf, rfl, hp⟩
  · have hne : (wrP zs to sl != 0) = true := by simpa using h
    generalize wrP zs to sl = Er at *
    clear HC h
    go_wp2
    go_ret
    exact ⟨rfl, HB2.out⟩
  · clear HC h hno
    go_wp2
    go_ret
    exact ⟨rfl, HB2.out⟩
  · have HW := Lib.hid h
    obtain ⟨hz1, hz5, hzl, hs1, hs11, hoz, hot⟩ := wrP_zero h
    have HLL : Hid (L.length = N) := Lib.hid (hf.does hd).1
    have HDM := Lib.hid (dmin_mir hzl.symm hd)
    have HOK := Lib.hid hoz; have HOT := Lib.hid hot
    have hfz := HI.out.1
    have htz := HT.out.1
    obtain rfl : fn = tn := by omega
    have hf1 : 1 ≤ fn := by omega
    have hf5 : fn ≤ 5 := by omega
    have HZF := Lib.hid hfz; have HTF := Lib.hid htz
    obtain ⟨bf, of, ef, lf, cf⟩ := HI.out.2 (by omega)
    obtain ⟨bt, ot, et, lt, ct⟩ := HT.out.2 (by omega)
    subst ef et
    have HCF := Lib.hid cf; have HCT := Lib.hid ct
    obtain ⟨M, hM⟩ : ∃ M, L.length = M := ⟨_, rfl⟩
    rw [hM] at HLL ⊢
    clear HC h hN hd hf hp hoz hot hzl hfz htz cf ct hz1 hz5 hM
    go_wp2_with fail
    go_loopw [9, 10, 11] (fun u v iv wr => ∃ (k : Nat), k ≤ fn ∧ iv = .int .i64 ((fn : Int) - 1 - k) ∧ Hid (D2 w.heap.size wr u v (mirK zs k) (mirK to k)) ∧ Hid (Below w.heap.size w wr)) (fun _ _ iv _ => (intOf iv + 1).toNat)
    case atStart => exact ⟨0, by omega, by go_num, Lib.hid (D2.nil _ _), HB2⟩
    case round =>
      obtain ⟨k, hk, rfl, HD, HB⟩ := hrel
      by_cases hkN : k < fn
      · obtain ⟨j, hj⟩ : ∃ j : Nat, (fn : Int) - 1 - k = j := ⟨fn - 1 - k, by omega⟩
        rw [hj]
        have hj' : j = fn - 1 - k := by omega
        have HJ := Lib.hid hj'
        have HK := Lib.hid (show k + j + 1 = fn by omega)
        have hjn : j < fn := by omega
        clear hj hj' hk hkN
        go_wp2_with fail
        have f0 : (wr.drew).heap.size = wr.heap.size := rfl
        refine wp_region_HS (Below w.heap.size w) (by kernel_rfl) ?_
        have HBD : Hid (Below w.heap.size w wr.drew) := Lib.hid HB.out.drew
        (refine anyH_takeS (i := 0) rfl (by kernel_rfl) (fun _ _ _ _ h => h) HBD.out (fun K hK => ?_); go_simp; refine ⟨_, fun _ _ => rfl, hK _ ?_⟩; clear hK K)
        (refine anyH_takeS (i := 1) rfl (by kernel_rfl) (fun _ _ _ _ h => h) HBD.out (fun K hK => ?_); go_simp; refine ⟨_, fun _ _ => rfl, hK _ ?_⟩; clear hK K)
        (refine anyH_takeS (i := 2) rfl (by kernel_rfl) (fun _ _ _ _ h => h) HBD.out (fun K hK => ?_); go_simp; refine ⟨_, fun _ _ => rfl, hK _ ?_⟩; clear hK K)
        (refine anyH_takeS (i := 3) rfl (by kernel_rfl) (fun _ _ _ _ h => h) HBD.out (fun K hK => ?_); go_simp; refine ⟨_, fun _ _ => rfl, hK _ ?_⟩; clear hK K)
        (refine anyH_takeS (i := 4) rfl (by kernel_rfl) (fun _ _ _ _ h => h) HBD.out (fun K hK => ?_); simp only [Region.wanted, if_true]; refine ⟨.int .i64 (zs.getD j 0), fun w9 h9 => ?_, ?_⟩)
        · clear hK
          have p0 := bCs h9 (HCF.out j hjn)
          have l9 : LtW bf w9 := World.block_lt_of_cell? _ _ p0
          go_simp
        refine hK _ ?_
        clear hK K
        have rx := (HOK.out j (by rw [HZF.out]; exact hjn))
        have ry := (HOT.out j (by rw [HTF.out]; exact hjn))
        unfold okAt at rx ry
        obtain ⟨rx1, rx2, _⟩ := rx
        obtain ⟨ry1, ry2, _⟩ := ry
        have HX : Hid (mirK zs (k + 1) = mirK zs k ++ [11 - zs.getD j 0]) := Lib.hid (by
          have h1 := HZF.out; have h2 := HK.out; have h3 := HJ.out
          rw [mirK_succ (by omega), h1, h3, show fn - 1 - k = fn - 1 - k from rfl])
        have HY : Hid (mirK to (k + 1) = mirK to k ++ [11 - to.getD j 0]) := Lib.hid (by
          have h1 := HTF.out; have h2 := HK.out; have h3 := HJ.out
          rw [mirK_succ (by omega), h1, h3, show fn - 1 - k = fn - 1 - k from rfl])
        have hcy := HCT.out j hjn
        have HCY := Lib.hid hcy
        clear hcy
        obtain ⟨x, hx⟩ : ∃ x, zs.getD j 0 = x := ⟨_, rfl⟩
        obtain ⟨y, hy⟩ : ∃ y, to.getD j 0 = y := ⟨_, rfl⟩
        rw [hx] at rx1 rx2 HX ⊢
        rw [hy] at ry1 ry2 HY HCY
        clear hx hy
        have wx : IntKind.i64.wrap (11 - x) = 11 - x := IntWalk.i64_in _ (by omega)
        have wy : IntKind.i64.wrap (11 - y) = 11 - y := IntWalk.i64_in _ (by omega)
        (refine anyH_takeS (i := 5) rfl (by kernel_rfl) (fun _ _ _ _ h => h) HBD.out (fun K hK => ?_); go_simp; refine ⟨_, fun _ _ => rfl, hK _ ?_⟩; clear hK K)
        (refine anyH_takeS (i := 8) rfl (by kernel_rfl) (fun _ _ _ _ h => h) HBD.out (fun K hK => ?_); go_simp; refine ⟨_, fun _ _ => rfl, hK _ ?_⟩; clear hK K)
        (refine anyH_takeS (i := 9) rfl (by kernel_rfl) (fun _ _ _ _ h => h) HBD.out (fun K hK => ?_); go_simp; refine ⟨_, fun _ _ => rfl, hK _ ?_⟩; clear hK K)
        (refine anyH_takeS (i := 10) rfl (by kernel_rfl) (fun _ _ _ _ h => h) HBD.out (fun K hK => ?_); go_simp; refine ⟨_, fun _ _ => rfl, hK _ ?_⟩; clear hK K)
        (refine anyH_takeS (i := 11) rfl (by kernel_rfl) (fun _ _ _ _ h => h) HBD.out (fun K hK => ?_); go_simp; refine ⟨_, fun _ _ => rfl, hK _ ?_⟩; clear hK K)
        (refine anyH_takeS (i := 12) rfl (by kernel_rfl) (fun _ _ _ _ h => h) HBD.out (fun K hK => ?_); simp only [Region.wanted, if_true]; refine ⟨.int .i64 (y), fun w9 h9 => ?_, ?_⟩)
        · clear hK
          have p0 := bCs h9 HCY.out
          have l9 : LtW bt w9 := World.block_lt_of_cell? _ _ p0
          go_simp
        refine hK _ ?_
        clear hK K
        (refine anyH_takeS (i := 13) rfl (by kernel_rfl) (fun _ _ _ _ h => h) HBD.out (fun K hK => ?_); go_simp; refine ⟨_, fun _ _ => rfl, hK _ ?_⟩; clear hK K)
        have hD0 := HD.out
        have hkf : k ≤ fn := by have := HK.out; omega
        refine anyH_two (A := [6, 7]) (B := [14, 15]) (g := 2) (by kernel_rfl) (by kernel_rfl) [37, 38, 45, 46] (RD w.heap.size _ _ (mirK zs k) (mirK to k) (11 - x) (11 - y) 37 38 45 46) ?_ ?_ HBD.out ⟨hD0.below (Below.refl _ _).drew, fun h => absurd h (by omega), fun h => absurd h (by omega)⟩ ?_
        · intro i j' b w9 hi hj' hs9 hw9 hR
          have hsz : b.tmps.size = 63 := hs9.size
          have hi2 : i = 0 ∨ i = 1 := by simp at hi; omega
          rcases hi2 with rfl | rfl
          · skip
            have hk2 : b.tmps.getD 36 undef = .int .i64 (11 - x) := hs9.get (k := 36) (by decide)
            rw [Array.getD_eq_getD_getElem?] at hk2
            have HSZ := Lib.hid hsz; have HS9 := Lib.hid hs9; have HW9 := Lib.hid hw9; have HR := Lib.hid (hR)
            have hba : Below w9.heap.size w9 (w9.alloc (.cells #[.int .i64 (11 - x)] 3)) := Below.alloc (Below.refl _ _) (Nat.le_refl _) _
            clear hsz hs9 hR hw9
            refine wpOp_go (i := 6) rfl rfl (fun K hK => ?_)
            go_simp
            refine hK (b.put (some 37) (.slice (some ⟨w9.heap.size, 0, none⟩) 1 1)) _ ⟨HS9.out.put (by decide) _, HW9.out.trans (hba.mono HW9.out.size), HR.out.build (by rw [HSZ.out]; decide) (by decide) (by decide)⟩
          · have hlk : (mirK zs k).length = k := mirK_len (by rw [HZF.out]; exact hkf)
            have hk2 : b.tmps.getD 31 undef = u9 := hs9.get (k := 31) (by decide)
            obtain ⟨gB, gB1, gB2, gB3, gB4⟩ := (hR).p rfl
            refine app_opG okI8 (w := w9) (base := w.heap.size) (i := 7) rfl rfl (.tmp 31) (.tmp 37) rfl 38 rfl (mirK zs k).length ((mirK zs k).map i64v) [.int .i64 (11 - x)] (some ⟨gB, 0, none⟩) 1 1 (by rw [show b.eval (.tmp 31) = u9 from hk2]; exact (hR).d.a) gB1 (fun h => by cases h) rfl (fun _ => ⟨gB, 0, rfl, fun j u hu => by
              cases j with
              | zero => cases hu; exact gB2
              | succ j => cases hu⟩) (by simp [Value.oneCell']) (by omega) (by omega) hw9.size ?_
            intro v' w' h1 h2 h3 h4
            rw [show b.eval (.tmp 31) = u9 from hk2] at h2 h3
            exact ⟨hs9.put (by decide) _, hw9.trans (h4.mono (Nat.le_refl _)), hR.app (by rw [hsz]; decide) (by decide) (by decide) h1 h2 h3⟩
        · intro i j' b w9 hi hj' hs9 hw9 hR
          have hsz : b.tmps.size = 63 := hs9.size
          have hj2 : j' = 0 ∨ j' = 1 := by simp at hj'; omega
          rcases hj2 with rfl | rfl
          · skip
            have hk2 : b.tmps.getD 44 undef = .int .i64 (11 - y) := hs9.get (k := 44) (by decide)
            rw [Array.getD_eq_getD_getElem?] at hk2
            have HSZ := Lib.hid hsz; have HS9 := Lib.hid hs9; have HW9 := Lib.hid hw9; have HR := Lib.hid (hR.swap)
            have hba : Below w9.heap.size w9 (w9.alloc (.cells #[.int .i64 (11 - y)] 3)) := Below.alloc (Below.refl _ _) (Nat.le_refl _) _
            clear hsz hs9 hR hw9
            refine wpOp_go (i := 14) rfl rfl (fun K hK => ?_)
            go_simp
            refine hK (b.put (some 45) (.slice (some ⟨w9.heap.size, 0, none⟩) 1 1)) _ ⟨HS9.out.put (by decide) _, HW9.out.trans (hba.mono HW9.out.size), (HR.out.build (by rw [HSZ.out]; decide) (by decide) (by decide)).swap⟩
          · have hlk : (mirK to k).length = k := mirK_len (by rw [HTF.out]; exact hkf)
            have hk2 : b.tmps.getD 39 undef = u10 := hs9.get (k := 39) (by decide)
            obtain ⟨gB, gB1, gB2, gB3, gB4⟩ := (hR.swap).p rfl
            refine app_opG okI8 (w := w9) (base := w.heap.size) (i := 15) rfl rfl (.tmp 39) (.tmp 45) rfl 46 rfl (mirK to k).length ((mirK to k).map i64v) [.int .i64 (11 - y)] (some ⟨gB, 0, none⟩) 1 1 (by rw [show b.eval (.tmp 39) = u10 from hk2]; exact (hR.swap).d.a) gB1 (fun h => by cases h) rfl (fun _ => ⟨gB, 0, rfl, fun j u hu => by
              cases j with
              | zero => cases hu; exact gB2
              | succ j => cases hu⟩) (by simp [Value.oneCell']) (by omega) (by omega) hw9.size ?_
            intro v' w' h1 h2 h3 h4
            rw [show b.eval (.tmp 39) = u10 from hk2] at h2 h3
            exact ⟨hs9.put (by decide) _, hw9.trans (h4.mono (Nat.le_refl _)), (hR.swap.app (by rw [hsz]; decide) (by decide) (by decide) h1 h2 h3).swap⟩
        intro b w9 hs9 hw9 hR
        have hD9 : D2 w.heap.size w9 (b.tmps.getD 38 undef) (b.tmps.getD 46 undef) (mirK zs k ++ [11 - x]) (mirK to k ++ [11 - y]) := hR.d
        rw [← HX.out, ← HY.out] at hD9
        have hf := hs9.form
        have HD9 := Lib.hid hD9; have HB9 := Lib.hid hw9
        clear hs9 hw9 hR hD9 hD0
        simp only [List.foldl_cons, List.foldl_nil] at hf
        generalize b.tmps.getD 37 undef = v37 at hf
        generalize b.tmps.getD 45 undef = v45 at hf
        generalize b.tmps.getD 38 undef = v38 at hf HD9
        generalize b.tmps.getD 46 undef = v46 at hf HD9
        subst hf
        (refine anyH_takeS (i := 16) rfl (by kernel_rfl) (fun _ _ _ _ h => h) HB9.out (fun K hK => ?_); go_simp; refine ⟨_, fun _ _ => rfl, hK _ ?_⟩; clear hK K)
        (refine anyH_takeS (i := 17) rfl (by kernel_rfl) (fun _ _ _ _ h => h) HB9.out (fun K hK => ?_); go_simp; refine ⟨_, fun _ _ => rfl, hK _ ?_⟩; clear hK K)
        refine wpAnyH_done (by kernel_rfl) ?_ _
        go_wp2
        go_roundw
        case rel => exact ⟨k + 1, by have := HK.out; omega, by have := HK.out; go_num, HD9, HB9⟩
        case measure => simp [intOf]
      · obtain rfl : k = fn := by omega
        have HDE : Hid (D2 w.heap.size wr u9 u10 (mir zs) (mir to)) := Lib.hid (by
          have h1 := HD.out
          have h2 := mirK_all zs
          have h3 := mirK_all to
          rw [HZF.out] at h2
          rw [HTF.out] at h3
          rwa [h2, h3] at h1)
        have hda := HDE.out.a
        have hdb := HDE.out.b
        rw [mir_len] at hda hdb
        obtain ⟨A7, c7, rfl, hI7, _, _⟩ := ints_owns (L := mir zs) (by rw [mir_len]; exact hda)
        obtain ⟨A8, c8, rfl, hI8, _, _⟩ := ints_owns (L := mir to) (by rw [mir_len]; exact hdb)
        rw [mir_len, HZF.out] at hI7 ⊢
        rw [mir_len, HTF.out] at hI8 ⊢
        have HP := Lib.hid (Plan_any A7 k c7 (mir zs) A8 k c8 (mir to) sl wr hI7 hI8 hfn htn hs)
        have HWM := Lib.hid (wrP_mir HW.out)
        clear hda hdb hI7 hI8 HD HDE
        go_wp2_with fail
        refine HP.out.mono ?_
        rintro r w3 ⟨hb3, hc⟩
        have HB3 : Hid (Below w.heap.size w w3) := Lib.hid (HB.out.trans (hb3.mono HB.out.size))
        clear hb3 HP
        rcases hc with ⟨h, _⟩ | ⟨_, h, _⟩ | ⟨_, K, L', A', C', _, hd, hf, rfl, _⟩
        · exact absurd HWM.out h
        · exact absurd HDM.out.1 (h N)
        · have hL : L'.length = M := by
            rw [(hf.does hd).1, hd.uniq HDM.out, HLL.out]
          rw [hL]
          clear hd hf hL
          have bMM : ((M : Int) == (M : Int)) = true := by simp
          go_wp2
          go_ret
          exact ⟨rfl, HB3.out⟩
end Go.Proofs.Ytoooihoaapfjeaa
