/- Lemmas on which the law of this seat rests; each states its own conditions. -/
import Derived.Test.YtajdoobkfbdgoaaDoorC20
import Derived.Test.YtajdoobkfbdgoaaDoorC05
import Derived.Test.YtajdoobkfbdgoaaDoorC06
import Derived.Deep.RegionWith
import Derived.Deep.DeepCutAuto
import Derived.Test.YtajdoobkfbdgoaaDoorRows
set_option linter.unusedVariables false
set_option linter.unusedSimpArgs false
namespace Go.Proofs.YtajdoobkfbdgoaaDoor
section
open Go.RowKit
open Lo
theorem IsInts.setOther {w : World} {a : Option Addr} {n : Nat} {zs : List Int} (h : IsInts w a n zs) {p : Addr} (hne : ∀ b o, a = some ⟨b, o, none⟩ → b ≠ p.block) (v : Value) : IsInts (w.setCell p v) a n zs := by
 refine ⟨h.1, fun hn => ?_⟩
 obtain ⟨b, o, h1, h2, h3⟩ := h.2 hn
 exact ⟨b, o, h1, by rw [World.size_setCell]; exact h2, fun j hj => (World.cell?_of_block (Below.heap_setCell _ _ _ b (fun e => hne b o h1 (by rw [e])))).trans (h3 j hj)⟩
theorem dF_congr {w : World} {b : Nat} {f : Nat → Value} {v0 v3 v4 : Value} {W H : Int} (h : w.rowIs b 35 5 f) (h0 : f 0 = v0) (h1 : f 1 = .int .i64 W) (h2 : f 2 = .int .i64 H) (h3 : f 3 = v3) (h4 : f 4 = v4) : w.rowIs b 35 5 (dF v0 W H v3 v4) :=
 h.congr fun i hi => by
  have hi5 : i = 0 ∨ i = 1 ∨ i = 2 ∨ i = 3 ∨ i = 4 := by omega
  rcases hi5 with rfl | rfl | rfl | rfl | rfl
  ·exact h0
  ·exact h1
  ·exact h2
  ·exact h3
  ·exact h4
structure DB (base mb : Nat) (vt : Value) (W H : Int) (vr : Value) (L : List Bool) (W1 : World) (v : Value) (w : World) : Prop where
 row : w.rowIs mb 35 5 (dF vt W H v vr)
 own : w.ownsRow base 4 1 v L.length (L.map Value.bool)
 bel : BelowX base mb W1 w
theorem DB.start {base mb : Nat} {vt : Value} {W H : Int} {vr : Value} {w : World} (hr : w.rowIs mb 35 5 (dF vt W H (.slice none 0 0) vr)) (hb : base = w.heap.size) : DB base mb vt W H vr [] w (.slice none 0 0) w :=
 ⟨hr, World.ownsRow_nil _ _ _ _, BelowX.refl (by omega)⟩
theorem DB.app {base mb : Nat} {vt : Value} {W H : Int} {vr : Value} {L : List Bool} {n : Nat} {W1 w WE w2 : World} {v : Value} {A : Option Addr} {cp : Nat} {bit : Bool} (hr : w.rowIs mb 35 5 (dF vt W H v vr)) (hx : BelowX base mb W1 w) (hE : Below w.heap.size w WE) (hm : mb < base)
  (hown : w2.ownsRow base 4 1 (.slice A (n + 1) cp) (n + 1) (L.map Value.bool ++ (#[Value.bool bit]).toList)) (hb : Below base WE w2) :
  DB base mb vt W H vr (L ++ [bit]) W1 (.slice A (n + 1) cp) (w2.setCell ⟨mb, 3, none⟩ (.slice A (n + 1) cp)) := by
 have hlt : mb < w.heap.size := Nat.lt_of_lt_of_le hm hx.size
 have hn : (L ++ [bit]).length = n + 1 := by
  have h1 := hown.1
  simp at h1
  simp; omega
 have hsz : w.heap.size ≤ WE.heap.size := hE.size
 refine ⟨dF_congr ((rowBelow (rowBelow hr hE hlt) hb hm).set 3 _) rfl rfl rfl rfl rfl, ?_, ?_⟩
 ·rw [hn, List.map_append]
  exact ownsRow_setCell_below hown (a := ⟨mb, 3, none⟩) hm _
 ·refine ⟨hb.os.trans (hE.os.trans hx.os), hb.tape.trans (hE.tape.trans hx.tape), hb.output.trans (hE.output.trans hx.output), ?_, fun k hk hkm => ?_⟩
  ·rw [World.size_setCell]; exact Nat.le_trans hx.size (Nat.le_trans hE.size hb.size)
  ·rw [Below.heap_setCell _ _ _ k (fun e => hkm (by rw [e])), hb.block k hk, hE.block k (Nat.lt_of_lt_of_le hk hx.size), hx.block k hk hkm]
theorem BelowX.intsD {base mb : Nat} {W w : World} {a : Option Addr} {n : Nat} {zs : List Int} (h : BelowX base mb W w) (hi : IsInts W a n zs) (hW : ∀ b o, a = some ⟨b, o, none⟩ → b ≠ mb) (hbs : base = W.heap.size) : IsInts w a n zs := by
 refine ⟨hi.1, fun hn => ?_⟩
 obtain ⟨b, o, h1, h2, h3⟩ := hi.2 hn
 have h5 := hW b o h1
 exact ⟨b, o, h1, Nat.lt_of_lt_of_le h2 (by rw [← hbs]; exact h.size), fun j hj => (World.cell?_of_block (h.block b (by omega) h5)).trans (h3 j hj)⟩
def FewPost (W H : Nat) (bs : List Bool) (w : World) (r : Ending) (w' : World) : Prop := ∃ A1 c1 A2 c2 A5 c5, r = .returned (.tuple #[.agg #[.slice A1 W c1, .int .i64 ((ends W H bs).length), .int .i64 ((picks W H bs).length), .slice A5 ((ends W H bs).length * (picks W H bs).length) c5, .slice A2 H c2], .int .i64 (0)]) ∧ IsInts w' A1 W (natI (thL W H bs)) ∧ OkT w' A5 ((ends W H bs).length * (picks W H bs).length) c5 (tieL W H bs) ∧ IsInts w' A2 H (natI (trL W H bs)) ∧ Below w.heap.size w w' ∧ (∀ b o, A1 = some ⟨b, o, none⟩ → w.heap.size ≤ b) ∧ (∀ b o, A2 = some ⟨b, o, none⟩ → w.heap.size ≤ b) ∧ ∀ b o, A5 = some ⟨b, o, none⟩ → w.heap.size ≤ b
set_option maxRecDepth 100000 in
set_option maxHeartbeats 8000000 in
theorem dFew_ok (W H n : Nat) (a : Option Addr) (c : Nat) (bs : List Bool) (w : World) (hT : OkT w a n c bs) (hW : W ≤ 64) (hH : H ≤ 64) (hn : n = W * H) (hp : 0 < n) :
    Calls Tryd.prog 54 #[.agg #[.int .i64 (W), .int .i64 (H), .slice a n c]] w (FewPost W H bs w) := by
  have hn4 : n ≤ 4096 := by rw [hn]; exact mul64n hW hH
  have HD := Lib.hid (fun w h => Turned_any W H n hn a c bs w h hW hH)
  have HT := Lib.hid hT
  have HN := Lib.hid hn
  have hn0 : ((n : Int) == 0) = false := by simp; omega
  have HA1 : Hid (∀ g w, OkT w (some ⟨g, 0, none⟩) n n (turnL W H bs) → Calls Tryd.prog 75 #[.agg #[.int .i64 (H), .int .i64 (W), .slice (some ⟨g, 0, none⟩) n n]] w (IntsPostG (thL W H bs) w)) := Lib.hid (by
    intro g w h
    have e : n = H * W := by rw [hn, Nat.mul_comm]
    subst e
    exact Alike_okG H W _ _ _ w h hH hW)
  have HA2 : Hid (∀ w, OkT w a n c bs → Calls Tryd.prog 75 #[.agg #[.int .i64 (W), .int .i64 (H), .slice a n c]] w (IntsPostG (trL W H bs) w)) := Lib.hid (by
    intro w h
    subst hn
    exact Alike_okG W H _ _ _ w h hW hH)
  clear hT hn
  go_enter Tryd.func54, Tryd.ntmps54
  go_wp2_with fail
  refine (HD.out _ (HT.out.below blw)).mono ?_
  rintro r w1 ⟨g, rfl, hg, hb⟩
  have HG := Lib.hid hg
  obtain ⟨E1, d1, rfl⟩ := bExt hb
  clear hb hg
  go_wp2_with fail
  obtain ⟨W1, hW1⟩ : ∃ W1, extW ((w.alloc (.cells #[.int .i64 (W), .int .i64 (H), .slice a n c] 33)).alloc (.cells #[.slice none 0 0, .int .i64 (0), .int .i64 (0), .slice none 0 0, .slice none 0 0] 35)) E1 d1 = W1 := ⟨_, rfl⟩
  have hr := rowBelow (dF_alloc (w.alloc (.cells #[.int .i64 (W), .int .i64 (H), .slice a n c] 33)) (.slice none 0 0) 0 0 (.slice none 0 0) (.slice none 0 0)) (bExtW (Below.refl _ _) (Nat.le_refl _) : Below _ _ (extW ((w.alloc (.cells #[.int .i64 (W), .int .i64 (H), .slice a n c] 33)).alloc (.cells #[.slice none 0 0, .int .i64 (0), .int .i64 (0), .slice none 0 0, .slice none 0 0] 35)) E1 d1)) (by simp)
  have hq := rowBelow ((tF_alloc w W H (.slice a n c) rfl).alloc (.cells #[.slice none 0 0, .int .i64 (0), .int .i64 (0), .slice none 0 0, .slice none 0 0] 35)) (bExtW (Below.refl _ _) (Nat.le_refl _) : Below _ _ (extW ((w.alloc (.cells #[.int .i64 (W), .int .i64 (H), .slice a n c] 33)).alloc (.cells #[.slice none 0 0, .int .i64 (0), .int .i64 (0), .slice none 0 0, .slice none 0 0] 35)) E1 d1)) (by simp; omega)
  have hbw0 : Below w.heap.size w (extW ((w.alloc (.cells #[.int .i64 (W), .int .i64 (H), .slice a n c] 33)).alloc (.cells #[.slice none 0 0, .int .i64 (0), .int .i64 (0), .slice none 0 0, .slice none 0 0] 35)) E1 d1) := blw
  have hsz1 : (extW ((w.alloc (.cells #[.int .i64 (W), .int .i64 (H), .slice a n c] 33)).alloc (.cells #[.slice none 0 0, .int .i64 (0), .int .i64 (0), .slice none 0 0, .slice none 0 0] 35)) E1 d1).heap.size = w.heap.size + 1 + 1 + E1.size := by simp
  rw [World.size_alloc] at hr
  rw [hW1] at hr hq hbw0 hsz1 HG ⊢
  clear hW1
  have hr2 := (hr.alloc (.cells #[.int .i64 (H), .int .i64 (W), .slice (some ⟨g, 0, none⟩) n n] 33)).alloc (.cells #[.slice none 0 0, .int .i64 (0), .int .i64 (0), .slice none 0 0, .slice none 0 0] 35)
  have hq2 := (hq.alloc (.cells #[.int .i64 (H), .int .i64 (W), .slice (some ⟨g, 0, none⟩) n n] 33)).alloc (.cells #[.slice none 0 0, .int .i64 (0), .int .i64 (0), .slice none 0 0, .slice none 0 0] 35)
  have hd2 := dF_alloc (W1.alloc (.cells #[.int .i64 (H), .int .i64 (W), .slice (some ⟨g, 0, none⟩) n n] 33)) (.slice none 0 0) 0 0 (.slice none 0 0) (.slice none 0 0)
  have hb2 : Below W1.heap.size W1 ((W1.alloc (.cells #[.int .i64 (H), .int .i64 (W), .slice (some ⟨g, 0, none⟩) n n] 33)).alloc (.cells #[.slice none 0 0, .int .i64 (0), .int .i64 (0), .slice none 0 0, .slice none 0 0] 35)) := blw
  have hsz2 : ((W1.alloc (.cells #[.int .i64 (H), .int .i64 (W), .slice (some ⟨g, 0, none⟩) n n] 33)).alloc (.cells #[.slice none 0 0, .int .i64 (0), .int .i64 (0), .slice none 0 0, .slice none 0 0] 35)).heap.size = W1.heap.size + 1 + 1 := by simp
  rw [World.size_alloc] at hd2
  have hT2 := HG.out.below hb2
  generalize (W1.alloc (.cells #[.int .i64 (H), .int .i64 (W), .slice (some ⟨g, 0, none⟩) n n] 33)).alloc (.cells #[.slice none 0 0, .int .i64 (0), .int .i64 (0), .slice none 0 0, .slice none 0 0] 35) = W2 at *
  have hbw2 := hbw0.trans (hb2.mono hbw0.size)
  rw [hsz1] at hd2 hsz2
  obtain ⟨db, hdb⟩ : ∃ db, w.heap.size + 1 + 1 + E1.size + 1 = db := ⟨_, rfl⟩
  rw [hdb] at hd2 hsz2 ⊢
  obtain ⟨rb, hrb⟩ : ∃ rb, w.heap.size + 1 = rb := ⟨_, rfl⟩
  rw [hrb] at hr2 hdb ⊢
  obtain ⟨q, hqe⟩ : ∃ q, w.heap.size = q := ⟨_, rfl⟩
  rw [hqe] at hq2 hrb hbw2 ⊢
  have hord : q < rb ∧ rb < db ∧ db < W2.heap.size := by omega
  have HQE := Lib.hid hqe
  clear hb2 hbw0 hr hq hsz1 hdb hrb hqe HG
  refine (HA1.out _ _ hT2).mono ?_
  rintro r w1 ⟨A1, c1, rfl, hI1, hb1, hg1⟩
  have hq3 := rowBelow hq2 hb1 (by omega)
  have hr3 := rowBelow hr2 hb1 (by omega)
  have hd3 := rowBelow hd2 hb1 (by omega)
  have hbw3 := hbw2.trans (hb1.mono (by omega))
  have hs3 := hb1.size
  have HQ := Lib.hid hq3; have HR := Lib.hid hr3; have HD3 := Lib.hid hd3; have HBW := Lib.hid hbw3; have HI1 := Lib.hid hI1; have HG1 := Lib.hid hg1
  have fd := hd3.frozen 0
  have cd : w1.cell? ⟨db, 0, none⟩ = some (.slice none 0 0) := hd3.cell (i := 0) (by omega)
  have ld : LtW db w1 := hd3.lt
  clear hq2 hr2 hd2 hb1 hbw2 hsz2 hT2 hq3 hr3 hd3 hbw3 hI1 hg1
  go_upto_region 8 with fail
  have hq4 := HQ.out.setOther (a := ⟨db, 0, none⟩) (show q ≠ db by omega) (.slice A1 (thL W H bs).length c1)
  have hr4 := HR.out.setOther (a := ⟨db, 0, none⟩) (show rb ≠ db by omega) (.slice A1 (thL W H bs).length c1)
  have hd4 := dF_congr (v0 := .slice A1 (thL W H bs).length c1) (W := 0) (H := 0) (v3 := .slice none 0 0) (v4 := .slice none 0 0) (HD3.out.set 0 (.slice A1 (thL W H bs).length c1)) rfl rfl rfl rfl rfl
  have hI4 := HI1.out.setOther (p := ⟨db, 0, none⟩) (fun b o e => by have := HG1.out b o e; simp only; omega) (.slice A1 (thL W H bs).length c1)
  have hb4 := HBW.out.setCell (p := ⟨db, 0, none⟩) (by simp; omega) (.slice A1 (thL W H bs).length c1)
  have hs4 : (w1.setCell ⟨db, 0, none⟩ (.slice A1 (thL W H bs).length c1)).heap.size = w1.heap.size := World.size_setCell _ _ _
  have hT4 := HT.out.below (by rw [HQE.out]; exact hb4)
  generalize w1.setCell ⟨db, 0, none⟩ (.slice A1 (thL W H bs).length c1) = W4 at *
  have q0 : W4.cell? ⟨q, 0, none⟩ = some (.int .i64 (W)) := hq4.cell (i := 0) (by omega)
  have q1 : W4.cell? ⟨q, 1, none⟩ = some (.int .i64 (H)) := hq4.cell (i := 1) (by omega)
  have q2 : W4.cell? ⟨q, 2, none⟩ = some (.slice a n c) := hq4.cell (i := 2) (by omega)
  have lq : LtW q W4 := hq4.lt
  have HQ4 := Lib.hid hq4; have HR4 := Lib.hid hr4; have HD4 := Lib.hid hd4; have HI4 := Lib.hid hI4; have HB4 := Lib.hid hb4; have HT4 := Lib.hid hT4
  clear hq4 hr4 hd4 hI4 hb4 hT4 HQ HR HD3 HBW HI1 fd cd ld
  go_wp2_with fail
  refine (HA2.out _ HT4.out).mono ?_
  rintro r w2 ⟨A2, c2, rfl, hI2, hb2, hg2⟩
  have hq5 := rowBelow HQ4.out hb2 (by omega)
  have hr5 := rowBelow HR4.out hb2 (by omega)
  have hd5 := rowBelow HD4.out hb2 (by omega)
  have hbw5 := HB4.out.trans (hb2.mono (by omega))
  have hI5 := HI4.out.below hb2
  have hs5 := hb2.size
  have HQ5 := Lib.hid hq5; have HR5 := Lib.hid hr5; have HD5 := Lib.hid hd5; have HB5 := Lib.hid hbw5; have HI5 := Lib.hid hI5; have HJ5 := Lib.hid hI2; have HG2 := Lib.hid hg2
  have fd := hd5.frozen 4
  have cd : w2.cell? ⟨db, 4, none⟩ = some (.slice none 0 0) := hd5.cell (i := 4) (by omega)
  have ld : LtW db w2 := hd5.lt
  clear hq5 hr5 hd5 hbw5 hI5 hb2 hI2 hg2 q0 q1 q2 lq
  go_upto_region 9 with fail
  have hq6 := HQ5.out.setOther (a := ⟨db, 4, none⟩) (show q ≠ db by omega) (.slice A2 (trL W H bs).length c2)
  have hr6 := HR5.out.setOther (a := ⟨db, 4, none⟩) (show rb ≠ db by omega) (.slice A2 (trL W H bs).length c2)
  have hd6 := dF_congr (v0 := .slice A1 (thL W H bs).length c1) (W := 0) (H := 0) (v3 := .slice none 0 0) (v4 := .slice A2 (trL W H bs).length c2) (HD5.out.set 4 (.slice A2 (trL W H bs).length c2)) rfl rfl rfl rfl rfl
  have hI6 := HI5.out.setOther (p := ⟨db, 4, none⟩) (fun b o e => by have := HG1.out b o e; simp only; omega) (.slice A2 (trL W H bs).length c2)
  have hJ6 := HJ5.out.setOther (p := ⟨db, 4, none⟩) (fun b o e => by have := HG2.out b o e; simp only; omega) (.slice A2 (trL W H bs).length c2)
  have hb6 := HB5.out.setCell (p := ⟨db, 4, none⟩) (by simp; omega) (.slice A2 (trL W H bs).length c2)
  have hs6 : (w2.setCell ⟨db, 4, none⟩ (.slice A2 (trL W H bs).length c2)).heap.size = w2.heap.size := World.size_setCell _ _ _
  generalize w2.setCell ⟨db, 4, none⟩ (.slice A2 (trL W H bs).length c2) = W9 at *
  have HQ9 := Lib.hid hq6; have HR9 := Lib.hid hr6; have HD9 := Lib.hid hd6; have HI9 := Lib.hid hI6; have HJ9 := Lib.hid hJ6; have HB9 := Lib.hid hb6
  have c0 : W9.cell? ⟨db, 0, none⟩ = some (.slice A1 (thL W H bs).length c1) := hd6.cell (i := 0) (by omega)
  have c4 : W9.cell? ⟨db, 4, none⟩ = some (.slice A2 (trL W H bs).length c2) := hd6.cell (i := 4) (by omega)
  have ld9 : LtW db W9 := hd6.lt
  clear hq6 hr6 hd6 hI6 hJ6 hb6 HQ5 HR5 HD5 HI5 HJ5 HB5 fd cd ld HQ4 HR4 HD4 HI4 HB4 HT4 HA1 HA2 HD
  have HF1 : Hid (∀ w, IsInts w A1 (thL W H bs).length (natI (thL W H bs)) → Calls Tryd.prog 76 #[.slice A1 (thL W H bs).length c1] w (NatsPost (ends W H bs) w)) := Lib.hid fun w h => by
    have := firsts_any A1 c1 (thL W H bs) w h (by rw [thL_len]; exact hW)
    rwa [show frs (thL W H bs) (thL W H bs).length = ends W H bs by unfold ends; rw [thL_len]] at this
  have HF2 : Hid (∀ w, IsInts w A2 (trL W H bs).length (natI (trL W H bs)) → Calls Tryd.prog 76 #[.slice A2 (trL W H bs).length c2] w (NatsPost (picks W H bs) w)) := Lib.hid fun w h => by
    have := firsts_any A2 c2 (trL W H bs) w h (by rw [trL_len]; exact hH)
    rwa [show frs (trL W H bs) (trL W H bs).length = picks W H bs by unfold picks; rw [trL_len]] at this
  have hs7 : w2.heap.size ≤ W9.heap.size := Nat.le_of_eq hs6.symm
  clear hs6
  have hs7 : db < W9.heap.size := ld9
  go_upto_region 9 with fail
  refine wp_region_any (by kernel_rfl) ?_
  refine anyT_any (S := fun w' => Below W9.heap.size W9 w') (stop := fun _ => false) _ _ _ _ ?_
  (refine anyT_take (i := 0) (.pointer (some ⟨db, 0, none⟩)) rfl (by kernel_rfl) (fun c a w h => by (simp (config := {zetaDelta := true}) [Exit.then, bodyPost, go_sem, FewPost] at h; done)) (.inl ⟨by simp [Region.wanted], fun wx hx => ?_⟩) blw ?_; · have e0 := bCs hx c0; have e4 := bCs hx c4; have lx := hx.size; clear hx; go_simp); go_simp
  (refine anyT_take (i := 1) (.slice A1 (thL W H bs).length c1) rfl (by kernel_rfl) (fun c a w h => by (simp (config := {zetaDelta := true}) [Exit.then, bodyPost, go_sem, FewPost] at h; done)) (.inl ⟨by simp [Region.wanted], fun wx hx => ?_⟩) blw ?_; · have e0 := bCs hx c0; have e4 := bCs hx c4; have lx := hx.size; clear hx; go_simp); go_simp
  (refine anyT_take (i := 3) (.pointer (some ⟨db, 4, none⟩)) rfl (by kernel_rfl) (fun c a w h => by (simp (config := {zetaDelta := true}) [Exit.then, bodyPost, go_sem, FewPost] at h; done)) (.inl ⟨by simp [Region.wanted], fun wx hx => ?_⟩) blw ?_; · have e0 := bCs hx c0; have e4 := bCs hx c4; have lx := hx.size; clear hx; go_simp); go_simp
  (refine anyT_take (i := 4) (.slice A2 (trL W H bs).length c2) rfl (by kernel_rfl) (fun c a w h => by (simp (config := {zetaDelta := true}) [Exit.then, bodyPost, go_sem, FewPost] at h; done)) (.inl ⟨by simp [Region.wanted], fun wx hx => ?_⟩) blw ?_; · have e0 := bCs hx c0; have e4 := bCs hx c4; have lx := hx.size; clear hx; go_simp); go_simp
  refine anyT_one (i := 2) (by kernel_rfl) rfl rfl ?_
  go_simp
  refine (HF1.out _ (HI9.out.below blw)).mono ?_
  rintro e wx1 ⟨X1, cx1, rfl, hx1, hbx1, hgx1⟩
  have hW1 : Below W9.heap.size W9 wx1 := blw
  have hz1 := hW1.size
  have HGX1 := Lib.hid (show ∀ b o, X1 = some ⟨b, o, none⟩ → W9.heap.size ≤ b from hgx1)
  have HX1 := Lib.hid hx1
  have HW1 := Lib.hid hW1
  clear hx1 hbx1 hgx1 hW1
  go_simp
  refine ⟨HW1.out, ?_⟩
  refine anyT_one (i := 5) (by kernel_rfl) rfl rfl ?_
  go_simp
  refine (HF2.out _ (HJ9.out.below HW1.out)).mono ?_
  rintro e wx2 ⟨X2, cx2, rfl, hx2, hbx2, hgx2⟩
  have hz2 := hbx2.size
  have HGX2 := Lib.hid (show ∀ b o, X2 = some ⟨b, o, none⟩ → W9.heap.size ≤ b from fun b o e => Nat.le_trans hz1 (hgx2 b o e))
  have HX2 := Lib.hid hx2
  have HY1 := Lib.hid (HX1.out.below hbx2)
  have HW2 := Lib.hid (HW1.out.trans (hbx2.mono hz1))
  clear hx2 hbx2 hgx2 HX1 HW1
  go_simp
  refine ⟨HW2.out, ?_⟩
  refine anyT_one (i := 6) (by kernel_rfl) rfl rfl ?_
  go_simp
  refine ⟨HW2.out, ?_⟩
  refine anyT_one (i := 7) (by kernel_rfl) rfl rfl ?_
  go_simp
  refine ⟨HW2.out, ?_⟩
  refine anyT_done (by kernel_rfl) ?_
  go_simp
  refine (‹∀ (a : Act) (w : World), Code.wp Tryd.prog _ _ a w → _›) _ _ ?_
  have HELw : Hid (∀ x ∈ ends W H bs, x < W) := Lib.hid fun x hx => frs_lt _ _ _ hx
  have HPLw : Hid (∀ x ∈ picks W H bs, x < H) := Lib.hid fun x hx => frs_lt _ _ _ hx
  have hen : (ends W H bs).length ≤ 64 := Nat.le_trans (frs_len_le _ _) hW
  have hpn : (picks W H bs).length ≤ 64 := Nat.le_trans (frs_len_le _ _) hH
  have HTIE : Hid (tieL W H bs = ddL W bs (ends W H bs) (picks W H bs)) := Lib.hid rfl
  clear HF1 HF2
  have hth := thL_len W H bs
  have htr := trL_len W H bs
  generalize hEL : ends W H bs = EL at *
  generalize hPL : picks W H bs = PL at *
  generalize hTH : thL W H bs = TH at *
  generalize hTR : trL W H bs = TR at *
  have HEL := Lib.hid hEL; have HPL := Lib.hid hPL; have HTH := Lib.hid hTH; have HTR := Lib.hid hTR
  clear hEL hPL hTH hTR
  rw [hth, htr]
  have HLH := Lib.hid hth; have HLR := Lib.hid htr
  clear hth htr
  generalize het : EL.length = et at *
  generalize hpt : PL.length = pt at *
  have HET := Lib.hid het; have HPT := Lib.hid hpt
  clear het hpt
  have hq7 := rowBelow HQ9.out HW2.out (by omega)
  have hr7 := rowBelow HR9.out HW2.out (by omega)
  have hd7 := rowBelow HD9.out HW2.out (by omega)
  have hi7 := HI9.out.below HW2.out
  have hj7 := HJ9.out.below HW2.out
  have hb7 := HB9.out.trans (HW2.out.mono (by omega))
  have hs7 : db < wx2.heap.size := hd7.lt
  have f1 := hd7.frozen 1; have f2 := hd7.frozen 2; have f3 := hd7.frozen 3
  have e1 : wx2.cell? ⟨db, 1, none⟩ = some (.int .i64 (0)) := hd7.cell (i := 1) (by omega)
  have e2 : wx2.cell? ⟨db, 2, none⟩ = some (.int .i64 (0)) := hd7.cell (i := 2) (by omega)
  have e3 : wx2.cell? ⟨db, 3, none⟩ = some (.slice none 0 0) := hd7.cell (i := 3) (by omega)
  have ld : LtW db wx2 := hd7.lt
  have HQ7 := Lib.hid hq7; have HR7 := Lib.hid hr7; have HD7 := Lib.hid hd7; have HI7 := Lib.hid hi7; have HJ7 := Lib.hid hj7; have HB7 := Lib.hid hb7
  clear hq7 hr7 hd7 hi7 hj7 hb7 HQ9 HR9 HD9 HI9 HJ9 HB9 c0 c4 ld9 HW2
  go_upto_region 11 with fail
  obtain ⟨W10, hW⟩ : ∃ W10, ((wx2.setCell ⟨db, 1, none⟩ (.int .i64 (et))).setCell ⟨db, 2, none⟩ (.int .i64 (pt))).setCell ⟨db, 3, none⟩ (.slice none 0 0) = W10 := ⟨_, rfl⟩
  have hqA : W10.rowIs q 33 3 (tF W H (.slice a n c)) := by
    rw [← hW]
    exact ((HQ7.out.setOther (a := ⟨db, 1, none⟩) (show q ≠ db by omega) _).setOther (a := ⟨db, 2, none⟩) (show q ≠ db by omega) _).setOther (a := ⟨db, 3, none⟩) (show q ≠ db by omega) _
  have hrA : W10.rowIs rb 35 5 (dF (.slice none 0 0) 0 0 (.slice none 0 0) (.slice none 0 0)) := by
    rw [← hW]
    exact ((HR7.out.setOther (a := ⟨db, 1, none⟩) (show rb ≠ db by omega) _).setOther (a := ⟨db, 2, none⟩) (show rb ≠ db by omega) _).setOther (a := ⟨db, 3, none⟩) (show rb ≠ db by omega) _
  have hdA : W10.rowIs db 35 5 (dF (.slice A1 W c1) et pt (.slice none 0 0) (.slice A2 H c2)) := by
    rw [← hW]
    have h8 := HD7.out
    rw [HLH.out, HLR.out] at h8
    exact dF_congr (((h8.set 1 _).set 2 _).set 3 _) rfl rfl rfl rfl rfl
  have hiA : IsInts W10 A1 W (natI TH) := by
    rw [← hW]
    have hg : ∀ b o, A1 = some ⟨b, o, none⟩ → b ≠ db := fun b o e => by have := HG1.out b o e; omega
    have h7 : IsInts wx2 A1 W (natI TH) := by
      have h8 := HI7.out
      rwa [HLH.out] at h8
    exact ((h7.setOther (p := ⟨db, 1, none⟩) hg _).setOther (p := ⟨db, 2, none⟩) hg _).setOther (p := ⟨db, 3, none⟩) hg _
  have hjA : IsInts W10 A2 H (natI TR) := by
    rw [← hW]
    have hg : ∀ b o, A2 = some ⟨b, o, none⟩ → b ≠ db := fun b o e => by have := HG2.out b o e; omega
    have h7 : IsInts wx2 A2 H (natI TR) := by
      have h8 := HJ7.out
      rwa [HLR.out] at h8
    exact ((h7.setOther (p := ⟨db, 1, none⟩) hg _).setOther (p := ⟨db, 2, none⟩) hg _).setOther (p := ⟨db, 3, none⟩) hg _
  have hxA : IsInts W10 X1 et (natI EL) := by
    rw [← hW]
    have hg : ∀ b o, X1 = some ⟨b, o, none⟩ → b ≠ db := fun b o e => by have := HGX1.out b o e; omega
    exact ((HY1.out.setOther (p := ⟨db, 1, none⟩) hg _).setOther (p := ⟨db, 2, none⟩) hg _).setOther (p := ⟨db, 3, none⟩) hg _
  have hyA : IsInts W10 X2 pt (natI PL) := by
    rw [← hW]
    have hg : ∀ b o, X2 = some ⟨b, o, none⟩ → b ≠ db := fun b o e => by have := HGX2.out b o e; omega
    exact ((HX2.out.setOther (p := ⟨db, 1, none⟩) hg _).setOther (p := ⟨db, 2, none⟩) hg _).setOther (p := ⟨db, 3, none⟩) hg _
  have hbA : Below q w W10 := by
    rw [← hW]
    exact ((HB7.out.setCell (p := ⟨db, 1, none⟩) (by simp; omega) _).setCell (p := ⟨db, 2, none⟩) (by simp; omega) _).setCell (p := ⟨db, 3, none⟩) (by simp; omega) _
  rw [hW]
  clear hW HQ7 HR7 HD7 HI7 HJ7 HY1 HX2 HB7 f1 f2 f3 e1 e2 e3 ld
  obtain ⟨base, hbase⟩ : ∃ b, b = W10.heap.size := ⟨_, rfl⟩
  have hsA : db < base := by rw [hbase]; exact hdA.lt
  have hord2 : q < rb ∧ rb < db := ⟨hord.1, hord.2.1⟩
  have HQ := Lib.hid hqA; have HRB := Lib.hid hrA; have HO3 := Lib.hid hdA; have HI := Lib.hid hiA; have HJ := Lib.hid hjA; have HX := Lib.hid hxA; have HY := Lib.hid hyA; have HBS := Lib.hid hbase
  have HN1 : Hid (∀ b o, A1 = some ⟨b, o, none⟩ → b ≠ db ∧ b ≠ rb ∧ q ≤ b) := Lib.hid fun b o e => by have := HG1.out b o e; omega
  have HN2 : Hid (∀ b o, A2 = some ⟨b, o, none⟩ → b ≠ db ∧ b ≠ rb ∧ q ≤ b) := Lib.hid fun b o e => by have := HG2.out b o e; omega
  have HN3 : Hid (∀ b o, X1 = some ⟨b, o, none⟩ → b ≠ db) := Lib.hid fun b o e => by have := HGX1.out b o e; omega
  have HN4 : Hid (∀ b o, X2 = some ⟨b, o, none⟩ → b ≠ db) := Lib.hid fun b o e => by have := HGX2.out b o e; omega
  have hB0 : Hid (∀ w', BelowX base db W10 w' → Below w.heap.size w w') := Lib.hid fun w' h => by
    rw [HQE.out]
    exact hbA.trans ((h.below hbase.symm (Nat.le_refl _) hsA).mono (by omega))
  clear hqA hrA hdA hiA hjA hxA hyA hbA hbase HG1 HG2 HGX1 HGX2 hs4 hs5 hs3 hz1 hz2 hs7
  obtain ⟨F, hF⟩ : ∃ F, ddF W et bs EL PL = F := ⟨_, rfl⟩
  have HF := Lib.hid hF
  clear hF
  go_wp2_with fail
  go_loopw [53] (fun i wr => ∃ (y : Nat) (v : Value), y ≤ pt ∧ i = .int .i64 y ∧ DB base db (.slice A1 W c1) et pt (.slice A2 H c2) (bT F (y * et)) W10 v wr) (fun i _ => pt - (intOf i).toNat)
  case atStart => exact ⟨0, _, Nat.zero_le _, rfl, by rw [Nat.zero_mul]; exact DB.start HO3.out HBS.out⟩
  case round =>
    obtain ⟨y, v, hy, rfl, hfb⟩ := hrel
    have HFB := Lib.hid hfb
    have hbw := hB0.out _ hfb.bel
    by_cases hyn : y < pt
    · obtain ⟨b, o, rfl, hbl, hc⟩ := (hfb.bel.intsD HY.out HN4.out HBS.out).2 (by omega)
      have c0 := hc y hyn
      rw [natI_getN] at c0
      have lb : LtW b wr := hbl
      have htH := HPLw.out _ (getD_memN (L := PL) (j := y) (by rw [HPT.out]; exact hyn))
      obtain ⟨t, ht⟩ : ∃ t, PL.getD y 0 = t := ⟨_, rfl⟩
      have HTY := Lib.hid ht
      rw [ht] at c0 htH
      clear hc hbl ht hfb hbw
      go_wp2_with fail
      clear c0 lb
      go_loopw [59] (fun i wr => ∃ (x : Nat) (v : Value), x ≤ et ∧ i = .int .i64 x ∧ DB base db (.slice A1 W c1) et pt (.slice A2 H c2) (bT F (y * et + x)) W10 v wr) (fun i _ => et - (intOf i).toNat)
      case atStart => exact ⟨0, v, Nat.zero_le _, rfl, HFB.out⟩
      case round =>
        clear HFB
        obtain ⟨x, v, hx, rfl, hfb⟩ := hrel
        have hfb2 := Lib.hid hfb
        have hqr := hfb.bel.rowIs HQ.out (by omega) (by omega)
        have hbw := hB0.out _ hfb.bel
        by_cases hxn : x < et
        · have q0 : wr.cell? ⟨q, 0, none⟩ = some (.int .i64 (W)) := hqr.cell (i := 0) (by omega)
          have q2 : wr.cell? ⟨q, 2, none⟩ = some (.slice a n c) := hqr.cell (i := 2) (by omega)
          have lq : LtW q wr := hqr.lt
          obtain ⟨b1, o1, rfl, hbl, hc⟩ := (hfb.bel.intsD HX.out HN3.out HBS.out).2 (by omega)
          have c0 := hc x hxn
          rw [natI_getN] at c0
          have lb1 : LtW b1 wr := hbl
          have hsW := HELw.out _ (getD_memN (L := EL) (j := x) (by rw [HET.out]; exact hxn))
          have hFx : F (y * et + x) = bs.getD (t * W + EL.getD x 0) false := by rw [← HF.out, ddF_at hxn, HTY.out]
          obtain ⟨s, hs⟩ : ∃ s, EL.getD x 0 = s := ⟨_, rfl⟩
          rw [hs] at c0 hsW hFx
          obtain ⟨M, hM⟩ : ∃ M, t * W = M := ⟨_, rfl⟩
          have hp2 : M + s < n := by
            rw [HN.out, ← hM]; exact place_lt' hsW htH
          have hmul : (t : Int) * (W : Int) = (M : Int) := by rw [← Int.natCast_mul, hM]
          rw [hM] at hFx
          obtain ⟨b2, o2, rfl, hb2, hc2⟩ := (HT.out.below hbw).bits.2 (by omega)
          have cb := hc2 (M + s) hp2
          have lb2 : LtW b2 wr := hb2
          obtain ⟨bit, hbit⟩ : ∃ b, bs.getD (M + s) false = b := ⟨_, rfl⟩
          rw [hbit] at cb hFx
          obtain ⟨hr0, ho0, hx0⟩ := hfb2.out
          obtain ⟨P, hP⟩ : ∃ P, y * et + x = P := ⟨_, rfl⟩
          have hPn4 : P < 4096 := by
            rw [← hP]
            exact Nat.lt_of_lt_of_le (place_lt' hxn hyn) (mul64n hen hpn)
          have HBT := Lib.hid (bT_succ F P)
          rw [← hP, hFx, hP] at HBT
          rw [bT_len, hP] at ho0
          have HP := Lib.hid hP
          have cM : wr.cell? ⟨db, 3, none⟩ = some v := hr0.cell (i := 3) (by omega)
          have fM := hr0.frozen 3
          have lm : LtW db wr := hr0.lt
          have HO := Lib.hid ho0
          have HX := Lib.hid hx0
          have HR := Lib.hid hr0
          have hxs := hx0.size
          have v1 : IntKind.i64.wrap (M : Int) = (M : Int) := IntWalk.i64_in _ (by omega)
          have v2 : IntKind.i64.wrap ((M : Int) + (s : Int)) = (M : Int) + (s : Int) := IntWalk.i64_in _ (by omega)
          have v3 : ((M : Int) + (s : Int)).toNat = M + s := by omega
          have i0 : (0 : Int) ≤ (M : Int) + (s : Int) := by omega
          have i1 : (M : Int) + (s : Int) < (n : Int) := by omega
          clear hr0 ho0 hx0 hfb hfb2 hP hM hc hc2 hs hbit hFx hqr hbw hbl hb2 hsW
          generalize bT F P = L at *
          go_wp2_with fail
          (refine wp_region_ext_build 13 _ mkOne (.cells #[.bool (bit)] 4) (by kernel_rfl) (by kernel_rfl) rfl rfl ?_; simp only [List.take_succ_cons, List.take_zero, List.drop_succ_cons, List.drop_zero]; (repeat (first | ((with_reducible refine wpV_step (fun K hK => ?_)); go_simp; first | (refine hK _ ?_; clear hK K) | (apply Exists.intro; refine ⟨fun _ _ => ?_, hK _ ?_⟩; fail; clear hK K)))); refine wpV_nil ?_; refine ⟨fun W => by go_simp; rfl, fun E d E' d' => ?_⟩)
          have hbE := built_below wr E d (.cells #[.bool (bit)] 4) E' d'
          have HCS := Lib.hid (built_cell wr E d #[.bool (bit)] 4 E' d')
          have cME := bCs hbE cM
          have fME := (hbE.frozen (p := ⟨db, 3, none⟩) (show db < wr.heap.size from lm)).trans fM
          have HOE := Lib.hid (ownBelow HO.out hbE)
          have hgE := Nat.le_trans HX.out.size hbE.size
          have HBE := Lib.hid hbE
          clear hbE cM fM
          generalize extW ((extW wr E d).alloc (.cells #[.bool (bit)] 4)) E' d' = WE at *
          generalize (extW wr E d).heap.size = BB at *
          go_wp2_with (at_builtin; refine wpAppB okBools rfl (.tmp 65) (.tmp 76) rfl base _ _ _ #[.bool (bit)] BB rfl HOE.out rfl HCS.out rfl ?_ (by omega) (by omega) (by omega) ?_)
          · simp [Value.oneCell']
          intro v' w2 hown2 hb2
          obtain ⟨A', cp', rfl⟩ := own_form hown2
          have cM2 : w2.cell? ⟨db, 3, none⟩ = some v := (hb2.cell (p := ⟨db, 3, none⟩) (by simp; omega)).trans cME
          have fM2 : w2.frozen? ⟨db, 3, none⟩ = false := (hb2.frozen (p := ⟨db, 3, none⟩) (by simp; omega)).trans fME
          have HNW := Lib.hid (DB.app HR.out HX.out HBE.out (by omega) hown2 hb2)
          clear hown2 hb2 cME fME
          go_wp2
          go_roundw
          case rel => exact ⟨x + 1, _, by omega, by go_num, by rw [show y * et + (x + 1) = P + 1 by have := HP.out; omega, HBT.out]; exact HNW.out⟩
          case measure => simp [intOf]; omega
        · obtain rfl : et = x := by omega
          clear hqr hbw hfb
          go_wp2
          go_roundw
          case rel => exact ⟨y + 1, v, by omega, by go_num, by rw [Nat.add_mul, Nat.one_mul]; exact hfb2.out⟩
          case measure => simp [intOf]; omega
    · obtain rfl : pt = y := by omega
      obtain ⟨hr9, ho9, hx9⟩ := hfb
      have hL : bT F (pt * et) = tieL W H bs := by
        rw [← HF.out, HTIE.out]
        have := dd_bT (W := W) (tie := bs) (th := EL) (tr := PL)
        rwa [HET.out, HPT.out] at this
      rw [hL] at ho9
      have hlo : (tieL W H bs).length = et * pt := by rw [HTIE.out]; unfold ddL; rw [grid_len, HET.out, HPT.out]
      obtain ⟨a1, k1, rfl, hT1, hg1⟩ := OkT.of_owns ho9
      rw [hlo] at hr9 hT1
      have o0 : wr.cell? ⟨db, 0, none⟩ = some (.slice A1 W c1) := hr9.cell (i := 0) (by omega)
      have o1 : wr.cell? ⟨db, 1, none⟩ = some (.int .i64 (et)) := hr9.cell (i := 1) (by omega)
      have o2 : wr.cell? ⟨db, 2, none⟩ = some (.int .i64 (pt)) := hr9.cell (i := 2) (by omega)
      have o3 : wr.cell? ⟨db, 3, none⟩ = some (.slice a1 (et * pt) k1) := hr9.cell (i := 3) (by omega)
      have o4 : wr.cell? ⟨db, 4, none⟩ = some (.slice A2 H c2) := hr9.cell (i := 4) (by omega)
      have rr := hx9.rowIs HRB.out (by omega) (by omega)
      have r0 : wr.cell? ⟨rb, 0, none⟩ = some (.slice none 0 0) := rr.cell (i := 0) (by omega)
      have r1 : wr.cell? ⟨rb, 1, none⟩ = some (.int .i64 (0)) := rr.cell (i := 1) (by omega)
      have r2 : wr.cell? ⟨rb, 2, none⟩ = some (.int .i64 (0)) := rr.cell (i := 2) (by omega)
      have r3 : wr.cell? ⟨rb, 3, none⟩ = some (.slice none 0 0) := rr.cell (i := 3) (by omega)
      have r4 : wr.cell? ⟨rb, 4, none⟩ = some (.slice none 0 0) := rr.cell (i := 4) (by omega)
      have f0 := rr.frozen 0; have f1 := rr.frozen 1; have f2 := rr.frozen 2; have f3 := rr.frozen 3; have f4 := rr.frozen 4
      have HT1 := Lib.hid hT1
      have HG1 := Lib.hid hg1
      have HI9 := Lib.hid (hx9.intsD HI.out (fun b o e => (HN1.out b o e).1) HBS.out)
      have HJ9 := Lib.hid (hx9.intsD HJ.out (fun b o e => (HN2.out b o e).1) HBS.out)
      have HBW := Lib.hid hbw
      have hxs := hx9.size
      clear hr9 ho9 hx9 rr hlo hT1 hg1 HFB HO3 HRB hL hbw HQ HI HJ HX HY hB0
      go_wp2
      have BX := Lib.hid ((((((BelowX.refl (base := wr.heap.size) (mb := rb) (W := wr) (Nat.le_refl _)).set 0 (.slice A1 W c1)).set 1 (.int .i64 (et))).set 2 (.int .i64 (pt))).set 3 (.slice a1 (et * pt) k1)).set 4 (.slice A2 H c2))
      have hfin : Below w.heap.size w (((((wr.setCell ⟨rb, 0, none⟩ (.slice A1 W c1)).setCell ⟨rb, 1, none⟩ (.int .i64 (et))).setCell ⟨rb, 2, none⟩ (.int .i64 (pt))).setCell ⟨rb, 3, none⟩ (.slice a1 (et * pt) k1)).setCell ⟨rb, 4, none⟩ (.slice A2 H c2)) := by
        have := HQE.out
        exact ((((HBW.out.setCell (by simp; omega) _).setCell (by simp; omega) _).setCell (by simp; omega) _).setCell (by simp; omega) _).setCell (by simp; omega) _
      refine bodyPost_ret (v := .tuple #[.agg #[.slice A1 W c1, .int .i64 (et), .int .i64 (pt), .slice a1 (et * pt) k1, .slice A2 H c2], .int .i64 (0)]) (by simp [results, Tryd.results54, go_sem, r0, r1, r2, r3, r4]) rfl ?_
      unfold FewPost
      rw [HEL.out, HPL.out, HTH.out, HTR.out, HET.out, HPT.out]
      exact ⟨A1, c1, A2, c2, a1, k1, rfl, BX.out.intsD HI9.out (fun b o e => (HN1.out b o e).2.1) rfl, BX.out.okT HT1.out rfl (fun b o e => by have := HG1.out b o e; omega), BX.out.intsD HJ9.out (fun b o e => (HN2.out b o e).2.1) rfl, hfin, fun b o e => by have := (HN1.out b o e).2.2; have := HQE.out; omega, fun b o e => by have := (HN2.out b o e).2.2; have := HQE.out; omega, fun b o e => by have := HG1.out b o e; have := HQE.out; omega⟩
end
section
open Go.RowKit
open Lo
end
section
open Go.RowKit
open Lo
end
namespace Cl
inductive Rch (ab : Nat → Nat → Bool) : Nat → Nat → Prop where
 | rf (a : Nat) : Rch ab a a
 | st {a b c : Nat} : ab a b = true → Rch ab b c → Rch ab a c
theorem Rch.one {ab : Nat → Nat → Bool} {a b : Nat} (h : ab a b = true) : Rch ab a b := .st h (.rf b)
theorem Rch.tr {ab : Nat → Nat → Bool} {a b c : Nat} (h : Rch ab a b) (k : Rch ab b c) : Rch ab a c := by
 induction h with
 | rf => exact k
 | st h _ ih => exact .st h (ih k)
def Bnd (n : Nat) (ab : Nat → Nat → Bool) : Prop := ∀ a b, ab a b = true → a < n ∧ b < n
open Classical in
noncomputable def up (ab : Nat → Nat → Bool) (s a : Nat) : Bool := decide (Rch ab a s)
theorem up_iff {ab : Nat → Nat → Bool} {s a : Nat} : up ab s a = true ↔ Rch ab a s := by unfold up; simp
def cnt (n : Nat) (f : Nat → Bool) : Nat := ((List.range n).filter f).length
theorem cnt_le (n : Nat) (f : Nat → Bool) : cnt n f ≤ n := by
 unfold cnt
 have := List.length_filter_le f (List.range n)
 simpa using this
theorem cnt_succ (n : Nat) (f : Nat → Bool) : cnt (n+1) f = cnt n f + (if f n then 1 else 0) := by
 unfold cnt
 rw [List.range_succ, List.filter_append]
 by_cases h : f n = true <;> simp [h]
theorem cnt_set (n : Nat) (f : Nat → Bool) (a : Nat) (ha : a < n) (hf : f a = false) : cnt n (fun x => if x = a then true else f x) = cnt n f + 1 := by
 induction n with
 | zero => omega
 | succ n ih =>
  rw [cnt_succ, cnt_succ]
  by_cases h : a = n
  ·subst h
   have e : cnt a (fun x => if x = a then true else f x) = cnt a f := by
    unfold cnt
    congr 1
    apply List.filter_congr
    intro x hx
    have : x < a := by simpa using hx
    rw [if_neg (by omega)]
   rw [e]
   simp [hf]
  ·rw [ih (by omega)]
   simp only [show ¬ n = a from fun e => h e.symm, if_false]
   omega
theorem cnt_full {n : Nat} {f : Nat → Bool} : cnt n f = n ↔ ∀ a, a < n → f a = true := by
 induction n with
 | zero => simp [cnt]
 | succ n ih =>
  rw [cnt_succ]
  have hl := cnt_le n f
  constructor
  ·intro h a ha
   have hn : f n = true := by
    cases e : f n with
    | true => rfl
    | false => rw [e] at h; simp at h; omega
   by_cases e : a = n
   ·subst e; exact hn
   ·exact ih.1 (by rw [hn] at h; simp at h; omega) a (by omega)
  ·intro h
   rw [h n (by omega), ih.2 fun a ha => h a (by omega)]
   simp
structure Srch (n : Nat) (ab : Nat → Nat → Bool) (s : Nat) (inn : Nat → Bool) (todo : List Nat) (b k : Nat) : Prop where
 lt : ∀ a, inn a = true → a < n
 sound : ∀ a, inn a = true → Rch ab a s
 base : inn s = true
 todo_in : ∀ c ∈ todo, inn c = true
 closed : ∀ c, inn c = true → c ∉ todo → c ≠ b → ∀ a, a < n → ab a c = true → inn a = true
 part : ∀ a, a < k → ab a b = true → inn a = true
 bin : b < n → inn b = true
theorem Srch.start {n : Nat} {ab : Nat → Nat → Bool} {s : Nat} (hs : s < n) : Srch n ab s (fun x => if x = s then true else false) [s] n 0 where
 lt := by intro a h; by_cases e : a = s <;> simp [e] at h ⊢; exact hs
 sound := by intro a h; by_cases e : a = s <;> simp [e] at h; subst e; exact .rf _
 base := by simp
 todo_in := by simp
 closed := by intro c h1 h2; by_cases e : c = s <;> simp [e] at h1 h2
 part := by intro a h; omega
 bin := by intro h; omega
theorem Srch.pop {n : Nat} {ab : Nat → Nat → Bool} {s : Nat} {inn : Nat → Bool} {todo : List Nat} {b : Nat} (h : Srch n ab s inn (todo ++ [b]) n 0) : Srch n ab s inn todo b 0 where
 lt := h.lt
 sound := h.sound
 base := h.base
 todo_in := fun c hc => h.todo_in c (by simp [hc])
 closed := by
  intro c h1 h2 h3
  exact h.closed c h1 (by simp [h2, h3]) (by have := h.lt c h1; omega)
 part := by intro a h; omega
 bin := fun _ => h.todo_in b (by simp)
theorem Srch.skip {n : Nat} {ab : Nat → Nat → Bool} {s : Nat} {inn : Nat → Bool} {todo : List Nat} {b k : Nat} (h : Srch n ab s inn todo b k) (hk : inn k = true ∨ ab k b = false) : Srch n ab s inn todo b (k+1) where
 lt := h.lt
 sound := h.sound
 base := h.base
 todo_in := h.todo_in
 closed := h.closed
 part := by
  intro a ha hab
  by_cases e : a = k
  ·subst e
   rcases hk with hk | hk
   ·exact hk
   ·rw [hk] at hab; cases hab
  ·exact h.part a (by omega) hab
 bin := h.bin
theorem Srch.push {n : Nat} {ab : Nat → Nat → Bool} {s : Nat} {inn : Nat → Bool} {todo : List Nat} {b k : Nat} (h : Srch n ab s inn todo b k) (hk : k < n) (hb : b < n) (hab : ab k b = true) :
    Srch n ab s (fun x => if x = k then true else inn x) (todo ++ [k]) b (k+1) where
  lt := by intro a ha; by_cases e : a = k; · omega
           · rw [if_neg e] at ha; exact h.lt a ha
  sound := by
    intro a ha
    by_cases e : a = k
    · subst e; exact .st hab (h.sound b (h.bin hb))
    · rw [if_neg e] at ha; exact h.sound a ha
  base := by have := h.base; split <;> simp_all
  todo_in := by
    intro c hc
    by_cases e : c = k
    · simp [e]
    · rw [if_neg e]
      simp at hc
      rcases hc with hc | hc
      · exact h.todo_in c hc
      · exact absurd hc e
  closed := by
    intro c h1 h2 h3 a ha hac
    have hck : c ≠ k := by intro e; subst e; simp at h2
    rw [if_neg hck] at h1
    by_cases e : a = k
    · simp [e]
    · rw [if_neg e]; exact h.closed c h1 (by simp at h2; exact h2.1) h3 a ha hac
  part := by
    intro a ha hab'
    by_cases e : a = k
    · simp [e]
    · rw [if_neg e]; exact h.part a (by omega) hab'
  bin := by intro hb; have := h.bin hb; by_cases e : b = k; · simp [e]
            · rw [if_neg e]; exact this
theorem Srch.done {n : Nat} {ab : Nat → Nat → Bool} {s : Nat} {inn : Nat → Bool} {todo : List Nat} {b : Nat} (hb : b < n) (h : Srch n ab s inn todo b n) : Srch n ab s inn todo n 0 where
 lt := h.lt
 sound := h.sound
 base := h.base
 todo_in := h.todo_in
 closed := by
  intro c h1 h2 _ a ha hac
  by_cases e : c = b
  ·subst e; exact h.part a ha hac
  ·exact h.closed c h1 h2 e a ha hac
 part := by intro a h; omega
 bin := by intro h; omega
theorem Srch.end_ {n : Nat} {ab : Nat → Nat → Bool} {s : Nat} {inn : Nat → Bool} (hB : Bnd n ab) (h : Srch n ab s inn [] n 0) (a : Nat) : inn a = up ab s a := by
 rw [Bool.eq_iff_iff, up_iff]
 constructor
 ·exact h.sound a
 ·intro hr
  have key : ∀ x y, Rch ab x y → inn y = true → inn x = true := by
   intro x y hxy
   induction hxy with
   | rf => exact id
   | st h1 _ ih =>
    intro hy
    have := ih hy
    exact h.closed _ this (by simp) (by have := h.lt _ this; omega) _ (hB _ _ h1).1 h1
  exact key a s hr h.base
def left (n : Nat) (inn : Nat → Bool) (todo : List Nat) : Nat := 2 * (n - cnt n inn) + todo.length
theorem left_push {n k : Nat} {inn : Nat → Bool} {todo : List Nat} (hk : k < n) (hi : inn k = false) : left n (fun x => if x = k then true else inn x) (todo ++ [k]) < left n inn todo := by
 unfold left
 rw [cnt_set n inn k hk hi]
 have h := cnt_le n (fun x => if x = k then true else inn x)
 rw [cnt_set n inn k hk hi] at h
 simp
 omega
def wp (ab : Nat → Nat → Bool) : Nat → Nat → Nat → Bool
 | 0, a, b => (a == b) || ab a b
 | k + 1, a, b => wp ab k a b || (wp ab k a k && wp ab k k b)
theorem wp_sound {ab : Nat → Nat → Bool} (k : Nat) : ∀ a b, wp ab k a b = true → Rch ab a b := by
 induction k with
 | zero =>
  intro a b h
  simp only [wp, Bool.or_eq_true, beq_iff_eq] at h
  rcases h with h | h
  ·subst h; exact .rf _
  ·exact .one h
 | succ k ih =>
  intro a b h
  simp only [wp, Bool.or_eq_true, Bool.and_eq_true] at h
  rcases h with h | ⟨h1, h2⟩
  ·exact ih a b h
  ·exact (ih a k h1).tr (ih k b h2)
theorem wp_self (ab : Nat → Nat → Bool) (k a : Nat) : wp ab k a a = true := by
 induction k with
 | zero => simp [wp]
 | succ k ih => simp [wp, ih]
theorem wp_mono {ab : Nat → Nat → Bool} {k a b : Nat} (h : wp ab 0 a b = true) : wp ab k a b = true := by
 induction k with
 | zero => exact h
 | succ k ih => simp [wp, ih]
theorem wp_tr {ab : Nat → Nat → Bool} (k : Nat) : ∀ a c b, c < k → wp ab k a c = true → wp ab k c b = true → wp ab k a b = true := by
 induction k with
 | zero => intro a c b h; omega
 | succ k ih =>
  intro a c b hc h1 h2
  simp only [wp, Bool.or_eq_true, Bool.and_eq_true] at h1 h2 ⊢
  by_cases e : c = k
  ·subst e
   have g1 : wp ab c a c = true := by rcases h1 with h | h; exact h; exact h.1
   have g2 : wp ab c c b = true := by rcases h2 with h | h; exact h; exact h.2
   exact .inr ⟨g1, g2⟩
  ·have hc' : c < k := by omega
   rcases h1 with h1 | ⟨h1, h1'⟩ <;> rcases h2 with h2 | ⟨h2, h2'⟩
   ·exact .inl (ih a c b hc' h1 h2)
   ·exact .inr ⟨ih a c k hc' h1 h2, h2'⟩
   ·exact .inr ⟨h1, ih k c b hc' h1' h2⟩
   ·exact .inr ⟨h1, h2'⟩
theorem wp_iff {n : Nat} {ab : Nat → Nat → Bool} (hB : Bnd n ab) (a b : Nat) : wp ab n a b = up ab b a := by
 rw [Bool.eq_iff_iff, up_iff]
 constructor
 ·exact wp_sound n a b
 ·intro h
  induction h with
  | rf => exact wp_self ab n _
  | st h1 _ ih => exact wp_tr n _ _ _ (hB _ _ h1).2 (wp_mono (by simp [wp, h1])) ih
def lift (n : Nat) (ab : Nat → Nat → Bool) : List Nat :=
 match (List.range n).find? (fun s => decide (cnt n (fun a => wp ab n a s) < n)) with
 | some s => (List.range n).filter (fun a => wp ab n a s)
 | none => []
def abM (W H : Nat) (bs : List Bool) (a b : Nat) : Bool :=
 if a < W ∧ W ≤ b ∧ b < W + H then bs.getD ((b - W) * W + a) false
 else if W ≤ a ∧ a < W + H ∧ b < W then !bs.getD ((a - W) * W + b) false else false
theorem abM_bnd (W H : Nat) (bs : List Bool) : Bnd (W + H) (abM W H bs) := by
 intro a b h
 unfold abM at h
 split at h
 ·omega
 ·split at h
  ·omega
  ·cases h
theorem place_lt {W H x y : Nat} (hx : x < W) (hy : y < H) : y * W + x < W * H := by
 calc y * W + x < y * W + W := by omega
  _ = (y + 1) * W := by rw [Nat.add_mul, Nat.one_mul]
  _ ≤ H * W := Nat.mul_le_mul_right _ hy
  _ = W * H := Nat.mul_comm _ _
theorem find_lt (n s : Nat) (p : Nat → Bool) (hs : s < n) (h : p s = true) (hm : ∀ x, x < s → p x = false) : (List.range n).find? p = some s := by
 induction n with
 | zero => omega
 | succ n ih =>
  rw [List.range_succ, List.find?_append]
  by_cases e : s = n
  ·subst e
   have : (List.range s).find? p = none := by
    rw [List.find?_eq_none]
    intro x hx
    have := hm x (by simpa using hx)
    simp [this]
   rw [this]
   simp [h]
  ·rw [ih (by omega)]
   rfl
theorem lift_some {n : Nat} {ab : Nat → Nat → Bool} {s : Nat} (hs : s < n) (h : cnt n (fun a => wp ab n a s) < n) (hm : ∀ x, x < s → ¬ cnt n (fun a => wp ab n a x) < n) : lift n ab = (List.range n).filter (fun a => wp ab n a s) := by
 unfold lift
 rw [find_lt n s _ hs (by simpa using h) (fun x hx => by simpa using hm x hx)]
theorem lift_none {n : Nat} {ab : Nat → Nat → Bool} (hm : ∀ x, x < n → ¬ cnt n (fun a => wp ab n a x) < n) : lift n ab = [] := by
 unfold lift
 have : (List.range n).find? (fun s => decide (cnt n (fun a => wp ab n a s) < n)) = none := by
  rw [List.find?_eq_none]
  intro x hx
  have := hm x (by simpa using hx)
  simpa using this
 rw [this]
end Cl
end Go.Proofs.YtajdoobkfbdgoaaDoor
