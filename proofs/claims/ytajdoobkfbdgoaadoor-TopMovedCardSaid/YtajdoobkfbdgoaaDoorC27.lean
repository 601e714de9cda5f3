/- Lemmas on which the law of this seat rests; each states its own conditions. -/
import Derived.Test.YtajdoobkfbdgoaaDoorC26
import Derived.Test.YtajdoobkfbdgoaaDoorC12
import Derived.Deep.DeepCutAuto
import Derived.Test.YtajdoobkfbdgoaaDoorC25
import Derived.Test.YtajdoobkfbdgoaaDoorC21
import Derived.Test.YtajdoobkfbdgoaaDoorC07
import Derived.Test.YtajdoobkfbdgoaaDoorC05
import Derived.Test.YtajdoobkfbdgoaaDoorC20
set_option linter.unusedVariables false
set_option linter.unusedSimpArgs false
namespace Go.Proofs.YtajdoobkfbdgoaaDoor
section
open Go.RowKit
open Z (torN place pnt Mv To lin okT nrm keepB colP idm md redM movdL)
theorem own_baseI {w w' : World} {n C gb : Nat} {A : Option Addr} {L : List Int} (h : OwnI w' w.heap.size A n C L) (hb : gb < w.heap.size) : OwnI w' (gb + 1) A n C L := ⟨h.1, own_baseV h.2 hb⟩
theorem lfGs240 {P : Prop} (h : P := by
 have p0 := bCs h9 c0
 have p1 := bCs h9 c1
 have l9 : LtW w2.heap.size w9 := World.block_lt_of_cell? _ _ p0
 clear h9
 go_simp) : P := h
set_option maxRecDepth 100000 in
set_option maxHeartbeats 8000000 in
theorem Moved_ok (G W H n N t M : Nat) (f : Bool) (ox oy : Int) (a : Option Addr) (c : Nat) (cs : List Int) (w : World) (hI : IsInts w a n cs) (h : ChOk G W H n cs) (hN : torN W H = N) (h24 : N ≤ 24) (h0 : 0 < N) (hM : N * N = M) (hx : (-9223372036854775808 ≤ ox ∧ ox ≤ 9223372036854775807)) (hy : (-9223372036854775808 ≤ oy ∧ oy ≤ 9223372036854775807)) (he : wE G t ox oy = 0) :
  Calls Tryd.prog 14 #[.agg #[.int .i64 (G), .int .i64 (W), .int .i64 (H), .slice a n c], .agg #[.int .i64 (t), .bool (f), .int .i64 (ox), .int .i64 (oy)]] w (MdPost G N N M (movdL W H cs G N ⟨t, f, (ox, oy)⟩ M) 0 w) := by
 have hg : (G : Int) = 4 ∨ (G : Int) = 6 := by have := h.g; omega
 obtain ⟨_, hs, n', hn', htl⟩ := wE_zero he
 have htG : t < G := by omega
 have hM6 : M ≤ 576 := by rw [← hM]; exact Nat.mul_le_mul h24 h24
 have hM1 : 1 ≤ M := by rw [← hM]; exact Nat.mul_pos h0 h0
 have hNi : (N : Int) * (N : Int) = (M : Int) := by rw [← hM]; push_cast; rfl
 have vM : IntKind.i64.wrap (M : Int) = (M : Int) := IntWalk.i64_in _ (by omega)
 have HL := Lib.hid (fun w hI => laid_ok G W H n N M a c cs w hI h hN h24 hM)
 have HW := Lib.hid (fun w => Wrong_any G t ox oy f w (by omega) (by omega) hx hy)
 rw [he] at HW
 have HIM := Lib.hid (fun a c w => image_ok (G : Int) N M t f a c w hg (by omega) h0 h24 hM)
 have HREP := Lib.hid (fun b w hc => repeat_ok M 1 b w hM1 (by omega) hc)
 have HPL := Lib.hid (fun a c x y w h1 h2 => place_ok (G : Int) N M a c x y w h0 h24 h1 h2)
 have HPT : Hid (∀ k, k < M → place N (Z.add (pnt N ((Z.imageL (G : Int) N t f).getD k 0)) (ox, oy)) = place N (To G ⟨t, f, (ox, oy)⟩ (pnt N k))) := Lib.hid fun k hk => place_To h0 (by rw [hM]; exact hk)
 have HIB : Hid (∀ k, k < M → (Z.imageL (G : Int) N t f).getD k 0 < M) := Lib.hid fun k hk => by rw [Z.imageL_get (by rw [hM]; exact hk), ← hM]; exact Z.place_lt h0 _
 have HPB : Hid (∀ z, place N z < M) := Lib.hid fun z => by rw [← hM]; exact Z.place_lt h0 z
 have HLG : Hid (∀ k, k < M → (Z.laidL W H cs N).getD k 0 = colP W H cs (pnt N k)) := Lib.hid fun k hk => Z.laidL_get (by rw [hM]; exact hk)
 have HZ0 : Hid (movdL W H cs G N ⟨t, f, (ox, oy)⟩ 0 = List.replicate M 0) := Lib.hid (by rw [movdL_zero, hM])
 have HI := Lib.hid hI
 have HNN := Lib.hid hM
 have b1 : ((N : Int) == 0) = false := by simp; omega
 have b2 : (N : Int) ≠ 0 := by omega
 have b3 : ¬ N = 0 := by omega
 unfold MdPost
 clear hI hN h he hn' htl htG hg hM
 go_enter Tryd.func14, Tryd.ntmps14
 go_wp2_with fail
 refine (HL.out _ (HI.out.below blw)).mono ?_
 rintro r w2 ⟨⟨A, C, rfl, hA⟩, hb2⟩
 have m0 : w2.cell? ⟨w.heap.size + 1, 0, none⟩ = some (.int .i64 (t)) := bCs hb2 (by simp [go_sem])
 have m1 : w2.cell? ⟨w.heap.size + 1, 1, none⟩ = some (.bool f) := bCs hb2 (by simp [go_sem])
 have m2 : w2.cell? ⟨w.heap.size + 1, 2, none⟩ = some (.int .i64 (ox)) := bCs hb2 (by simp [go_sem])
 have m3 : w2.cell? ⟨w.heap.size + 1, 3, none⟩ = some (.int .i64 (oy)) := bCs hb2 (by simp [go_sem])
 have k0 : w2.cell? ⟨w.heap.size, 0, none⟩ = some (.int .i64 (G)) := bCs hb2 (by simp [go_sem])
 have lm : LtW (w.heap.size + 1) w2 := World.block_lt_of_cell? _ _ m0
 have lk : LtW w.heap.size w2 := World.block_lt_of_cell? _ _ k0
 have h1 := chtF_alloc ((w.alloc (.cells #[.int .i64 (G : Int), .int .i64 (W : Int), .int .i64 (H : Int), .slice a n c] 25)).alloc (.cells #[.int .i64 (t : Int), .bool f, .int .i64 ox, .int .i64 oy] 56)) 0 0 0 none 0 0
 rw [World.size_alloc, World.size_alloc] at h1
 have hrr := rowBelow h1 hb2 h1.lt
 have hbw2 : Below w.heap.size w w2 := blw
 have HA2 := Lib.hid hA.ints
 clear hb2 h1 hA HL HI
 go_wp2_with fail
 refine (HW.out _).mono ?_
 rintro r w1 ⟨rfl, hb⟩
 obtain ⟨E, d, rfl⟩ := bExt hb
 clear hb HW
 obtain ⟨W3, hW3⟩ : ∃ W3, W3 = extW (w2.alloc (.cells #[.int .i64 (G : Int), .int .i64 (N : Int), .slice A M C] 93)) E d := ⟨_, rfl⟩
 rw [← hW3]
 have hb3 : Below w2.heap.size w2 W3 := by rw [hW3]; exact blw
 have c0 : W3.cell? ⟨w2.heap.size, 0, none⟩ = some (.int .i64 (G)) := by rw [hW3]; simp [go_sem]
 have c1 : W3.cell? ⟨w2.heap.size, 1, none⟩ = some (.int .i64 (N)) := by rw [hW3]; simp [go_sem]
 have c2 : W3.cell? ⟨w2.heap.size, 2, none⟩ = some (.slice A M C) := by rw [hW3]; simp [go_sem]
 clear hW3 k0 lk lm
 have HM0 := Lib.hid (bCs hb3 m0); have HM1 := Lib.hid (bCs hb3 m1); have HM2 := Lib.hid (bCs hb3 m2); have HM3 := Lib.hid (bCs hb3 m3)
 have HC0 := Lib.hid c0; have HC1 := Lib.hid c1; have HC2 := Lib.hid c2
 have HRR := Lib.hid (rowBelow hrr hb3 hrr.lt)
 have HA3 := Lib.hid (HA2.out.below hb3)
 have hbw3 : Below w.heap.size w W3 := hbw2.trans (hb3.mono hbw2.size)
 have HBW := Lib.hid hbw3
 have lq : LtW w2.heap.size W3 := World.block_lt_of_cell? _ _ c0
 clear hb3 m0 m1 m2 m3 hrr HA2 hbw2 hbw3
 go_wp2_with fail
 refine wp_region_HS (Below W3.heap.size W3) (by kernel_rfl) ?_
 (refine anyH_takeS (i := 0) rfl (by kernel_rfl) (fun _ _ _ _ h => h) (Below.refl _ _).drew (fun K hK => ?_); go_simp; refine ⟨_, fun _ _ => rfl, hK _ ?_⟩; clear hK K)
 (refine anyH_takeS (i := 1) rfl (by kernel_rfl) (fun _ _ _ _ h => h) (Below.refl _ _).drew (fun K hK => ?_); simp only [Region.wanted, if_true]; refine ⟨.int .i64 (G), fun w9 h9 => ?_, ?_⟩)
 ·clear hK
  exact lfGs240
 go_simp
 refine hK _ ?_
 clear hK K
 (refine anyH_takeS (i := 2) rfl (by kernel_rfl) (fun _ _ _ _ h => h) (Below.refl _ _).drew (fun K hK => ?_); go_simp; refine ⟨_, fun _ _ => rfl, hK _ ?_⟩; clear hK K)
 (refine anyH_takeS (i := 3) rfl (by kernel_rfl) (fun _ _ _ _ h => h) (Below.refl _ _).drew (fun K hK => ?_); simp only [Region.wanted, if_true]; refine ⟨.int .i64 (N), fun w9 h9 => ?_, ?_⟩)
 ·clear hK
  exact lfGs240
 go_simp
 refine hK _ ?_
 clear hK K
 (refine anyH_takeS (i := 4) rfl (by kernel_rfl) (fun _ _ _ _ h => h) (Below.refl _ _).drew (fun K hK => ?_); go_simp; refine ⟨_, fun _ _ => rfl, hK _ ?_⟩; clear hK K)
 (refine anyH_takeS (i := 5) rfl (by kernel_rfl) (fun _ _ _ _ h => h) (Below.refl _ _).drew (fun K hK => ?_); simp only [Region.wanted, if_true]; refine ⟨.int .i64 (N), fun w9 h9 => ?_, ?_⟩)
 ·clear hK
  exact lfGs240
 go_simp
 refine hK _ ?_
 clear hK K
 (refine anyH_takeS (i := 7) rfl (by kernel_rfl) (fun _ _ _ _ h => h) (Below.refl _ _).drew (fun K hK => ?_); go_simp; refine ⟨_, fun _ _ => rfl, hK _ ?_⟩; clear hK K)
 (refine anyH_takeS (i := 8) rfl (by kernel_rfl) (fun _ _ _ _ h => h) (Below.refl _ _).drew (fun K hK => ?_); simp only [Region.wanted, if_true]; refine ⟨.int .i64 (N), fun w9 h9 => ?_, ?_⟩)
 ·clear hK
  exact lfGs240
 go_simp
 refine hK _ ?_
 clear hK K
 (refine anyH_takeS (i := 9) rfl (by kernel_rfl) (fun _ _ _ _ h => h) (Below.refl _ _).drew (fun K hK => ?_); go_simp; refine ⟨_, fun _ _ => rfl, hK _ ?_⟩; clear hK K)
 (refine anyH_takeS (i := 10) rfl (by kernel_rfl) (fun _ _ _ _ h => h) (Below.refl _ _).drew (fun K hK => ?_); simp only [Region.wanted, if_true]; refine ⟨.int .i64 (N), fun w9 h9 => ?_, ?_⟩)
 ·clear hK
  exact lfGs240
 go_simp
 refine hK _ ?_
 clear hK K
 (refine anyH_takeS (i := 11) rfl (by kernel_rfl) (fun _ _ _ _ h => h) (Below.refl _ _).drew (fun K hK => ?_); go_simp; refine ⟨_, fun _ _ => rfl, hK _ ?_⟩; clear hK K)
 clear c0 c1 c2 lq
 refine anyH_two (A := [6, 12, 13]) (B := [14]) (g := 1) (by kernel_rfl) (by kernel_rfl) [35, 41, 42, 9] (fun i j b w' => RA W3.heap.size M G N i b w' ∧ RB W3.heap.size j b w') ?_ ?_ (Below.refl _ _).drew ⟨⟨fun h => absurd h (by omega), fun h => absurd h (by omega)⟩, fun h => absurd h (by omega)⟩ ?_
 ·intro i j b w9 hi hj hs9 hw9 hR
  obtain ⟨hA, hB⟩ := hR
  have hsz : b.tmps.size = 85 := hs9.size
  have hi3 : i = 0 ∨ i = 1 ∨ i = 2 := by simp at hi; omega
  rcases hi3 with rfl | rfl | rfl
  ·have hba : Below w9.heap.size w9 (w9.alloc (.cells #[.int .i64 0] 3)) := Below.alloc (Below.refl _ _) (Nat.le_refl _) _
   refine wpOp_go (i := 6) rfl rfl (fun K hK => ?_)
   have HSZ := Lib.hid hsz
   clear hsz
   go_simp
   have hsz := HSZ.out
   refine hK (b.put (some 35) (.slice (some ⟨w9.heap.size, 0, none⟩) 1 1)) _ ⟨hs9.put (by decide) _, hw9.trans (hba.mono hw9.size), ⟨fun _ => ⟨w9.heap.size, put_at' (by rw [hsz]; decide), by simp⟩, fun h => absurd h (by omega)⟩, hB.step hba (by decide)⟩
  ·obtain ⟨s, e35, hcs⟩ := hA.1 rfl
   have h40 : b.tmps.getD 40 undef = .int .i64 (M : Int) := hs9.get (k := 40) (by decide)
   rw [Array.getD_eq_getD_getElem?] at h40 e35
   refine wpOp_go (i := 12) rfl rfl (fun K hK => ?_)
   have HSZ := Lib.hid hsz; have HS9 := Lib.hid hs9; have HB := Lib.hid hB; have HW9 := Lib.hid hw9; have HK := Lib.hid hK
   clear hsz hs9 hB hA hw9 hK
   go_simp
   refine (HREP.out s w9 hcs).mono ?_
   rintro r w' ⟨rfl, hrow, hb⟩
   refine HK.out (b.put (some 41) (.slice (some ⟨w9.heap.size, 0, none⟩) M M)) w' ⟨HS9.out.put (by decide) _, HW9.out.trans (hb.mono HW9.out.size), ⟨fun h => absurd h (by omega), fun _ => ⟨w9.heap.size, HW9.out.size, put_at' (by rw [HSZ.out]; decide), hrow, fun h => absurd h (by omega)⟩⟩, HB.out.step hb (by decide)⟩
  ·obtain ⟨g, hg0, e41, hrow, _⟩ := hA.2 (by omega)
   have h30 : b.tmps.getD 30 undef = .int .i64 (G : Int) := hs9.get (k := 30) (by decide)
   have h32 : b.tmps.getD 32 undef = .int .i64 (N : Int) := hs9.get (k := 32) (by decide)
   have h34 : b.tmps.getD 34 undef = .int .i64 (N : Int) := hs9.get (k := 34) (by decide)
   have E41 := Lib.hid e41
   rw [Array.getD_eq_getD_getElem?] at h30 h32 h34 e41
   refine wpOp_go (i := 13) rfl rfl (fun K hK => ?_)
   have HSZ := Lib.hid hsz; have HS9 := Lib.hid hs9; have HB := Lib.hid hB; have HW9 := Lib.hid hw9; have HK := Lib.hid hK; have HROW := Lib.hid hrow
   clear hsz hs9 hB hA hw9 hK hrow
   go_simp
   refine HK.out (b.put (some 42) (.agg #[.int .i64 (G), .int .i64 (N), .int .i64 (N), .slice (some ⟨g, 0, none⟩) M M])) w9 ⟨HS9.out.put (by decide) _, HW9.out, ⟨fun h => absurd h (by omega), fun _ => ⟨g, hg0, by rw [put_off' (by decide)]; exact E41.out, HROW.out, fun _ => put_at' (by rw [HSZ.out]; decide)⟩⟩, HB.out.step (Below.refl _ _) (by decide)⟩
 ·intro i j b w9 hi hj hs9 hw9 hR
  obtain ⟨hA, hB⟩ := hR
  have hsz : b.tmps.size = 85 := hs9.size
  have hj0 : j = 0 := by simp at hj; omega
  subst hj0
  have h1 := chtF_alloc w9 0 0 0 none 0 0
  have hba : Below w9.heap.size w9 (w9.alloc (.cells #[.int .i64 0, .int .i64 0, .int .i64 0, .slice none 0 0] 25)) := Below.alloc (Below.refl _ _) (Nat.le_refl _) _
  refine wpOp_go (i := 14) rfl rfl (fun K hK => ?_)
  have HSZ := Lib.hid hsz; have HS9 := Lib.hid hs9; have HA := Lib.hid hA; have HW9 := Lib.hid hw9; have HK := Lib.hid hK; have H1 := Lib.hid h1
  clear hsz hs9 hB hA hw9 hK h1
  go_simp
  refine HK.out (b.put (some 9) (.pointer (some ⟨w9.heap.size, 0, none⟩))) _ ⟨HS9.out.put (by decide) _, HW9.out.trans (hba.mono HW9.out.size), HA.out.step hba (by decide) (by decide) (by decide), fun _ => ⟨w9.heap.size, HW9.out.size, put_at' (by rw [HSZ.out]; decide), H1.out⟩⟩
 intro b w9 hs9 hw9 hR
 obtain ⟨hA, hB⟩ := hR
 obtain ⟨gb, hgb, e41, hgr, e42⟩ := hA.2 (show 2 ≤ 3 by omega)
 obtain ⟨ob, hob, e9, hor⟩ := hB rfl
 have e42' := e42 rfl
 have hf := hs9.form
 simp only [List.foldl_cons, List.foldl_nil] at hf
 rw [e41, e42', e9] at hf
 generalize b.tmps.getD 35 undef = v35 at hf
 have hMS := MS.fill (G := G) (N := N) hor hgr hw9 hob hgb
 have o0 : w9.cell? ⟨ob, 0, none⟩ = some (.int .i64 0) := hor.cell (i := 0) (by omega)
 have o1 : w9.cell? ⟨ob, 1, none⟩ = some (.int .i64 0) := hor.cell (i := 1) (by omega)
 have o2 : w9.cell? ⟨ob, 2, none⟩ = some (.int .i64 0) := hor.cell (i := 2) (by omega)
 have o3 : w9.cell? ⟨ob, 3, none⟩ = some (.slice none 0 0) := hor.cell (i := 3) (by omega)
 have s0 := hor.frozen 0
 have s1 := hor.frozen 1
 have s2 := hor.frozen 2
 have s3 := hor.frozen 3
 have lo : LtW ob w9 := hor.lt
 have HMS := Lib.hid hMS
 clear hs9 hw9 hA hB e41 e42 e42' e9 hor hgr hMS
 subst hf
 refine anyH_one (i := 15) (by kernel_rfl) ?_
 refine wpOp_go (i := 15) rfl rfl (fun K hK => ?_)
 go_simp
 refine hK _ _ ⟨HMS.out.bel, ?_⟩
 clear hK K
 refine wpAnyH_done (by kernel_rfl) ?_ _
 clear o0 o1 o2 o3 s0 s1 s2 s3 lo
 generalize ((((w9.setCell ⟨ob, 0, none⟩ (.int .i64 G)).setCell ⟨ob, 1, none⟩ (.int .i64 N)).setCell ⟨ob, 2, none⟩ (.int .i64 N)).setCell ⟨ob, 3, none⟩ (.slice (some ⟨gb, 0, none⟩) M M)) = w4 at *
 have m0 := bCs (HMS.out.bel) HM0.out
 have m1 := bCs (HMS.out.bel) HM1.out
 have m2 := bCs (HMS.out.bel) HM2.out
 have m3 := bCs (HMS.out.bel) HM3.out
 have c0 := bCs (HMS.out.bel) HC0.out
 have c1 := bCs (HMS.out.bel) HC1.out
 have c2 := bCs (HMS.out.bel) HC2.out
 have lm : LtW (w.heap.size + 1) w4 := World.block_lt_of_cell? _ _ m0
 have lq : LtW w2.heap.size w4 := World.block_lt_of_cell? _ _ c0
 go_wp2_with fail
 refine (HIM.out _ _ _).mono ?_
 rintro r w5 ⟨⟨TA, TC, rfl, hT⟩, hb5⟩
 have HMS5 := Lib.hid (HMS.out.grow hb5)
 have HT5 := Lib.hid (own_baseI hT HMS.out.c.lt)
 clear m0 m1 m2 m3 c0 c1 c2 lm lq
 clear hT hb5 HMS HIM HREP
 have m0 := bCs (HMS5.out.bel) HM0.out
 have m1 := bCs (HMS5.out.bel) HM1.out
 have m2 := bCs (HMS5.out.bel) HM2.out
 have m3 := bCs (HMS5.out.bel) HM3.out
 have c0 := bCs (HMS5.out.bel) HC0.out
 have c1 := bCs (HMS5.out.bel) HC1.out
 have c2 := bCs (HMS5.out.bel) HC2.out
 have lm : LtW (w.heap.size + 1) w5 := World.block_lt_of_cell? _ _ m0
 have lq : LtW w2.heap.size w5 := World.block_lt_of_cell? _ _ c0
 go_wp2_with fail
 go_loopw [51] (fun kv wr => ∃ (k : Nat), k ≤ M ∧ kv = .int .i64 k ∧ Hid (MS ob gb W3 G N M (movdL W H cs G N ⟨t, f, (ox, oy)⟩ k) wr) ∧ Hid (OwnI wr (gb + 1) TA M TC (intsN (Z.imageL (G : Int) N t f)))) (fun kv _ => M - (intOf kv).toNat)
 case atStart => exact ⟨0, by omega, rfl, by rw [HZ0.out]; exact HMS5, HT5⟩
 case round =>
  clear m0 m1 m2 m3 c0 c1 c2 lm lq
  clear HMS5 HT5
  obtain ⟨k, hk, rfl, HMS, HT⟩ := hrel
  by_cases hkM : k < M
  ·have vk : IntKind.i64.wrap ((k : Int) + 1) = (k : Int) + 1 := IntWalk.i64_in _ (by omega)
   have dk : decide ((k : Int) < (M : Int)) = true := by simpa using hkM
   have HMD := Lib.hid (movdL_succ (W := W) (H := H) (cs := cs) (g := (G : Int)) (n := N) ⟨t, f, (ox, oy)⟩ k)
   have hpt := HPT.out k hkM
   have hlg := HLG.out k hkM
   have hpN := HIB.out k hkM
   obtain ⟨tb, to', rfl, htb, htc⟩ := HT.out.ints.2 (by omega)
   obtain ⟨lb, lo', rfl, hlb, hlc⟩ := HA3.out.2 (by omega)
   have t0 := htc k hkM
   rw [intsN_get] at t0
   have l0 : LtW tb wr := htb
   have a0 := bCs HMS.out.bel (hlc k hkM)
   have l1 : LtW lb wr := World.block_lt_of_cell? _ _ a0
   rw [hlg] at a0
   rw [← hpt] at HMD
   generalize colP W H cs (pnt N k) = X at *
   obtain ⟨p, hp⟩ : ∃ p, (Z.imageL (G : Int) N t f).getD k 0 = p := ⟨_, rfl⟩
   rw [hp] at t0 hpN HMD
   obtain ⟨u, hu⟩ : ∃ u, p % N = u := ⟨_, rfl⟩
   obtain ⟨v, hv⟩ : ∃ v, p / N = v := ⟨_, rfl⟩
   have hu1 : u < N := by rw [← hu]; exact Nat.mod_lt _ h0
   have hv1 : v < N := by rw [← hv]; exact Nat.div_lt_of_lt_mul (by rw [HNN.out]; exact hpN)
   have hpn : Z.add (pnt N p) (ox, oy) = ((u : Int) + ox, (v : Int) + oy) := by unfold pnt Z.add; rw [hu, hv]
   have t1 : (p : Int).tmod (N : Int) = (u : Int) := by rw [← hu]; rfl
   have t2 : (p : Int).tdiv (N : Int) = (v : Int) := by rw [← hv]; rfl
   have v1 : IntKind.i64.wrap (u : Int) = (u : Int) := IntWalk.i64_in _ (by omega)
   have v2 : IntKind.i64.wrap (v : Int) = (v : Int) := IntWalk.i64_in _ (by omega)
   have v3 : IntKind.i64.wrap ((u : Int) + ox) = (u : Int) + ox := IntWalk.i64_in _ (by omega)
   have v4 : IntKind.i64.wrap ((v : Int) + oy) = (v : Int) + oy := IntWalk.i64_in _ (by omega)
   rw [hpn] at HMD
   have HP1 := Lib.hid (fun w => HPL.out (some ⟨lb, lo', none⟩) C ((u : Int) + ox) ((v : Int) + oy) w (by omega) (by omega))
   have hq := HPB.out ((u : Int) + ox, (v : Int) + oy)
   generalize place N ((u : Int) + ox, (v : Int) + oy) = q at *
   generalize movdL W H cs G N ⟨t, f, (ox, oy)⟩ k = L at *
   have m0 := bCs (HMS.out.bel) HM0.out
   have m1 := bCs (HMS.out.bel) HM1.out
   have m2 := bCs (HMS.out.bel) HM2.out
   have m3 := bCs (HMS.out.bel) HM3.out
   have c0 := bCs (HMS.out.bel) HC0.out
   have c1 := bCs (HMS.out.bel) HC1.out
   have c2 := bCs (HMS.out.bel) HC2.out
   have lm : LtW (w.heap.size + 1) wr := World.block_lt_of_cell? _ _ m0
   have lq : LtW w2.heap.size wr := World.block_lt_of_cell? _ _ c0
   have o3 : wr.cell? ⟨ob, 3, none⟩ = some (.slice (some ⟨gb, 0, none⟩) M M) := HMS.out.o.cell (i := 3) (by omega)
   have lo : LtW ob wr := HMS.out.o.lt
   have lg : LtW gb wr := HMS.out.c.lt
   have cq : wr.cell? ⟨gb, q, none⟩ = some (.int .i64 (L.getD q 0)) := HMS.out.c.cell (i := q) hq
   have fq := HMS.out.c.frozen q
   clear hpt hlg htb htc hlb hlc hp hu hv hpn
   go_wp2_with fail
   (refine wp_region_ext_tail 27 (by kernel_rfl) (by kernel_rfl) ?_; simp only [List.take_succ_cons, List.take_zero, List.drop_succ_cons, List.drop_zero]; (repeat (first | ((with_reducible refine ext_step (fun K hK => ?_)); go_simp; first | (refine hK _ ?_; clear hK K) | (apply Exists.intro; refine ⟨fun _ _ => ?_, hK _ ?_⟩; (go_at_call 39; exact extOf (HP1.out _)); clear hK K)))); refine wpQuiet_nil ?_; intro E d)
   have HMS7 := Lib.hid (((HMS.out.put hq X).grow (bExtW (Below.refl _ _) (Nat.le_refl _) (E := E) (d := d))))
   have HT7 := Lib.hid ((OwnI.setLow (i := q) (u := .int .i64 X) HT.out (Nat.lt_succ_self gb)).below (bExtW (Below.refl _ _) (Nat.le_refl _) (E := E) (d := d)))
   go_wp2
   go_roundw
   case rel => exact ⟨k + 1, by omega, by go_num, by rw [HMD.out]; exact HMS7, HT7⟩
   case measure => simp [intOf]; omega
  ·obtain rfl : k = M := by omega
   have dk : decide ((k : Int) < (k : Int)) = false := by simp
   have HR2 := rowBelow HRR.out HMS.out.bel HRR.out.lt
   have r0 : wr.cell? ⟨w.heap.size + 1 + 1, 0, none⟩ = some (.int .i64 (0)) := HR2.cell (i := 0) (by omega)
   have r1 : wr.cell? ⟨w.heap.size + 1 + 1, 1, none⟩ = some (.int .i64 (0)) := HR2.cell (i := 1) (by omega)
   have r2 : wr.cell? ⟨w.heap.size + 1 + 1, 2, none⟩ = some (.int .i64 (0)) := HR2.cell (i := 2) (by omega)
   have r3 : wr.cell? ⟨w.heap.size + 1 + 1, 3, none⟩ = some (.slice none 0 0) := HR2.cell (i := 3) (by omega)
   have s0 := HR2.frozen 0
   have s1 := HR2.frozen 1
   have s2 := HR2.frozen 2
   have s3 := HR2.frozen 3
   have lr : LtW (w.heap.size + 1 + 1) wr := HR2.lt
   have o0 : wr.cell? ⟨ob, 0, none⟩ = some (.int .i64 (G : Int)) := HMS.out.o.cell (i := 0) (by omega)
   have o1 : wr.cell? ⟨ob, 1, none⟩ = some (.int .i64 (N : Int)) := HMS.out.o.cell (i := 1) (by omega)
   have o2 : wr.cell? ⟨ob, 2, none⟩ = some (.int .i64 (N : Int)) := HMS.out.o.cell (i := 2) (by omega)
   have o3 : wr.cell? ⟨ob, 3, none⟩ = some (.slice (some ⟨gb, 0, none⟩) k k) := HMS.out.o.cell (i := 3) (by omega)
   have lo : LtW ob wr := HMS.out.o.lt
   have hgr : gb ≠ w.heap.size + 1 + 1 := fun e => by have := HMS.out.lo; have := HRR.out.lt; omega
   have HFIN : Hid (∀ v0 v1 v2 v3, IsInts ((((wr.setCell ⟨w.heap.size + 1 + 1, 0, none⟩ v0).setCell ⟨w.heap.size + 1 + 1, 1, none⟩ v1).setCell ⟨w.heap.size + 1 + 1, 2, none⟩ v2).setCell ⟨w.heap.size + 1 + 1, 3, none⟩ v3) (some ⟨gb, 0, none⟩) k (movdL W H cs G N ⟨t, f, (ox, oy)⟩ k) ∧ Below w.heap.size w ((((wr.setCell ⟨w.heap.size + 1 + 1, 0, none⟩ v0).setCell ⟨w.heap.size + 1 + 1, 1, none⟩ v1).setCell ⟨w.heap.size + 1 + 1, 2, none⟩ v2).setCell ⟨w.heap.size + 1 + 1, 3, none⟩ v3)) := Lib.hid fun v0 v1 v2 v3 => by
    have hc := (((HMS.out.c.setOther (a := ⟨w.heap.size + 1 + 1, 0, none⟩) hgr v0).setOther (a := ⟨w.heap.size + 1 + 1, 1, none⟩) hgr v1).setOther (a := ⟨w.heap.size + 1 + 1, 2, none⟩) hgr v2).setOther (a := ⟨w.heap.size + 1 + 1, 3, none⟩) hgr v3
    refine ⟨⟨HMS.out.ll, fun _ => ⟨gb, 0, rfl, hc.lt, fun j hj => by rw [Nat.zero_add]; exact hc.cell hj⟩⟩, ?_⟩
    have h6 := HBW.out.trans (HMS.out.bel.mono HBW.out.size)
    exact (((h6.setCell (p := ⟨w.heap.size + 1 + 1, 0, none⟩) (by simp only; omega) v0).setCell (p := ⟨w.heap.size + 1 + 1, 1, none⟩) (by simp only; omega) v1).setCell (p := ⟨w.heap.size + 1 + 1, 2, none⟩) (by simp only; omega) v2).setCell (p := ⟨w.heap.size + 1 + 1, 3, none⟩) (by simp only; omega) v3
   clear HMS HR2 HT HZ0 HPL HPT HIB HPB HLG HA3 HRR
   go_wp2
   refine bodyPost_ret (v := .tuple #[.agg #[.int .i64 (G), .int .i64 (N), .int .i64 (N), .slice (some ⟨gb, 0, none⟩) k k], .int .i64 (0)]) (by simp [results, Tryd.results14, go_sem, r0, r1, r2, r3, lr]) rfl ⟨⟨_, _, rfl, (HFIN.out _ _ _ _).1⟩, (HFIN.out _ _ _ _).2⟩
end
section
open Go.RowKit
open Z (torN place pnt Mv To lin okT nrm keepB colP idm md redM both inv)
end
section
open Go.RowKit
open Z (torN place pnt Mv To lin okT nrm keepB colP idm md redM movdL both inv)
end
section
open Go.RowKit
open Z (torN place pnt Mv To lin okT nrm keepB colP idm md redM movdL both inv movd)
theorem ChOk.moved {G W H n N M : Nat} {cs : List Int} (h : ChOk G W H n cs) (h24 : N ≤ 24) (h0 : 0 < N) (hM : N * N = M) (m : Mv) : ChOk G N N M (movdL W H cs G N m M) :=
 ⟨h.g, h0, by omega, h0, by omega, hM.symm, Z.movdL_mem (P := fun x => 0 ≤ x ∧ x < 62) (by omega) h.cr M⟩
theorem moved_col {G W H n N M : Nat} {cs : List Int} (h : ChOk G W H n cs) (hN : torN W H = N) (h0 : 0 < N) (hM : N * N = M) {m : Mv} (hm : okT (G : Int) m) : colP N N (movdL W H cs G N m M) = movd G m (colP W H cs) := by
 have hd := Z.torN_dvd W H
 rw [hN] at hd
 rw [← hM]
 exact Z.movd_col (by have := h.g; show (G : Int) = 4 ∨ (G : Int) = 6; omega) h0 hd.1 hd.2 hm
end
section
open Go.RowKit
open Z (torN place pnt Mv To lin okT nrm keepB colP idm md redM both inv stK Sid Upw movesL turnsF waysF kindP alongB movd movdL SameSig)
def KindIs (G W H : Nat) (cs : List Int) (K : Int) : Prop :=
 ∃ N sa uc ub, torN W H = N ∧ N ≤ 24 ∧ 0 < N ∧ Sid (stK W H cs G N) N sa ∧ Upw (stK W H cs G N) N sa uc ub ∧ kindP (turnsF (movesL W H cs G N)).length (alongB G sa ub uc (waysF G sa ub uc (movesL W H cs G N))) (waysF G sa ub uc (movesL W H cs G N)) = K
theorem Kind_is {G W H n : Nat} {a : Option Addr} {c : Nat} {cs : List Int} {K : Int} {w : World} (hI : IsInts w a n cs) (h : ChOk G W H n cs) (hK : KindIs G W H cs K) :
  Calls Tryd.prog 19 #[.agg #[.int .i64 (G), .int .i64 (W), .int .i64 (H), .slice a n c]] w fun r w' => r = .returned (.tuple #[.int .i64 (K), .int .i64 (0)]) ∧ Below w.heap.size w w' := by
 obtain ⟨N, sa, uc, ub, hN, h24, h0, hS, hU, rfl⟩ := hK
 exact Kind_ok G W H n N sa uc ub a c cs w hI h hN h24 h0 hS hU
theorem KindIs.ex {G W H n : Nat} {cs : List Int} (h : ChOk G W H n cs) (h24 : torN W H ≤ 24) : ∃ K, KindIs G W H cs K := by
 have hd := Z.torN_dvd W H
 obtain ⟨sa, uc, ub, hS, hU⟩ := Z.fine_ex (cs := cs) (g := (G : Int)) h.tpos hd.1 hd.2
 exact ⟨_, _, sa, uc, ub, rfl, h24, h.tpos, hS, hU, rfl⟩
theorem KindIs.same {G W H n W' H' n' : Nat} {cs cs' : List Int} {K : Int} (hK : KindIs G W H cs K) (h : ChOk G W H n cs) (h' : ChOk G W' H' n' cs') (h24' : torN W' H' ≤ 24) (hs : SameSig G (colP W H cs) (colP W' H' cs')) : KindIs G W' H' cs' K := by
 obtain ⟨N, sa, uc, ub, hN, h24, h0, hS, hU, rfl⟩ := hK
 have hg : Z.G (G : Int) := by have := h.g; show (G : Int) = 4 ∨ (G : Int) = 6; omega
 have hd := Z.torN_dvd W H
 have hd' := Z.torN_dvd W' H'
 have h0' := h'.tpos
 rw [hN] at hd
 obtain ⟨sa', uc', ub', hS', hU'⟩ := Z.fine_ex (cs := cs') (g := (G : Int)) h0' hd'.1 hd'.2
 refine ⟨_, sa', uc', ub', rfl, h24', h0', hS', hU', ?_⟩
 have a1 := hS.an
 have a2 := hS'.an
 exact (Z.kind_same (Z.movesL_grp h0 hd.1 hd.2) (Z.movesL_grp h0' hd'.1 hd'.2) hg h0 h0' (Z.colP_per cs hd.1 hd.2) (Z.colP_per cs' hd'.1 hd'.2) (Z.fine_of h0 hd.1 hd.2 hS hU) (Z.fine_of h0' hd'.1 hd'.2 hS' hU') (by omega) (by omega) hs).symm
theorem KindIs.bd {G W H n : Nat} {cs : List Int} {K : Int} (hK : KindIs G W H cs K) (h : ChOk G W H n cs) : 1 ≤ K ∧ K ≤ 17 := by
 obtain ⟨N, sa, uc, ub, hN, h24, h0, hS, hU, rfl⟩ := hK
 have hg : Z.G (G : Int) := by have := h.g; show (G : Int) = 4 ∨ (G : Int) = 6; omega
 have hd := Z.torN_dvd W H
 rw [hN] at hd
 have := Z.counts_ok hg h0 hd.1 hd.2 (Z.fine_of h0 hd.1 hd.2 hS hU) (alongB G sa ub uc (waysF G sa ub uc (movesL W H cs G N))) rfl
 exact ⟨this.1, this.2.1⟩
end
section
open Go.RowKit
end
section
open Go.RowKit
open Cl Lo
open By (readS)
open Z (torN place pnt Mv To lin okT nrm keepB colP idm md redM both inv stK Sid Upw movesL turnsF waysF kindP alongB movdL)
def TorBadT (e : Int) (V : Value) (a : Option Addr) (n : Nat) (cs : List Int) : Prop :=
 e ≠ 0 ∧ (∀ w, IsInts w a n cs → Calls Tryd.prog 60 #[V] w fun r w' => r = .returned (.tuple #[.int .i64 (0), .int .i64 (e)]) ∧ Below w.heap.size w w')
theorem chart_casesT (G W H : Int) (a : Option Addr) (n c : Nat) (cs : List Int) (h0 : (-9223372036854775808 ≤ G ∧ G ≤ 9223372036854775807)) (h1 : (-9223372036854775808 ≤ W ∧ W ≤ 9223372036854775807)) (h2 : (-9223372036854775808 ≤ H ∧ H ≤ 9223372036854775807)) (h3 : n ≤ 9223372036854775807) :
  (∃ e : Int, TorBadT e (.agg #[.int .i64 (G), .int .i64 (W), .int .i64 (H), .slice a n c]) a n cs) ∨ (∃ G' W' H' N : Nat, G = G' ∧ W = W' ∧ H = H' ∧ ChOk G' W' H' n cs ∧ torN W' H' = N ∧ 0 < N ∧ N ≤ 24) := by
 by_cases he : chE G W H n cs = 0
 ·obtain ⟨G', W', H', rfl, rfl, rfl, h⟩ := ChOk.of he
  by_cases hN : 24 < torN W' H'
  ·have hv : torV (torN W' H') = .tuple #[.int .i64 (0), .int .i64 (4)] := by unfold torV; rw [if_pos hN]
   exact .inl ⟨4, by omega, fun w hI => by rw [← hv]; exact Torus_ok G' W' H' n a c cs w hI h⟩
  ·exact .inr ⟨G', W', H', _, rfl, rfl, rfl, h, rfl, h.tpos, by omega⟩
 ·exact .inl ⟨_, he, fun w hI => Torus_bad G W H a n c cs w hI h0 h1 h2 h3 he⟩
theorem lfTwB0 {P : Prop} (h : P := by
 go_wp2
 refine bodyPost_ret (v := .tuple #[.agg #[.int .i64 (0), .int .i64 (0), .int .i64 (0), .slice none 0 0], .int .i64 (e)]) (by simp [results, Tryd.results14, go_sem]) rfl ⟨⟨none, 0, rfl, ints_nil _⟩, blw⟩) : P := h
set_option maxRecDepth 100000 in
set_option maxHeartbeats 8000000 in
theorem Moved_badT (G W H : Int) (a : Option Addr) (n c : Nat) (cs : List Int) (t : Int) (f : Bool) (ox oy : Int) (w : World) (hI : IsInts w a n cs) (e : Int) (hT : TorBadT e (.agg #[.int .i64 (G), .int .i64 (W), .int .i64 (H), .slice a n c]) a n cs) :
  Calls Tryd.prog 14 #[.agg #[.int .i64 (G), .int .i64 (W), .int .i64 (H), .slice a n c], .agg #[.int .i64 (t), .bool (f), .int .i64 (ox), .int .i64 (oy)]] w (MdPost 0 0 0 0 [] e w) := by
 have hb : (e != 0) = true := by simpa using hT.1
 have HL := Lib.hid (fun w hI => laid_bad G W H a n c cs w hI e hT.1 hT.2)
 have HI := Lib.hid hI
 clear hI hT
 ·go_enter Tryd.func14, Tryd.ntmps14
  (go_wp2_with fail; refine (HL.out _ (HI.out.below blw)).mono ?_; rintro r w1 ⟨rfl, hb⟩; obtain ⟨E, d, rfl⟩ := bExt hb; clear hb)
  exact lfTwB0
set_option maxRecDepth 100000 in
set_option maxHeartbeats 8000000 in
theorem Moved_wrongT (G W H n N : Nat) (a : Option Addr) (c : Nat) (cs : List Int) (t : Int) (f : Bool) (ox oy : Int) (w : World) (hI : IsInts w a n cs) (h : ChOk G W H n cs) (hN : torN W H = N) (h24 : N ≤ 24) (ht : (-9223372036854775808 ≤ t ∧ t ≤ 9223372036854775807)) (h0 : (-9223372036854775808 ≤ ox ∧ ox ≤ 9223372036854775807)) (h1 : (-9223372036854775808 ≤ oy ∧ oy ≤ 9223372036854775807)) (he : wE G t ox oy ≠ 0) :
  Calls Tryd.prog 14 #[.agg #[.int .i64 (G), .int .i64 (W), .int .i64 (H), .slice a n c], .agg #[.int .i64 (t), .bool (f), .int .i64 (ox), .int .i64 (oy)]] w (MdPost 0 0 0 0 [] (wE G t ox oy) w) := by
 obtain ⟨M, hM⟩ : ∃ M, N * N = M := ⟨_, rfl⟩
 have hgw : (-9223372036854775808 ≤ (G : Int) ∧ (G : Int) ≤ 9223372036854775807) := by have := h.g; omega
 have HL := Lib.hid (fun w hI => laid_ok G W H n N M a c cs w hI h hN h24 hM)
 have HW := Lib.hid (fun w => Wrong_any G t ox oy f w hgw ht h0 h1)
 have hb : (wE G t ox oy != 0) = true := by simpa using he
 have HI := Lib.hid hI
 generalize wE G t ox oy = e at *
 clear hI hN hM h he ht h0 h1 hgw
 ·go_enter Tryd.func14, Tryd.ntmps14
  go_wp2_with fail
  refine (HL.out _ (HI.out.below blw)).mono ?_
  rintro r w2 ⟨⟨A, C, rfl, hA⟩, hb2⟩
  obtain ⟨E, d, rfl⟩ := bExt hb2
  clear hA hb2
  (go_wp2_with fail; refine (HW.out _).mono ?_; rintro r w1 ⟨rfl, hb⟩; obtain ⟨E, d, rfl⟩ := bExt hb; clear hb)
  exact lfTwB0
end
section
open Go.RowKit
open Cl Lo
open By (readS)
theorem name_okT (k : Int) (h1 : 1 ≤ k) (h2 : k ≤ 17) (w : World) : Calls Tryd.prog 20 #[.int .i64 (k)] w fun r w' => r = .returned (.tuple #[.string (nmB k), .int .i64 (0)]) ∧ Below w.heap.size w w' := by
 have h : nmV k = .tuple #[.string (nmB k), .int .i64 (0)] := by
  unfold nmV
  rw [if_neg (by omega)]
 have := Name_any k w
 rwa [h] at this
end
section
open Lo
theorem per_modT {α : Type} {g : Nat → α} {W : Nat} (hg : ∀ x, g (x + W) = g x) (i : Nat) : g (i % W) = g i := by
 have hper : ∀ i k, g (i + k * W) = g i := by
  intro i k
  induction k with
  | zero => simp
  | succ k ih => rw [Nat.add_mul, Nat.one_mul, ← Nat.add_assoc, hg, ih]
 have := hper (i % W) (i / W)
 rw [Nat.mul_comm, Nat.mod_add_div] at this
 exact this.symm
theorem mx_laid {g : Nat → Nat} {W N s : Nat} (hW : 0 < W) (hd : W ∣ N) (hN : 0 < N) (hg : ∀ x, g (x + W) = g x) : mxTo (fun x => g (x + s)) N = mxTo g W := by
 have hle := Nat.le_of_dvd hN hd
 have hh : ∀ x, (fun x => g (x + s)) (x + W) = (fun x => g (x + s)) x := fun x => by
  show g (x + W + s) = g (x + s)
  rw [show x + W + s = x + s + W by omega, hg]
 rw [← mx_shift hW hg (s := s)]
 apply Nat.le_antisymm
 ·refine mxTo_le fun x hx => ?_
  have := per_modT (g := fun x => g (x + s)) hh x
  show g (x + s) ≤ _
  rw [show g (x + s) = g (x % W + s) from this.symm]
  exact le_mxTo (g := fun x => g (x + s)) (Nat.mod_lt _ hW)
 ·exact mxTo_le fun x hx => le_mxTo (g := fun x => g (x + s)) (by omega)
def LaidB (W H N s t : Nat) (bs bs' : List Bool) : Prop := ∀ y x, y < N → x < N → bs'.getD (y * N + x) false = bs.getD ((y + t) % H * W + (x + s) % W) false
section
variable {W H N s t : Nat} {bs bs' : List Bool}
theorem LaidB.turn (h : LaidB W H N s t bs bs') (hW : 0 < W) (hH : 0 < H) : LaidB H W N t s (turnL W H bs) (turnL N N bs') := fun x y hx hy => by
 rw [turnL_get hx hy, h y x hy hx, turnL_get (Nat.mod_lt _ hW) (Nat.mod_lt _ hH)]
theorem modN_mod {i s N W : Nat} (hd : W ∣ N) : (i % N + s) % W = (i + s) % W := by
 rw [Nat.add_mod, Nat.mod_mod_of_dvd i hd, ← Nat.add_mod]
theorem LaidB.rf (h : LaidB W H N s t bs bs') (hd : W ∣ N) (hN : 0 < N) (of : Bool) {y : Nat} (hy : y < N) (i : Nat) : rf of N bs' y i = rf of W bs ((y + t) % H) (i + s) := by
 unfold Lo.rf
 rw [h y (i % N) hy (Nat.mod_lt _ hN), modN_mod hd]
theorem LaidB.rowG (h : LaidB W H N s t bs bs') (hd : W ∣ N) (hW : 0 < W) (hN : 0 < N) (of : Bool) {y : Nat} (hy : y < N) : rowG of N bs' y = rowG of W bs ((y + t) % H) := by
 unfold Lo.rowG
 have e : mxTo (fun x => crun (Lo.rf of N bs' y) x 65) N = mxTo (fun x => (fun x => crun (Lo.rf of W bs ((y + t) % H)) x 65) (x + s)) N := mxTo_congr fun x hx => by
  rw [crun_congr (h.rf hd hN of hy)]
  exact crun_shift _ s 65 x
 rw [e]
 refine mx_laid (g := fun x => crun (Lo.rf of W bs ((y + t) % H)) x 65) hW hd hN fun x => ?_
 show crun _ (x + W) 65 = crun _ x 65
 rw [← crun_shift]
 exact crun_congr (fun i => rf_per of W bs _ i) 65 x
theorem LaidB.long (h : LaidB W H N s t bs bs') (hd : W ∣ N) (hd2 : H ∣ N) (hW : 0 < W) (hH : 0 < H) (hN : 0 < N) (of : Bool) : longV of N N bs' = longV of W H bs := by
 unfold longV
 have e : mxTo (Lo.rowG of N bs') N = mxTo (fun y => (fun y => Lo.rowG of W bs (y % H)) (y + t)) N := mxTo_congr fun y hy => h.rowG hd hW hN of hy
 rw [e, mx_laid (g := fun y => Lo.rowG of W bs (y % H)) hH hd2 hN (fun x => by
  show Lo.rowG of W bs ((x + H) % H) = Lo.rowG of W bs (x % H)
  rw [Nat.add_mod_right])]
 exact mxTo_congr fun y hy => by
  show Lo.rowG of W bs (y % H) = _
  rw [Nat.mod_eq_of_lt hy]
end
section
variable {α : Type} [DecidableEq α]
theorem usedN_front (f : Nat → α) : ∀ k, usedN f (k + 1) = usedN (fun i => f (i + 1)) k + (if ∀ j, j < k → f (j + 1) ≠ f 0 then 1 else 0)
 | 0 => by unfold usedN; unfold usedN; simp
 | k + 1 => by
  have ih := usedN_front f k
  have e1 : usedN f (k + 1 + 1) = usedN f (k + 1) + (if ∀ j, j < k + 1 → f j ≠ f (k + 1) then 1 else 0) := rfl
  have e2 : usedN (fun i => f (i + 1)) (k + 1) = usedN (fun i => f (i + 1)) k + (if ∀ j, j < k → f (j + 1) ≠ f (k + 1) then 1 else 0) := rfl
  rw [e1, e2, ih]
  have a1 : (∀ j, j < k + 1 → f j ≠ f (k + 1)) ↔ (∀ j, j < k → f (j + 1) ≠ f (k + 1)) ∧ f 0 ≠ f (k + 1) := by
   constructor
   ·exact fun h => ⟨fun j hj => h (j + 1) (by omega), h 0 (by omega)⟩
   ·rintro ⟨h1, h2⟩ j hj
    cases j with
    | zero => exact h2
    | succ j => exact h1 j (by omega)
  have a2 : (∀ j, j < k + 1 → f (j + 1) ≠ f 0) ↔ (∀ j, j < k → f (j + 1) ≠ f 0) ∧ f 0 ≠ f (k + 1) := by
   constructor
   ·exact fun h => ⟨fun j hj => h j (by omega), fun e => h k (by omega) e.symm⟩
   ·rintro ⟨h1, h2⟩ j hj
    by_cases e : j = k
    ·subst e; exact fun e => h2 e.symm
    ·exact h1 j (by omega)
  by_cases e : f 0 = f (k + 1)
  ·rw [if_neg (fun h => (a1.1 h).2 e), if_neg (fun h => (a2.1 h).2 e), e]
  ·by_cases h1 : ∀ j, j < k → f (j + 1) ≠ f (k + 1) <;> by_cases h2 : ∀ j, j < k → f (j + 1) ≠ f 0
   ·rw [if_pos h1, if_pos h2, if_pos (a1.2 ⟨h1, e⟩), if_pos (a2.2 ⟨h2, e⟩)]
   ·rw [if_pos h1, if_neg h2, if_pos (a1.2 ⟨h1, e⟩), if_neg fun h => h2 (a2.1 h).1]
   ·rw [if_neg h1, if_pos h2, if_neg (fun h => h1 (a1.1 h).1), if_pos (a2.2 ⟨h2, e⟩)]
   ·rw [if_neg h1, if_neg h2, if_neg (fun h => h1 (a1.1 h).1), if_neg fun h => h2 (a2.1 h).1]
theorem usedN_rot1 {f : Nat → α} {H : Nat} (hH : 0 < H) (hf : ∀ x, f (x + H) = f x) : usedN (fun i => f (i + 1)) H = usedN f H := by
 have h1 := usedN_front f H
 have h2 : usedN f (H + 1) = usedN f H + (if ∀ j, j < H → f j ≠ f H then 1 else 0) := rfl
 have h0 : f H = f 0 := by have := hf 0; rwa [Nat.zero_add] at this
 rw [h2, if_neg (fun h => h 0 hH h0.symm), if_neg (fun h => h (H - 1) (by omega) (by rw [Nat.sub_add_cancel hH]; exact h0))] at h1
 omega
theorem usedN_rot {f : Nat → α} {H : Nat} (hH : 0 < H) (hf : ∀ x, f (x + H) = f x) : ∀ s, usedN (fun i => f (i + s)) H = usedN f H
 | 0 => rfl
 | s + 1 => by
  have ih := usedN_rot hH hf s
  rw [← ih]
  have hper : ∀ x, (fun i => f (i + s)) (x + H) = (fun i => f (i + s)) x := fun x => by
   show f (x + H + s) = f (x + s)
   rw [show x + H + s = x + s + H by omega, hf]
  have := usedN_rot1 (f := fun i => f (i + s)) hH hper
  rw [← this]
  have e : (fun i => f (i + (s + 1))) = fun i => (fun i => f (i + s)) (i + 1) := by
   funext i
   show f (i + (s + 1)) = f (i + 1 + s)
   rw [show i + (s + 1) = i + 1 + s by omega]
  rw [e]
theorem usedN_ext {f : Nat → α} {H : Nat} (hH : 0 < H) (hf : ∀ x, f (x + H) = f x) : ∀ m, usedN f (H + m) = usedN f H
 | 0 => rfl
 | m + 1 => by
  have ih := usedN_ext hH hf m
  have e : usedN f (H + m + 1) = usedN f (H + m) + (if ∀ j, j < H + m → f j ≠ f (H + m) then 1 else 0) := rfl
  rw [← Nat.add_assoc, e, ih, if_neg]
  ·rfl
  ·intro h
   exact h m (by omega) (by rw [Nat.add_comm H m, hf])
theorem usedN_laid {g : Nat → α} {H N t : Nat} (hH : 0 < H) (hd : H ∣ N) (hN : 0 < N) : usedN (fun y => g ((y + t) % H)) N = usedN g H := by
 have hle := Nat.le_of_dvd hN hd
 obtain ⟨m, rfl⟩ : ∃ m, N = H + m := ⟨N - H, by omega⟩
 have h1 : ∀ x, (fun y => g (y % H)) (x + H) = (fun y => g (y % H)) x := fun x => by
  show g ((x + H) % H) = g (x % H)
  rw [Nat.add_mod_right]
 have h2 : ∀ x, (fun y => g ((y + t) % H)) (x + H) = (fun y => g ((y + t) % H)) x := fun x => by
  show g ((x + H + t) % H) = g ((x + t) % H)
  rw [show x + H + t = x + t + H by omega, Nat.add_mod_right]
 rw [usedN_ext (f := fun y => g ((y + t) % H)) hH h2 m]
 have e := usedN_rot (f := fun y => g (y % H)) hH h1 t
 have e2 : usedN (fun y => g (y % H)) H = usedN g H := usedN_eq fun i j hi hj => by
  show g i = g j ↔ g (i % H) = g (j % H)
  rw [Nat.mod_eq_of_lt hi, Nat.mod_eq_of_lt hj]
 rw [← e2, ← e]
end
theorem LaidB.rows {W H N s t : Nat} {bs bs' : List Bool} (h : LaidB W H N s t bs bs') (hd : W ∣ N) (hW : 0 < W) (hN : 0 < N) {y z : Nat} (hy : y < N) (hz : z < N) : rowL bs' N y = rowL bs' N z ↔ rowL bs W ((y + t) % H) = rowL bs W ((z + t) % H) := by
 have hle := Nat.le_of_dvd hN hd
 have get : ∀ {b : List Bool} {w y x : Nat}, x < w → (rowL b w y).getD x false = b.getD (y * w + x) false := fun {b w y x} hx => by
  unfold rowL; exact getD_map_range _ hx
 constructor
 ·intro e
  refine eq_of_getD (d := false) (n := W) (by simp [rowL]) (by simp [rowL]) fun x hx => ?_
  rw [get hx, get hx]
  have hs : s % W < W := Nat.mod_lt _ hW
  obtain ⟨x', hx', ex⟩ : ∃ x', x' < N ∧ (x' + s) % W = x := by
   refine ⟨(x + (W - s % W)) % W, by have := Nat.mod_lt (x + (W - s % W)) hW; omega, ?_⟩
   rw [Nat.mod_add_mod]
   have h2 : s = s % W + W * (s / W) := (Nat.mod_add_div s W).symm
   have h3 : x + (W - s % W) + s = x + W * (1 + s / W) := by
    rw [Nat.mul_add, Nat.mul_one]; omega
   rw [h3, Nat.add_mul_mod_self_left, Nat.mod_eq_of_lt hx]
  have e2 : (rowL bs' N y).getD x' false = (rowL bs' N z).getD x' false := by rw [e]
  rw [get hx', get hx', h y x' hy hx', h z x' hz hx', ex] at e2
  exact e2
 ·intro e
  refine eq_of_getD (d := false) (n := N) (by simp [rowL]) (by simp [rowL]) fun x hx => ?_
  rw [get hx, get hx, h y x hy hx, h z x hz hx, ← get (Nat.mod_lt _ hW), ← get (Nat.mod_lt _ hW), e]
theorem LaidB.picks {W H N s t : Nat} {bs bs' : List Bool} (h : LaidB W H N s t bs bs') (hd : W ∣ N) (hd2 : H ∣ N) (hW : 0 < W) (hH : 0 < H) (hN : 0 < N) : (picks N N bs').length = (picks W H bs).length := by
 have h1 := (used_tr (W := N) (H := N) (bs := bs')).2
 have h2 := (used_tr (W := W) (H := H) (bs := bs)).2
 rw [← h1, ← h2, ← usedN_laid (g := rowL bs W) (t := t) hH hd2 hN]
 exact usedN_eq fun i j hi hj => (h.rows hd hW hN hi hj).symm
theorem LaidB.ends {W H N s t : Nat} {bs bs' : List Bool} (h : LaidB W H N s t bs bs') (hd : W ∣ N) (hd2 : H ∣ N) (hW : 0 < W) (hH : 0 < H) (hN : 0 < N) : (ends N N bs').length = (ends W H bs).length := by
 have h1 := (used_th (W := N) (H := N) (bs := bs')).2
 have h2 := (used_th (W := W) (H := H) (bs := bs)).2
 have ht := h.turn hW hH
 rw [← h1, ← h2, ← usedN_laid (g := rowL (turnL W H bs) H) (t := s) hW hd hN]
 exact usedN_eq fun i j hi hj => (ht.rows hd2 hH hN hi hj).symm
end
end Go.Proofs.YtajdoobkfbdgoaaDoor
