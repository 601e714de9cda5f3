/- Lemmas and contracts of functions (what each call returns, and that it changes nothing that was there) that the proof of a law of this seat uses; each lemma states its own conditions. -/
import Derived.Test.YtooilennejakhaaB38
import Derived.Test.YtooilennejakhaaB27
import Derived.Test.YtooilennejakhaaB35
import Derived.Test.YtooilennejakhaaB37
namespace Go.Proofs.Ytooilennejakhaa
open Go.RowKit
set_option linter.unusedVariables false
set_option linter.unusedSimpArgs false
open Z (torN place pnt Mv To lin okT nrm keepB colP idm md redM movdL)
theorem own_baseI {w w' : World} {n C gb : Nat} {A : Option Addr} {L : List Int} (h : OwnI w' w.heap.size A n C L) (hb : gb < w.heap.size) : OwnI w' (gb + 1) A n C L := ⟨h.1, own_baseV h.2 hb⟩
set_option maxRecDepth 100000 in
set_option maxHeartbeats 8000000 in
theorem Moved_ok (G W H n N t M : Nat) (f : Bool) (ox oy : Int) (a : Option Addr) (c : Nat) (cs : List Int) (w : World) (hI : IsInts w a n cs) (h : ChOk G W H n cs) (hN : torN W H = N) (h24 : N ≤ 24) (h0 : 0 < N) (hM : N * N = M) (hx : (-9223372036854775808 ≤ ox ∧ ox ≤ 9223372036854775807)) (hy : (-9223372036854775808 ≤ oy ∧ oy ≤ 9223372036854775807)) (he : wE G t ox oy = 0) :
    Calls Try.prog 18 #[.agg #[.int .i64 (G), .int .i64 (W), .int .i64 (H), .slice a n c], .agg #[.int .i64 (t), .bool (f), .int .i64 (ox), .int .i64 (oy)]] w (MdPost G N N M (movdL W H cs G N ⟨t, f, (ox, oy)⟩ M) 0 w) := by
  have hg : (G : Int) = 4 ∨ (G : Int) = 6 := by have := h.g; omega
  obtain ⟨_, hs, n', hn', htl⟩ := wE_zero he
  have htG : t < G := by omega
  have hM6 : M ≤ 576 := by rw [← hM]; exact Nat.mul_le_mul h24 h24
  have hM1 : 1 ≤ M := by rw [← hM]; exact Nat.mul_pos h0 h0
  have hNi : (N : Int) * (N : Int) = (M : Int) := by rw [← hM]; push_cast; rfl
  have vM : IntKind.i64.wrap (M : Int) = (M : Int) := IntWalk.i64_in _ (by omega)
  have HL := Lib.hid (fun w hI => laid_ok G W H n N M a c cs w hI h hN h24 hM)
  have HW := Lib.hid (fun w => Wrong_any G t ox oy f w (by omega) (by omega) hx hy)
  rw [he] at HW
  have HIM := Lib.hid (fun a c w => image_ok (G : Int) N M t f a c w hg (by omega) h0 h24 hM)
  have HREP := Lib.hid (fun b w hc => repeat_ok M 1 b w hM1 (by omega) hc)
  have HPL := Lib.hid (fun a c x y w h1 h2 => place_ok (G : Int) N M a c x y w h0 h24 h1 h2)
  have HPT : Hid (∀ k, k < M → place N (Z.add (pnt N ((Z.imageL (G : Int) N t f).getD k 0)) (ox, oy)) = place N (To G ⟨t, f, (ox, oy)⟩ (pnt N k))) := Lib.hid fun k hk => place_To h0 (by rw [hM]; exact hk)
  have HIB : Hid (∀ k, k < M → (Z.imageL (G : Int) N t f).getD k 0 < M) := Lib.hid fun k hk => by rw [Z.imageL_get (by rw [hM]; exact hk), ← hM]; exact Z.place_lt h0 _
  have HPB : Hid (∀ z, place N z < M) := Lib.hid fun z => by rw [← hM]; exact Z.place_lt h0 z
  have HLG : Hid (∀ k, k < M → (Z.laidL W H cs N).getD k 0 = colP W H cs (pnt N k)) := Lib.hid fun k hk => Z.laidL_get (by rw [hM]; exact hk)
  have HZ0 : Hid (movdL W H cs G N ⟨t, f, (ox, oy)⟩ 0 = List.replicate M 0) := Lib.hid (by rw [movdL_zero, hM])
  have HI := Lib.hid hI
  have HNN := Lib.hid hM
  have b1 : ((N : Int) == 0) = false := by simp; omega
  have b2 : (N : Int) ≠ 0 := by omega
  have b3 : ¬ N = 0 := by omega
  unfold MdPost
  clear hI hN h he hn' htl htG hg hM
  go_enter Try.func18, Try.ntmps18
  go_wp2_with fail
  refine (HL.out _ (HI.out.below (by repeat (first | exact Below.refl _ _ | refine Below.drew ?_ | refine below_drewN ?_ _ | refine Below.alloc ?_ (by first | exact Nat.le_refl _ | (simp; done) | (simp; omega) | omega) _ | refine Below.setCell ?_ (by first | exact Nat.le_refl _ | (simp; done) | (simp; omega) | omega) _ | refine bExtW ?_ (by first | exact Nat.le_refl _ | (simp; done) | (simp; omega) | omega) | refine Below.trans ?_ (Below.mono (by assumption) (by first | exact Nat.le_refl _ | (simp; done) | (simp; omega) | omega)))))).mono ?_
  rintro r w2 ⟨⟨A, C, rfl, hA⟩, hb2⟩
  have m0 : w2.cell? ⟨w.heap.size + 1, 0, none⟩ = some (.int .i64 (t)) := bCs hb2 (by simp [go_sem])
  have m1 : w2.cell? ⟨w.heap.size + 1, 1, none⟩ = some (.bool f) := bCs hb2 (by simp [go_sem])
  have m2 : w2.cell? ⟨w.heap.size + 1, 2, none⟩ = some (.int .i64 (ox)) := bCs hb2 (by simp [go_sem])
  have m3 : w2.cell? ⟨w.heap.size + 1, 3, none⟩ = some (.int .i64 (oy)) := bCs hb2 (by simp [go_sem])
  have k0 : w2.cell? ⟨w.heap.size, 0, none⟩ = some (.int .i64 (G)) := bCs hb2 (by simp [go_sem])
  have lm : LtW (w.heap.size + 1) w2 := World.block_lt_of_cell? _ _ m0
  have lk : LtW w.heap.size w2 := World.block_lt_of_cell? _ _ k0
  have h1 := chtF_alloc ((w.alloc (.cells #[.int .i64 (G : Int), .int .i64 (W : Int), .int .i64 (H : Int), .slice a n c] 24)).alloc (.cells #[.int .i64 (t : Int), .bool f, .int .i64 ox, .int .i64 oy] 39)) 0 0 0 none 0 0
  rw [World.size_alloc, World.size_alloc] at h1
  have hrr := rowBelow h1 hb2 h1.lt
  have hbw2 : Below w.heap.size w w2 := (by repeat (first | exact Below.refl _ _ | refine Below.drew ?_ | refine below_drewN ?_ _ | refine Below.alloc ?_ (by first | exact Nat.le_refl _ | (simp; done) | (simp; omega) | omega) _ | refine Below.setCell ?_ (by first | exact Nat.le_refl _ | (simp; done) | (simp; omega) | omega) _ | refine bExtW ?_ (by first | exact Nat.le_refl _ | (simp; done) | (simp; omega) | omega) | refine Below.trans ?_ (Below.mono (by assumption) (by first | exact Nat.le_refl _ | (simp; done) | (simp; omega) | omega))))
  have HA2 := Lib.hid hA.ints
  clear hb2 h1 hA HL HI
  go_wp2_with fail
  refine (HW.out _).mono ?_
  rintro r w1 ⟨rfl, hb⟩
  obtain ⟨E, d, rfl⟩ := bExt hb
  clear hb HW
  obtain ⟨W3, hW3⟩ : ∃ W3, W3 = extW (w2.alloc (.cells #[.int .i64 (G : Int), .int .i64 (N : Int), .slice A M C] 60)) E d := ⟨_, rfl⟩
  rw [← hW3]
  have hb3 : Below w2.heap.size w2 W3 := by rw [hW3]; exact (by repeat (first | exact Below.refl _ _ | refine Below.drew ?_ | refine below_drewN ?_ _ | refine Below.alloc ?_ (by first | exact Nat.le_refl _ | (simp; done) | (simp; omega) | omega) _ | refine Below.setCell ?_ (by first | exact Nat.le_refl _ | (simp; done) | (simp; omega) | omega) _ | refine bExtW ?_ (by first | exact Nat.le_refl _ | (simp; done) | (simp; omega) | omega) | refine Below.trans ?_ (Below.mono (by assumption) (by first | exact Nat.le_refl _ | (simp; done) | (simp; omega) | omega))))
  have c0 : W3.cell? ⟨w2.heap.size, 0, none⟩ = some (.int .i64 (G)) := by rw [hW3]; simp [go_sem]
  have c1 : W3.cell? ⟨w2.heap.size, 1, none⟩ = some (.int .i64 (N)) := by rw [hW3]; simp [go_sem]
  have c2 : W3.cell? ⟨w2.heap.size, 2, none⟩ = some (.slice A M C) := by rw [hW3]; simp [go_sem]
  clear hW3 k0 lk lm
  have HM0 := Lib.hid (bCs hb3 m0); have HM1 := Lib.hid (bCs hb3 m1); have HM2 := Lib.hid (bCs hb3 m2); have HM3 := Lib.hid (bCs hb3 m3)
  have HC0 := Lib.hid c0; have HC1 := Lib.hid c1; have HC2 := Lib.hid c2
  have HRR := Lib.hid (rowBelow hrr hb3 hrr.lt)
  have HA3 := Lib.hid (HA2.out.below hb3)
  have hbw3 : Below w.heap.size w W3 := hbw2.trans (hb3.mono hbw2.size)
  have HBW := Lib.hid hbw3
  have lq : LtW w2.heap.size W3 := World.block_lt_of_cell? _ _ c0
  clear hb3 m0 m1 m2 m3 hrr HA2 hbw2 hbw3
  go_wp2_with fail
  refine wp_region_HS (Below W3.heap.size W3) (by kernel_rfl) ?_
  (refine anyH_takeS (i := 0) rfl (by kernel_rfl) (fun _ _ _ _ h => h) (Below.refl _ _).drew (fun K hK => ?_); go_simp; refine ⟨_, fun _ _ => rfl, hK _ ?_⟩; clear hK K)
  (refine anyH_takeS (i := 1) rfl (by kernel_rfl) (fun _ _ _ _ h => h) (Below.refl _ _).drew (fun K hK => ?_); simp only [Region.wanted, if_true]; refine ⟨.int .i64 (G), fun w9 h9 => ?_, ?_⟩)
  · clear hK
    have p0 := bCs h9 c0
    have p1 := bCs h9 c1
    have l9 : LtW w2.heap.size w9 := World.block_lt_of_cell? _ _ p0
    clear h9
    go_simp
  go_simp
  refine hK _ ?_
  clear hK K
  (refine anyH_takeS (i := 2) rfl (by kernel_rfl) (fun _ _ _ _ h => h) (Below.refl _ _).drew (fun K hK => ?_); go_simp; refine ⟨_, fun _ _ => rfl, hK _ ?_⟩; clear hK K)
  (refine anyH_takeS (i := 3) rfl (by kernel_rfl) (fun _ _ _ _ h => h) (Below.refl _ _).drew (fun K hK => ?_); simp only [Region.wanted, if_true]; refine ⟨.int .i64 (N), fun w9 h9 => ?_, ?_⟩)
  · clear hK
    have p0 := bCs h9 c0
    have p1 := bCs h9 c1
    have l9 : LtW w2.heap.size w9 := World.block_lt_of_cell? _ _ p0
    clear h9
    go_simp
  go_simp
  refine hK _ ?_
  clear hK K
  (refine anyH_takeS (i := 4) rfl (by kernel_rfl) (fun _ _ _ _ h => h) (Below.refl _ _).drew (fun K hK => ?_); go_simp; refine ⟨_, fun _ _ => rfl, hK _ ?_⟩; clear hK K)
  (refine anyH_takeS (i := 5) rfl (by kernel_rfl) (fun _ _ _ _ h => h) (Below.refl _ _).drew (fun K hK => ?_); simp only [Region.wanted, if_true]; refine ⟨.int .i64 (N), fun w9 h9 => ?_, ?_⟩)
  · clear hK
    have p0 := bCs h9 c0
    have p1 := bCs h9 c1
    have l9 : LtW w2.heap.size w9 := World.block_lt_of_cell? _ _ p0
    clear h9
    go_simp
  go_simp
  refine hK _ ?_
  clear hK K
  (refine anyH_takeS (i := 7) rfl (by kernel_rfl) (fun _ _ _ _ h => h) (Below.refl _ _).drew (fun K hK => ?_); go_simp; refine ⟨_, fun _ _ => rfl, hK _ ?_⟩; clear hK K)
  (refine anyH_takeS (i := 8) rfl (by kernel_rfl) (fun _ _ _ _ h => h) (Below.refl _ _).drew (fun K hK => ?_); simp only [Region.wanted, if_true]; refine ⟨.int .i64 (N), fun w9 h9 => ?_, ?_⟩)
  · clear hK
    have p0 := bCs h9 c0
    have p1 := bCs h9 c1
    have l9 : LtW w2.heap.size w9 := World.block_lt_of_cell? _ _ p0
    clear h9
    go_simp
  go_simp
  refine hK _ ?_
  clear hK K
  (refine anyH_takeS (i := 9) rfl (by kernel_rfl) (fun _ _ _ _ h => h) (Below.refl _ _).drew (fun K hK => ?_); go_simp; refine ⟨_, fun _ _ => rfl, hK _ ?_⟩; clear hK K)
  (refine anyH_takeS (i := 10) rfl (by kernel_rfl) (fun _ _ _ _ h => h) (Below.refl _ _).drew (fun K hK => ?_); simp only [Region.wanted, if_true]; refine ⟨.int .i64 (N), fun w9 h9 => ?_, ?_⟩)
  · clear hK
    have p0 := bCs h9 c0
    have p1 := bCs h9 c1
    have l9 : LtW w2.heap.size w9 := World.block_lt_of_cell? _ _ p0
    clear h9
    go_simp
  go_simp
  refine hK _ ?_
  clear hK K
  (refine anyH_takeS (i := 11) rfl (by kernel_rfl) (fun _ _ _ _ h => h) (Below.refl _ _).drew (fun K hK => ?_); go_simp; refine ⟨_, fun _ _ => rfl, hK _ ?_⟩; clear hK K)
  clear c0 c1 c2 lq
  refine anyH_two (A := [6, 12, 13]) (B := [14]) (g := 1) (by kernel_rfl) (by kernel_rfl) [35, 41, 42, 9] (fun i j b w' => RA W3.heap.size M G N i b w' ∧ RB W3.heap.size j b w') ?_ ?_ (Below.refl _ _).drew ⟨⟨fun h => absurd h (by omega), fun h => absurd h (by omega)⟩, fun h => absurd h (by omega)⟩ ?_
  · intro i j b w9 hi hj hs9 hw9 hR
    obtain ⟨hA, hB⟩ := hR
    have hsz : b.tmps.size = 85 := hs9.size
    have hi3 : i = 0 ∨ i = 1 ∨ i = 2 := by simp at hi; omega
    rcases hi3 with rfl | rfl | rfl
    · have hba : Below w9.heap.size w9 (w9.alloc (.cells #[.int .i64 0] 3)) := Below.alloc (Below.refl _ _) (Nat.le_refl _) _
      refine wpOp_go (i := 6) rfl rfl (fun K hK => ?_)
      have HSZ := Lib.hid hsz
      clear hsz
      go_simp
      have hsz := HSZ.out
      refine hK (b.put (some 35) (.slice (some ⟨w9.heap.size, 0, none⟩) 1 1)) _ ⟨hs9.put (by decide) _, hw9.trans (hba.mono hw9.size), ⟨fun _ => ⟨w9.heap.size, put_at' (by rw [hsz]; decide), by simp⟩, fun h => absurd h (by omega)⟩, hB.step hba (by decide)⟩
    · obtain ⟨s, e35, hcs⟩ := hA.1 rfl
      have h40 : b.tmps.getD 40 undef = .int .i64 (M : Int) := hs9.get (k := 40) (by decide)
      rw [Array.getD_eq_getD_getElem?] at h40 e35
      refine wpOp_go (i := 12) rfl rfl (fun K hK => ?_)
      have HSZ := Lib.hid hsz; have HS9 := Lib.hid hs9; have HB := Lib.hid hB; have HW9 := Lib.hid hw9; have HK := Lib.hid hK
      clear hsz hs9 hB hA hw9 hK
      go_simp
      refine (HREP.out s w9 hcs).mono ?_
      rintro r w' ⟨rfl, hrow, hb⟩
      refine HK.out (b.put (some 41) (.slice (some ⟨w9.heap.size, 0, none⟩) M M)) w' ⟨HS9.out.put (by decide) _, HW9.out.trans (hb.mono HW9.out.size), ⟨fun h => absurd h (by omega), fun _ => ⟨w9.heap.size, HW9.out.size, put_at' (by rw [HSZ.out]; decide), hrow, fun h => absurd h (by omega)⟩⟩, HB.out.step hb (by decide)⟩
    · obtain ⟨g, hg0, e41, hrow, _⟩ := hA.2 (by omega)
      have h30 : b.tmps.getD 30 undef = .int .i64 (G : Int) := hs9.get (k := 30) (by decide)
      have h32 : b.tmps.getD 32 undef = .int .i64 (N : Int) := hs9.get (k := 32) (by decide)
      have h34 : b.tmps.getD 34 undef = .int .i64 (N : Int) := hs9.get (k := 34) (by decide)
      have E41 := Lib.hid e41
      rw [Array.getD_eq_getD_getElem?] at h30 h32 h34 e41
      refine wpOp_go (i := 13) rfl rfl (fun K hK => ?_)
      have HSZ := Lib.hid hsz; have HS9 := Lib.hid hs9; have HB := Lib.hid hB; have HW9 := Lib.hid hw9; have HK := Lib.hid hK; have HROW := Lib.hid hrow
      clear hsz hs9 hB hA hw9 hK hrow
      go_simp
      refine HK.out (b.put (some 42) (.agg #[.int .i64 (G), .int .i64 (N), .int .i64 (N), .slice (some ⟨g, 0, none⟩) M M])) w9 ⟨HS9.out.put (by decide) _, HW9.out, ⟨fun h => absurd h (by omega), fun _ => ⟨g, hg0, by rw [put_off' (by decide)]; exact E41.out, HROW.out, fun _ => put_at' (by rw [HSZ.out]; decide)⟩⟩, HB.out.step (Below.refl _ _) (by decide)⟩
  · intro i j b w9 hi hj hs9 hw9 hR
    obtain ⟨hA, hB⟩ := hR
    have hsz : b.tmps.size = 85 := hs9.size
    have hj0 : j = 0 := by simp at hj; omega
    subst hj0
    have h1 := chtF_alloc w9 0 0 0 none 0 0
    have hba : Below w9.heap.size w9 (w9.alloc (.cells #[.int .i64 0, .int .i64 0, .int .i64 0, .slice none 0 0] 24)) := Below.alloc (Below.refl _ _) (Nat.le_refl _) _
    refine wpOp_go (i := 14) rfl rfl (fun K hK => ?_)
    have HSZ := Lib.hid hsz; have HS9 := Lib.hid hs9; have HA := Lib.hid hA; have HW9 := Lib.hid hw9; have HK := Lib.hid hK; have H1 := Lib.hid h1
    clear hsz hs9 hB hA hw9 hK h1
    go_simp
    refine HK.out (b.put (some 9) (.pointer (some ⟨w9.heap.size, 0, none⟩))) _ ⟨HS9.out.put (by decide) _, HW9.out.trans (hba.mono HW9.out.size), HA.out.step hba (by decide) (by decide) (by decide), fun _ => ⟨w9.heap.size, HW9.out.size, put_at' (by rw [HSZ.out]; decide), H1.out⟩⟩
  intro b w9 hs9 hw9 hR
  obtain ⟨hA, hB⟩ := hR
  obtain ⟨gb, hgb, e41, hgr, e42⟩ := hA.2 (show 2 ≤ 3 by omega)
  obtain ⟨ob, hob, e9, hor⟩ := hB rfl
  have e42' := e42 rfl
  have hf := hs9.form
  simp only [List.foldl_cons, List.foldl_nil] at hf
  rw [e41, e42', e9] at hf
  generalize b.tmps.getD 35 undef = v35 at hf
  have hMS := MS.fill (G := G) (N := N) hor hgr hw9 hob hgb
  have o0 : w9.cell? ⟨ob, 0, none⟩ = some (.int .i64 0) := hor.cell (i := 0) (by omega)
  have o1 : w9.cell? ⟨ob, 1, none⟩ = some (.int .i64 0) := hor.cell (i := 1) (by omega)
  have o2 : w9.cell? ⟨ob, 2, none⟩ = some (.int .i64 0) := hor.cell (i := 2) (by omega)
  have o3 : w9.cell? ⟨ob, 3, none⟩ = some (.slice none 0 0) := hor.cell (i := 3) (by omega)
  have s0 := hor.frozen 0
  have s1 := hor.frozen 1
  have s2 := hor.frozen 2
  have s3 := hor.frozen 3
  have lo : LtW ob w9 := hor.lt
  have HMS := Lib.hid hMS
  clear hs9 hw9 hA hB e41 e42 e42' e9 hor hgr hMS
  subst hf
  refine anyH_one (i := 15) (by kernel_rfl) ?_
  refine wpOp_go (i := 15) rfl rfl (fun K hK => ?_)
  go_simp
  refine hK _ _ ⟨HMS.out.bel, ?_⟩
  clear hK K
  refine wpAnyH_done (by kernel_rfl) ?_ _
  clear o0 o1 o2 o3 s0 s1 s2 s3 lo
  generalize ((((w9.setCell ⟨ob, 0, none⟩ (.int .i64 G)).setCell ⟨ob, 1, none⟩ (.int .i64 N)).setCell ⟨ob, 2, none⟩ (.int .i64 N)).setCell ⟨ob, 3, none⟩ (.slice (some ⟨gb, 0, none⟩) M M)) = w4 at *
  have m0 := bCs (HMS.out.bel) HM0.out
  have m1 := bCs (HMS.out.bel) HM1.out
  have m2 := bCs (HMS.out.bel) HM2.out
  have m3 := bCs (HMS.out.bel) HM3.out
  have c0 := bCs (HMS.out.bel) HC0.out
  have c1 := bCs (HMS.out.bel) HC1.out
  have c2 := bCs (HMS.out.bel) HC2.out
  have lm : LtW (w.heap.size + 1) w4 := World.block_lt_of_cell? _ _ m0
  have lq : LtW w2.heap.size w4 := World.block_lt_of_cell? _ _ c0
  go_wp2_with fail
  refine (HIM.out _ _ _).mono ?_
  rintro r w5 ⟨⟨TA, TC, rfl, hT⟩, hb5⟩
  have HMS5 := Lib.hid (HMS.out.grow hb5)
  have HT5 := Lib.hid (own_baseI hT HMS.out.c.lt)
  clear m0 m1 m2 m3 c0 c1 c2 lm lq
  clear hT hb5 HMS HIM HREP
  have m0 := bCs (HMS5.out.bel) HM0.out
  have m1 := bCs (HMS5.out.bel) HM1.out
  have m2 := bCs (HMS5.out.bel) HM2.out
  have m3 := bCs (HMS5.out.bel) HM3.out
  have c0 := bCs (HMS5.out.bel) HC0.out
  have c1 := bCs (HMS5.out.bel) HC1.out
  have c2 := bCs (HMS5.out.bel) HC2.out
  have lm : LtW (w.heap.size + 1) w5 := World.block_lt_of_cell? _ _ m0
  have lq : LtW w2.heap.size w5 := World.block_lt_of_cell? _ _ c0
  go_wp2_with fail
  go_loopw [51] (fun kv wr => ∃ (k : Nat), k ≤ M ∧ kv = .int .i64 k ∧ Hid (MS ob gb W3 G N M (movdL W H cs G N ⟨t, f, (ox, oy)⟩ k) wr) ∧ Hid (OwnI wr (gb + 1) TA M TC (intsN (Z.imageL (G : Int) N t f)))) (fun kv _ => M - (intOf kv).toNat)
  case atStart => exact ⟨0, by omega, rfl, by rw [HZ0.out]; exact HMS5, HT5⟩
  case round =>
    clear m0 m1 m2 m3 c0 c1 c2 lm lq
    clear HMS5 HT5
    obtain ⟨k, hk, rfl, HMS, HT⟩ := hrel
    by_cases hkM : k < M
    · have vk : IntKind.i64.wrap ((k : Int) + 1) = (k : Int) + 1 := IntWalk.i64_in _ (by omega)
      have dk : decide ((k : Int) < (M : Int)) = true := by simpa using hkM
      have HMD := Lib.hid (movdL_succ (W := W) (H := H) (cs := cs) (g := (G : Int)) (n := N) ⟨t, f, (ox, oy)⟩ k)
      have hpt := HPT.out k hkM
      have hlg := HLG.out k hkM
      have hpN := HIB.out k hkM
      obtain ⟨tb, to', rfl, htb, htc⟩ := HT.out.ints.2 (by omega)
      obtain ⟨lb, lo', rfl, hlb, hlc⟩ := HA3.out.2 (by omega)
      have t0 := htc k hkM
      rw [intsN_get] at t0
      have l0 : LtW tb wr := htb
      have a0 := bCs HMS.out.bel (hlc k hkM)
      have l1 : LtW lb wr := World.block_lt_of_cell? _ _ a0
      rw [hlg] at a0
      rw [← hpt] at HMD
      generalize colP W H cs (pnt N k) = X at *
      obtain ⟨p, hp⟩ : ∃ p, (Z.imageL (G : Int) N t f).getD k 0 = p := ⟨_, rfl⟩
      rw [hp] at t0 hpN HMD
      obtain ⟨u, hu⟩ : ∃ u, p % N = u := ⟨_, rfl⟩
      obtain ⟨v, hv⟩ : ∃ v, p / N = v := ⟨_, rfl⟩
      have hu1 : u < N := by rw [← hu]; exact Nat.mod_lt _ h0
      have hv1 : v < N := by rw [← hv]; exact Nat.div_lt_of_lt_mul (by rw [HNN.out]; exact hpN)
      have hpn : Z.add (pnt N p) (ox, oy) = ((u : Int) + ox, (v : Int) + oy) := by unfold pnt Z.add; rw [hu, hv]
      have t1 : (p : Int).tmod (N : Int) = (u : Int) := by rw [← hu]; rfl
      have t2 : (p : Int).tdiv (N : Int) = (v : Int) := by rw [← hv]; rfl
      have v1 : IntKind.i64.wrap (u : Int) = (u : Int) := IntWalk.i64_in _ (by omega)
      have v2 : IntKind.i64.wrap (v : Int) = (v : Int) := IntWalk.i64_in _ (by omega)
      have v3 : IntKind.i64.wrap ((u : Int) + ox) = (u : Int) + ox := IntWalk.i64_in _ (by omega)
      have v4 : IntKind.i64.wrap ((v : Int) + oy) = (v : Int) + oy := IntWalk.i64_in _ (by omega)
      rw [hpn] at HMD
      have HP1 := Lib.hid (fun w => HPL.out (some ⟨lb, lo', none⟩) C ((u : Int) + ox) ((v : Int) + oy) w (by omega) (by omega))
      have hq := HPB.out ((u : Int) + ox, (v : Int) + oy)
      generalize place N ((u : Int) + ox, (v : Int) + oy) = q at *
      generalize movdL W H cs G N ⟨t, f, (ox, oy)⟩ k = L at *
      have m0 := bCs (HMS.out.bel) HM0.out
      have m1 := bCs (HMS.out.bel) HM1.out
      have m2 := bCs (HMS.out.bel) HM2.out
      have m3 := bCs (HMS.out.bel) HM3.out
      have c0 := bCs (HMS.out.bel) HC0.out
      have c1 := bCs (HMS.out.bel) HC1.out
      have c2 := bCs (HMS.out.bel) HC2.out
      have lm : LtW (w.heap.size + 1) wr := World.block_lt_of_cell? _ _ m0
      have lq : LtW w2.heap.size wr := World.block_lt_of_cell? _ _ c0
      have o3 : wr.cell? ⟨ob, 3, none⟩ = some (.slice (some ⟨gb, 0, none⟩) M M) := HMS.out.o.cell (i := 3) (by omega)
      have lo : LtW ob wr := HMS.out.o.lt
      have lg : LtW gb wr := HMS.out.c.lt
      have cq : wr.cell? ⟨gb, q, none⟩ = some (.int .i64 (L.getD q 0)) := HMS.out.c.cell (i := q) hq
      have fq := HMS.out.c.frozen q
      clear hpt hlg htb htc hlb hlc hp hu hv hpn
      go_wp2_with fail
      (refine wp_region_ext_tail 27 (by kernel_rfl) (by kernel_rfl) ?_; simp only [List.take_succ_cons, List.take_zero, List.drop_succ_cons, List.drop_zero]; (repeat (first | ((with_reducible refine ext_step (fun K hK => ?_)); go_simp; first | (refine hK _ ?_; clear hK K) | (apply Exists.intro; refine ⟨fun _ _ => ?_, hK _ ?_⟩; (go_at_call 42; exact extOf (HP1.out _)); clear hK K)))); refine wpQuiet_nil ?_; intro E d)
      have HMS7 := Lib.hid (((HMS.out.put hq X).grow (bExtW (Below.refl _ _) (Nat.le_refl _) (E := E) (d := d))))
      have HT7 := Lib.hid ((OwnI.setLow (i := q) (u := .int .i64 X) HT.out (Nat.lt_succ_self gb)).below (bExtW (Below.refl _ _) (Nat.le_refl _) (E := E) (d := d)))
      go_wp2
      go_roundw
      case rel => exact ⟨k + 1, by omega, by go_num, by rw [HMD.out]; exact HMS7, HT7⟩
      case measure => simp [intOf]; omega
    · obtain rfl : k = M := by omega
      have dk : decide ((k : Int) < (k : Int)) = false := by simp
      have HR2 := rowBelow HRR.out HMS.out.bel HRR.out.lt
      have r0 : wr.cell? ⟨w.heap.size + 1 + 1, 0, none⟩ = some (.int .i64 (0)) := HR2.cell (i := 0) (by omega)
      have r1 : wr.cell? ⟨w.heap.size + 1 + 1, 1, none⟩ = some (.int .i64 (0)) := HR2.cell (i := 1) (by omega)
      have r2 : wr.cell? ⟨w.heap.size + 1 + 1, 2, none⟩ = some (.int .i64 (0)) := HR2.cell (i := 2) (by omega)
      have r3 : wr.cell? ⟨w.heap.size + 1 + 1, 3, none⟩ = some (.slice none 0 0) := HR2.cell (i := 3) (by omega)
      have s0 := HR2.frozen 0
      have s1 := HR2.frozen 1
      have s2 := HR2.frozen 2
      have s3 := HR2.frozen 3
      have lr : LtW (w.heap.size + 1 + 1) wr := HR2.lt
      have o0 : wr.cell? ⟨ob, 0, none⟩ = some (.int .i64 (G : Int)) := HMS.out.o.cell (i := 0) (by omega)
      have o1 : wr.cell? ⟨ob, 1, none⟩ = some (.int .i64 (N : Int)) := HMS.out.o.cell (i := 1) (by omega)
      have o2 : wr.cell? ⟨ob, 2, none⟩ = some (.int .i64 (N : Int)) := HMS.out.o.cell (i := 2) (by omega)
      have o3 : wr.cell? ⟨ob, 3, none⟩ = some (.slice (some ⟨gb, 0, none⟩) k k) := HMS.out.o.cell (i := 3) (by omega)
      have lo : LtW ob wr := HMS.out.o.lt
      have hgr : gb ≠ w.heap.size + 1 + 1 := fun e => by have := HMS.out.lo; have := HRR.out.lt; omega
      have HFIN : Hid (∀ v0 v1 v2 v3, IsInts ((((wr.setCell ⟨w.heap.size + 1 + 1, 0, none⟩ v0).setCell ⟨w.heap.size + 1 + 1, 1, none⟩ v1).setCell ⟨w.heap.size + 1 + 1, 2, none⟩ v2).setCell ⟨w.heap.size + 1 + 1, 3, none⟩ v3) (some ⟨gb, 0, none⟩) k (movdL W H cs G N ⟨t, f, (ox, oy)⟩ k) ∧ Below w.heap.size w ((((wr.setCell ⟨w.heap.size + 1 + 1, 0, none⟩ v0).setCell ⟨w.heap.size + 1 + 1, 1, none⟩ v1).setCell ⟨w.heap.size + 1 + 1, 2, none⟩ v2).setCell ⟨w.heap.size + 1 + 1, 3, none⟩ v3)) := Lib.hid fun v0 v1 v2 v3 => by
        have hc := (((HMS.out.c.setOther (a := ⟨w.heap.size + 1 + 1, 0, none⟩) hgr v0).setOther (a := ⟨w.heap.size + 1 + 1, 1, none⟩) hgr v1).setOther (a := ⟨w.heap.size + 1 + 1, 2, none⟩) hgr v2).setOther (a := ⟨w.heap.size + 1 + 1, 3, none⟩) hgr v3
        refine ⟨⟨HMS.out.ll, fun _ => ⟨gb, 0, rfl, hc.lt, fun j hj => by rw [Nat.zero_add]; exact hc.cell hj⟩⟩, ?_⟩
        have h6 := HBW.out.trans (HMS.out.bel.mono HBW.out.size)
        exact (((h6.setCell (p := ⟨w.heap.size + 1 + 1, 0, none⟩) (by simp only; omega) v0).setCell (p := ⟨w.heap.size + 1 + 1, 1, none⟩) (by simp only; omega) v1).setCell (p := ⟨w.heap.size + 1 + 1, 2, none⟩) (by simp only; omega) v2).setCell (p := ⟨w.heap.size + 1 + 1, 3, none⟩) (by simp only; omega) v3
      clear HMS HR2 HT HZ0 HPL HPT HIB HPB HLG HA3 HRR
      go_wp2
      refine bodyPost_ret (v := .tuple #[.agg #[.int .i64 (G), .int .i64 (N), .int .i64 (N), .slice (some ⟨gb, 0, none⟩) k k], .int .i64 (0)]) (by simp [results, Try.results18, go_sem, r0, r1, r2, r3, lr]) rfl ⟨⟨_, _, rfl, (HFIN.out _ _ _ _).1⟩, (HFIN.out _ _ _ _).2⟩
end Go.Proofs.Ytooilennejakhaa

namespace Go.Proofs.Ytooilennejakhaa
open Go.RowKit
set_option linter.unusedVariables false
set_option linter.unusedSimpArgs false
open Z (torN place pnt Mv To lin okT nrm keepB colP idm md redM both inv)
theorem has_keep {G W H n N : Nat} {cs : List Int} {m : Mv} (h : ChOk G W H n cs) (hN : torN W H = N) (h24 : N ≤ 24) (h0 : 0 < N) (hm : m.t < G) : hasB (Z.movesL W H cs G N) (redM N m) = keepB W H cs G N m := by
  have hd := Z.torN_dvd W H
  rw [hN] at hd
  obtain ⟨grp, per, _, _⟩ := moves_facts h hN h24 h0
  rw [Bool.eq_iff_iff, Z.keepB_iff h0 hd.1 hd.2]
  unfold hasB
  rw [decide_eq_true_iff]
  constructor
  · intro hmem
    exact (Z.keep_red per m).1 (grp.keep hmem)
  · intro hk
    exact grp.red (by omega) per (show okT (G : Int) m by unfold okT; omega) hk
theorem keepB_all {W H N : Nat} {cs : List Int} {g : Int} {m : Mv} {b : Bool} (h : b = true ↔ ∀ j, j < N * N → colP W H cs (pnt N j) = colP W H cs (To g m (pnt N j))) : b = keepB W H cs g N m := by
  rw [Bool.eq_iff_iff, h]
  unfold keepB
  rw [List.all_eq_true]
  exact ⟨fun h k hk => decide_eq_true (h k (List.mem_range.1 hk)), fun h k hk => of_decide_eq_true (h k (List.mem_range.2 hk))⟩
end Go.Proofs.Ytooilennejakhaa

namespace Go.Proofs.Ytooilennejakhaa
open Go.RowKit
set_option linter.unusedVariables false
set_option linter.unusedSimpArgs false
open Z (torN place pnt Mv To lin okT nrm keepB colP idm md redM movdL both inv)
def mvG (t : Int) (f : Bool) (x y : Int) : Nat → Value := fun j => if j = 0 then .int .i64 t else if j = 1 then .bool f else if j = 2 then .int .i64 x else .int .i64 y
theorem mvG_alloc (w : World) (t : Int) (f : Bool) (x y : Int) : (w.alloc (.cells #[.int .i64 (t), .bool f, .int .i64 x, .int .i64 y] 39)).rowIs w.heap.size 39 4 (mvG t f x y) := by
  refine World.rowIs_alloc w #[.int .i64 t, .bool f, .int .i64 x, .int .i64 y] 39 _ ?_
  intro i hi
  have hi3 : i = 0 ∨ i = 1 ∨ i = 2 ∨ i = 3 := by simp at hi; omega
  rcases hi3 with rfl | rfl | rfl | rfl <;> rfl
end Go.Proofs.Ytooilennejakhaa

namespace Go.Proofs.Ytooilennejakhaa
open Go.RowKit
set_option linter.unusedVariables false
set_option linter.unusedSimpArgs false
open Z (torN place pnt Mv To lin okT nrm keepB colP idm md redM movdL both inv movd)
/-- The chart that is made is a right one. -/
theorem ChOk.moved {G W H n N M : Nat} {cs : List Int} (h : ChOk G W H n cs) (h24 : N ≤ 24) (h0 : 0 < N) (hM : N * N = M) (m : Mv) : ChOk G N N M (movdL W H cs G N m M) :=
  ⟨h.g, h0, by omega, h0, by omega, hM.symm, Z.movdL_mem (P := fun x => 0 ≤ x ∧ x < 62) (by omega) h.cr M⟩
theorem moved_col {G W H n N M : Nat} {cs : List Int} (h : ChOk G W H n cs) (hN : torN W H = N) (h0 : 0 < N) (hM : N * N = M) {m : Mv} (hm : okT (G : Int) m) : colP N N (movdL W H cs G N m M) = movd G m (colP W H cs) := by
  have hd := Z.torN_dvd W H
  rw [hN] at hd
  rw [← hM]
  exact Z.movd_col (by have := h.g; show (G : Int) = 4 ∨ (G : Int) = 6; omega) h0 hd.1 hd.2 hm
theorem moved_back {G W H n N M : Nat} {cs : List Int} (h : ChOk G W H n cs) (hN : torN W H = N) (h24 : N ≤ 24) (h0 : 0 < N) (hM : N * N = M) {m : Mv} (hm : okT (G : Int) m) : colP N N (movdL N N (movdL W H cs G N m M) G N (inv G m) M) = colP W H cs := by
  have hg : Z.G (G : Int) := by have := h.g; show (G : Int) = 4 ∨ (G : Int) = 6; omega
  rw [moved_col (h.moved h24 h0 hM m) (Z.torN_self h0) h0 hM (Z.inv_ok hg hm), moved_col h hN h0 hM hm]
  funext z
  exact Z.movd_back hg hm z
/-- As many moves. -/
theorem moved_len {G W H n N M : Nat} {cs : List Int} (h : ChOk G W H n cs) (hN : torN W H = N) (h24 : N ≤ 24) (h0 : 0 < N) (hM : N * N = M) {m : Mv} (hm : okT (G : Int) m) : (Z.movesL N N (movdL W H cs G N m M) G N).length = (Z.movesL W H cs G N).length := by
  have hg : Z.G (G : Int) := by have := h.g; show (G : Int) = 4 ∨ (G : Int) = 6; omega
  obtain ⟨g1, p1, _, _⟩ := moves_facts h hN h24 h0
  obtain ⟨g2, _, _, _⟩ := moves_facts (h.moved h24 h0 hM m) (Z.torN_self h0) h24 h0
  rw [moved_col h hN h0 hM hm] at g2
  exact (Z.moved_length hg h0 p1 hm g1 g2).symm
/-- And those. -/
theorem moved_keep {G W H n N M : Nat} {cs : List Int} (h : ChOk G W H n cs) (hN : torN W H = N) (h24 : N ≤ 24) (h0 : 0 < N) (hM : N * N = M) {m k : Mv} (hm : okT (G : Int) m) (hk : k ∈ Z.movesL W H cs G N) : keepB N N (movdL W H cs G N m M) G N (both G (both G m k) (inv G m)) = true := by
  have hg : Z.G (G : Int) := by have := h.g; show (G : Int) = 4 ∨ (G : Int) = 6; omega
  obtain ⟨g1, _, _, _⟩ := moves_facts h hN h24 h0
  refine (Z.keepB_iff h0 (Nat.dvd_refl N) (Nat.dvd_refl N)).2 ?_
  rw [moved_col h hN h0 hM hm]
  exact Z.keep_conj hg hm (g1.ok hk) (g1.keep hk)
end Go.Proofs.Ytooilennejakhaa

namespace Go.Proofs.Ytooilennejakhaa
open Go.RowKit
set_option linter.unusedVariables false
set_option linter.unusedSimpArgs false
open Z (torN place pnt Mv To lin okT nrm keepB colP idm md redM both inv stK Sid Upw movesL turnsF waysF kindP alongB movd movdL SameSig)
/-- The chart is of this kind. -/
def KindIs (G W H : Nat) (cs : List Int) (K : Int) : Prop :=
  ∃ N sa uc ub, torN W H = N ∧ N ≤ 24 ∧ 0 < N ∧ Sid (stK W H cs G N) N sa ∧ Upw (stK W H cs G N) N sa uc ub ∧ kindP (turnsF (movesL W H cs G N)).length (alongB G sa ub uc (waysF G sa ub uc (movesL W H cs G N))) (waysF G sa ub uc (movesL W H cs G N)) = K
theorem Kind_is {G W H n : Nat} {a : Option Addr} {c : Nat} {cs : List Int} {K : Int} {w : World} (hI : IsInts w a n cs) (h : ChOk G W H n cs) (hK : KindIs G W H cs K) :
    Calls Try.prog 8 #[.agg #[.int .i64 (G), .int .i64 (W), .int .i64 (H), .slice a n c]] w fun r w' => r = .returned (.tuple #[.int .i64 (K), .int .i64 (0)]) ∧ Below w.heap.size w w' := by
  obtain ⟨N, sa, uc, ub, hN, h24, h0, hS, hU, rfl⟩ := hK
  exact Kind_ok G W H n N sa uc ub a c cs w hI h hN h24 h0 hS hU
theorem KindIs.ex {G W H n : Nat} {cs : List Int} (h : ChOk G W H n cs) (h24 : torN W H ≤ 24) : ∃ K, KindIs G W H cs K := by
  have hd := Z.torN_dvd W H
  obtain ⟨sa, uc, ub, hS, hU⟩ := Z.fine_ex (cs := cs) (g := (G : Int)) h.tpos hd.1 hd.2
  exact ⟨_, _, sa, uc, ub, rfl, h24, h.tpos, hS, hU, rfl⟩
/-- Charts alike in all that matters are of the same kind. -/
theorem KindIs.same {G W H n W' H' n' : Nat} {cs cs' : List Int} {K : Int} (hK : KindIs G W H cs K) (h : ChOk G W H n cs) (h' : ChOk G W' H' n' cs') (h24' : torN W' H' ≤ 24) (hs : SameSig G (colP W H cs) (colP W' H' cs')) : KindIs G W' H' cs' K := by
  obtain ⟨N, sa, uc, ub, hN, h24, h0, hS, hU, rfl⟩ := hK
  have hg : Z.G (G : Int) := by have := h.g; show (G : Int) = 4 ∨ (G : Int) = 6; omega
  have hd := Z.torN_dvd W H
  have hd' := Z.torN_dvd W' H'
  have h0' := h'.tpos
  rw [hN] at hd
  obtain ⟨sa', uc', ub', hS', hU'⟩ := Z.fine_ex (cs := cs') (g := (G : Int)) h0' hd'.1 hd'.2
  refine ⟨_, sa', uc', ub', rfl, h24', h0', hS', hU', ?_⟩
  have a1 := hS.an
  have a2 := hS'.an
  exact (Z.kind_same (Z.movesL_grp h0 hd.1 hd.2) (Z.movesL_grp h0' hd'.1 hd'.2) hg h0 h0' (Z.colP_per cs hd.1 hd.2) (Z.colP_per cs' hd'.1 hd'.2) (Z.fine_of h0 hd.1 hd.2 hS hU) (Z.fine_of h0' hd'.1 hd'.2 hS' hU') (by omega) (by omega) hs).symm
theorem KindIs.bd {G W H n : Nat} {cs : List Int} {K : Int} (hK : KindIs G W H cs K) (h : ChOk G W H n cs) : 1 ≤ K ∧ K ≤ 17 := by
  obtain ⟨N, sa, uc, ub, hN, h24, h0, hS, hU, rfl⟩ := hK
  have hg : Z.G (G : Int) := by have := h.g; show (G : Int) = 4 ∨ (G : Int) = 6; omega
  have hd := Z.torN_dvd W H
  rw [hN] at hd
  have := Z.counts_ok hg h0 hd.1 hd.2 (Z.fine_of h0 hd.1 hd.2 hS hU) (alongB G sa ub uc (waysF G sa ub uc (movesL W H cs G N))) rfl
  exact ⟨this.1, this.2.1⟩
theorem torBad_much {G W H n : Nat} {cs : List Int} {a : Option Addr} {c : Nat} (h : ChOk G W H n cs) (hm : 24 < torN W H) : TorBad 4 (.agg #[.int .i64 (G), .int .i64 (W), .int .i64 (H), .slice a n c]) a n cs := by
  have hv : torV (torN W H) = .tuple #[.int .i64 (0), .int .i64 (4)] := by unfold torV; rw [if_pos hm]
  exact ⟨by omega, fun w hI => by rw [← hv]; exact Torus_ok G W H n a c cs w hI h, fun w hI => by rw [← hv]; exact rTorus_ok G W H n a c cs w hI h⟩
/-- Either it is of a kind, or there is too much of it. -/
theorem Kind_or {G W H n : Nat} {a : Option Addr} {c : Nat} {cs : List Int} (h : ChOk G W H n cs) {K : Int} (hK : torN W H ≤ 24 → KindIs G W H cs K) :
    ∃ k e : Int, (e = 4 ∨ e = 0 ∧ k = K) ∧ ∀ w, IsInts w a n cs → Calls Try.prog 8 #[.agg #[.int .i64 (G), .int .i64 (W), .int .i64 (H), .slice a n c]] w fun r w' => r = .returned (.tuple #[.int .i64 (k), .int .i64 (e)]) ∧ Below w.heap.size w w' := by
  by_cases hm : 24 < torN W H
  · exact ⟨0, 4, .inl rfl, fun w hI => Kind_bad G W H a n c cs w hI 4 (torBad_much h hm)⟩
  · exact ⟨K, 0, .inr ⟨rfl, rfl⟩, fun w hI => Kind_is hI h (hK (by omega))⟩
end Go.Proofs.Ytooilennejakhaa
