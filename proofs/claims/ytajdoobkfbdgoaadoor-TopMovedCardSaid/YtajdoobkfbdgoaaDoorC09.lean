/- Lemmas on which the law of this seat rests; each states its own conditions. -/
import Derived.Test.YtajdoobkfbdgoaaDoorC08
import Derived.Test.YtajdoobkfbdgoaaDoorC07
import Derived.Test.YtajdoobkfbdgoaaDoorC03
set_option linter.unusedVariables false
set_option linter.unusedSimpArgs false
namespace Go.Proofs.YtajdoobkfbdgoaaDoor
section
open Go.RowKit
open Z (torN place pnt Mv To lin okT nrm keepB colP)
theorem own_setOther {w : World} {base e n : Nat} {v u : Value} {xs : List Value} {a : Addr} (h : w.ownsRow base e 1 v n xs) (hne : v.ownBlock ≠ some a.block) : (w.setCell a u).ownsRow base e 1 v n xs := by
 refine ⟨h.1, ?_⟩
 rcases h.2 with h2 | ⟨g, cap, cur, e1, hb, hc, h3⟩
 ·exact .inl h2
 ·refine .inr ⟨g, cap, cur, e1, hb, ?_, h3⟩
  rw [Below.heap_setCell _ _ _ g (fun e2 => hne (by rw [e1]; simp [Value.ownBlock, e2]))]
  exact hc
structure FM (mb T nc : Nat) (f : Value → Nat → Value) (e : Nat) (L : List Value) (W1 : World) (v : Value) (w : World) : Prop where
 row : w.rowIs mb T nc (f v)
 own : w.ownsRow W1.heap.size e 1 v L.length L
 ne : v.ownBlock ≠ some mb
 bel : Below W1.heap.size W1 w
 mb1 : W1.heap.size ≤ mb
theorem FM.below {mb T nc e : Nat} {f : Value → Nat → Value} {L : List Value} {W1 w w' : World} {v : Value} (h : FM mb T nc f e L W1 v w) (hb : Below w.heap.size w w') : FM mb T nc f e L W1 v w' :=
 ⟨rowBelow h.row hb h.row.lt, ownBelow h.own hb, h.ne, h.bel.trans (hb.mono h.bel.size), h.mb1⟩
theorem FM.app {mb T nc k e : Nat} {f : Value → Nat → Value} {L : List Value} {W1 w WE w2 : World} {v v' u : Value} (h : FM mb T nc f e L W1 v w) (hE : Below w.heap.size w WE)
  (hown : w2.ownsRow W1.heap.size e 1 v' (L.length + 1) (L ++ [u])) (hg : WE.grownBy w2 v.ownBlock) (hat : v'.ownBlock = v.ownBlock ∨ v'.ownBlock = some WE.heap.size) (hf : ∀ i, i < nc → (if i = k then v' else f v i) = f v' i) :
  FM mb T nc f e (L ++ [u]) W1 v' (w2.setCell ⟨mb, k, none⟩ v') := by
 have hlt : mb < w.heap.size := h.row.lt
 have hE2 := hE.size
 have hne : v'.ownBlock ≠ some mb := by
  rcases hat with e1 | e1
  ·rw [e1]; exact h.ne
  ·rw [e1]; intro e2; injection e2 with e2; omega
 refine ⟨?_, ?_, hne, ?_, h.mb1⟩
 ·exact (((rowBelow h.row hE hlt).of_block (hg.block mb (by omega) (fun e => h.ne e.symm))).set k _).congr fun i hi => hf i hi
 ·rw [List.length_append]
  exact own_setOther hown hne
 ·refine Below.setCell ((h.bel.trans (hE.mono h.bel.size)).grown hg (Nat.le_trans h.bel.size hE2) (fun k hk => (h.own.lt k hk).1)) h.mb1 _
def clF (g n : Int) (v : Value) : Nat → Value := fun j => if j = 0 then .int .i64 g else if j = 1 then .int .i64 n else v
theorem clF_alloc (w : World) (g n : Int) (a : Option Addr) (k c : Nat) : (w.alloc (.cells #[.int .i64 g, .int .i64 n, .slice a k c] 93)).rowIs w.heap.size 93 3 (clF g n (.slice a k c)) := by
 refine World.rowIs_alloc w #[.int .i64 g, .int .i64 n, .slice a k c] 93 _ ?_
 intro i hi
 have hi3 : i = 0 ∨ i = 1 ∨ i = 2 := by simp at hi; omega
 rcases hi3 with rfl | rfl | rfl <;> rfl
set_option maxRecDepth 100000 in
set_option maxHeartbeats 8000000 in
theorem laid_bad (G W H : Int) (a : Option Addr) (n c : Nat) (cs : List Int) (w : World) (hI : IsInts w a n cs) (e : Int) (he : e ≠ 0) (HT : ∀ w, IsInts w a n cs → Calls Tryd.prog 60 #[.agg #[.int .i64 (G), .int .i64 (W), .int .i64 (H), .slice a n c]] w fun r w' => r = .returned (.tuple #[.int .i64 (0), .int .i64 (e)]) ∧ Below w.heap.size w w') :
  Calls Tryd.prog 35 #[.agg #[.int .i64 (G), .int .i64 (W), .int .i64 (H), .slice a n c]] w fun r w' => r = .returned (.tuple #[.agg #[.int .i64 (0), .int .i64 (0), .slice none 0 0], .int .i64 (e)]) ∧ Below w.heap.size w w' := by
 have hb : (e != 0) = true := by simpa using he
 have HT := Lib.hid HT
 have HI := Lib.hid hI
 clear he hI
 go_enter Tryd.func35, Tryd.ntmps35
 (go_wp2_with fail; refine (HT.out _ (HI.out.below blw)).mono ?_; rintro r w1 ⟨rfl, hb⟩; obtain ⟨E, d, rfl⟩ := bExt hb; clear hb)
 go_wp2
 refine bodyPost_ret (v := .tuple #[.agg #[.int .i64 (0), .int .i64 (0), .slice none 0 0], .int .i64 (e)]) (by simp [results, Tryd.results35, go_sem]) rfl ⟨rfl, blw⟩
theorem colP_at {W H n x y : Nat} {cs : List Int} (hx : x < n) : colP W H cs (pnt n (y * n + x)) = cs.getD (y % H * W + x % W) 0 := by
 rw [pnt_at hx]
 unfold colP
 simp only
 rw [← Int.natCast_emod, ← Int.natCast_emod, Int.toNat_natCast, Int.toNat_natCast]
def laP (W H : Nat) (cs : List Int) (n m : Nat) : List Value := (List.range m).map fun j => Value.int .i64 (colP W H cs (pnt n j))
theorem laP_succ (W H : Nat) (cs : List Int) (n m : Nat) : laP W H cs n (m + 1) = laP W H cs n m ++ [.int .i64 (colP W H cs (pnt n m))] := by
 unfold laP; rw [List.range_succ, List.map_append]; rfl
theorem laP_len (W H : Nat) (cs : List Int) (n m : Nat) : (laP W H cs n m).length = m := by simp [laP]
theorem laP_all (W H : Nat) (cs : List Int) (n : Nat) : laP W H cs n (n * n) = (Z.laidL W H cs n).map i64v := by
 unfold laP Z.laidL i64v
 rw [List.map_map]; rfl
theorem FM.mid {mb T nc e : Nat} {f : Value → Nat → Value} {L : List Value} {W1 w w2 : World} {v : Value} (h : FM mb T nc f e L W1 v w) (hg : w.grownBy w2 v.ownBlock) : w2.rowIs mb T nc (f v) :=
 h.row.of_block (hg.block mb h.row.lt (fun e => h.ne e.symm))
theorem lay1 (W1 : World) (g n : Int) (M : Nat) (hM : M ≤ 1000000000) : FM W1.heap.size 93 3 (clF g n) 3 [] W1 (.slice (some ⟨W1.heap.size + 1, 0, none⟩) 0 M) ((W1.alloc (.cells #[.int .i64 g, .int .i64 n, .slice (some ⟨W1.heap.size + 1, 0, none⟩) 0 M] 93)).alloc (.cells (madeCells #[.int .i64 0] M) 3)) := by
 have h1 := clF_alloc W1 g n (some ⟨W1.heap.size + 1, 0, none⟩) 0 M
 have h2 := (GL.made (W1.alloc (.cells #[.int .i64 g, .int .i64 n, .slice (some ⟨W1.heap.size + 1, 0, none⟩) 0 M] 93)) 3 M (.int .i64 0) hM).own
 rw [World.size_alloc] at h2
 exact ⟨rowBelow h1 ((Below.refl _ _).alloc (Nat.le_refl _) _) (by rw [World.size_alloc]; omega), own_baseV h2 (by omega), by simp [Value.ownBlock], (((Below.refl _ _).alloc (Nat.le_refl _) _).alloc (by rw [World.size_alloc]; omega) _), Nat.le_refl _⟩
theorem lay2 (W1 : World) (g n : Int) (M : Nat) (hM : M ≤ 1000000000) : FM (W1.heap.size + 1) 93 3 (clF g n) 3 [] W1 (.slice (some ⟨W1.heap.size, 0, none⟩) 0 M) ((W1.alloc (.cells (madeCells #[.int .i64 0] M) 3)).alloc (.cells #[.int .i64 g, .int .i64 n, .slice (some ⟨W1.heap.size, 0, none⟩) 0 M] 93)) := by
 have h1 := clF_alloc (W1.alloc (.cells (madeCells #[.int .i64 0] M) 3)) g n (some ⟨W1.heap.size, 0, none⟩) 0 M
 have h2 := (GL.made W1 3 M (.int .i64 0) hM).own
 rw [World.size_alloc] at h1
 exact ⟨h1, ownBelow h2 ((Below.refl _ _).alloc (Nat.le_refl _) _), by simp [Value.ownBlock], (((Below.refl _ _).alloc (Nat.le_refl _) _).alloc (by rw [World.size_alloc]; omega) _), by omega⟩
set_option maxRecDepth 100000 in
theorem lfGs50 {P : Prop} (h : P := by
 have HF0 := Lib.hid (hFM)
 have HB1 : Hid (Below w.heap.size w W1) := Lib.hid (by rw [hW1]; exact blw)
 have HRR : Hid (W1.rowIs (w.heap.size + 1) 93 3 (clF 0 0 (.slice none 0 0))) := Lib.hid (by
  have h1 := clF_alloc (w.alloc (.cells #[.int .i64 (G : Int), .int .i64 (W : Int), .int .i64 (H : Int), .slice a n c] 25)) 0 0 none 0 0
  rw [World.size_alloc] at h1
  rw [hW1]
  exact rowBelow h1 (bExtW (Below.refl _ _) (Nat.le_refl _)) h1.lt)
 have hs0 : w.heap.size < W1.heap.size := by omega
 have cb0 : W1.cell? ⟨w.heap.size, 0, none⟩ = some (.int .i64 (G)) := by rw [hW1]; simp [go_sem]
 have cb1 : W1.cell? ⟨w.heap.size, 1, none⟩ = some (.int .i64 (W)) := by rw [hW1]; simp [go_sem]
 have cb2 : W1.cell? ⟨w.heap.size, 2, none⟩ = some (.int .i64 (H)) := by rw [hW1]; simp [go_sem]
 have cb3 : W1.cell? ⟨w.heap.size, 3, none⟩ = some (.slice a n c) := by rw [hW1]; simp [go_sem]
 rw [← hmb]
 have HSZ : Hid (w.heap.size + 1 < W1.heap.size) := Lib.hid (by omega)
 have HW1 := Lib.hid hW1
 have HMB := Lib.hid hmb
 clear hmk hNi vM hsz hmb hW1 HT
 go_loopw [27] (fun yv wr => ∃ (y : Nat) (v : Value), y ≤ N ∧ yv = .int .i64 y ∧ Hid (FM mb 93 3 (clF G N) 3 (laP W H cs N (y * N)) W1 v wr)) (fun yv _ => N - (intOf yv).toNat)
 case atStart => exact ⟨0, _, by omega, rfl, Lib.hid (by rw [Nat.zero_mul, HW1.out, HMB.out]; exact HF0.out)⟩
 case round =>
  clear HF0
  obtain ⟨y, v, hy, rfl, HF⟩ := hrel
  have k0 := bCs (HF.out).bel cb0
  have k1 := bCs (HF.out).bel cb1
  have k2 := bCs (HF.out).bel cb2
  have k3 := bCs (HF.out).bel cb3
  have lk : LtW w.heap.size wr := Nat.lt_of_lt_of_le hs0 (HF.out).bel.size
  have hsw : W1.heap.size ≤ (wr).heap.size := (HF.out).bel.size
  have m0 : (wr).cell? ⟨mb, 0, none⟩ = some (.int .i64 (G)) := (HF.out).row.cell (i := 0) (by omega)
  have m1 : (wr).cell? ⟨mb, 1, none⟩ = some (.int .i64 (N)) := (HF.out).row.cell (i := 1) (by omega)
  have lmb : LtW mb wr := (HF.out).row.lt
  by_cases hyn : y < N
  ·have vy : IntKind.i64.wrap ((y : Int) + 1) = (y : Int) + 1 := IntWalk.i64_in _ (by omega)
   have dy : decide ((y : Int) < (N : Int)) = true := by simpa using hyn
   go_wp2_with fail
   obtain ⟨wo, rfl⟩ : ∃ wo : World, wo = wr := ⟨_, rfl⟩
   go_loopw [31] (fun xv wr => ∃ (x : Nat) (v : Value), x ≤ N ∧ xv = .int .i64 x ∧ Hid (FM mb 93 3 (clF G N) 3 (laP W H cs N (y * N + x)) W1 v wr)) (fun xv _ => N - (intOf xv).toNat)
   case atStart => exact ⟨0, v, by omega, rfl, HF⟩
   case round =>
    clear k0 k1 k2 k3 lk hsw HF m0 m1 lmb
    obtain ⟨x, v, hx, rfl, HF⟩ := hrel
    have k0 := bCs (HF.out).bel cb0
    have k1 := bCs (HF.out).bel cb1
    have k2 := bCs (HF.out).bel cb2
    have k3 := bCs (HF.out).bel cb3
    have lk : LtW w.heap.size wr := Nat.lt_of_lt_of_le hs0 (HF.out).bel.size
    have hsw : W1.heap.size ≤ (wr).heap.size := (HF.out).bel.size
    have m0 : (wr).cell? ⟨mb, 0, none⟩ = some (.int .i64 (G)) := (HF.out).row.cell (i := 0) (by omega)
    have m1 : (wr).cell? ⟨mb, 1, none⟩ = some (.int .i64 (N)) := (HF.out).row.cell (i := 1) (by omega)
    have lmb : LtW mb wr := (HF.out).row.lt
    by_cases hxn : x < N
    ·have vx : IntKind.i64.wrap ((x : Int) + 1) = (x : Int) + 1 := IntWalk.i64_in _ (by omega)
     have dx : decide ((x : Int) < (N : Int)) = true := by simpa using hxn
     have HS := Lib.hid (laP_succ W H cs N (y * N + x))
     have hco := colP_at (W := W) (H := H) (cs := cs) (y := y) hxn
     rw [hco] at HS
     have hlen : (laP W H cs N (y * N + x)).length ≤ 1000 := by rw [laP_len]; have := Nat.mul_le_mul (show y ≤ 24 by omega) h24; omega
     obtain ⟨L, hL⟩ : ∃ L, laP W H cs N (y * N + x) = L := ⟨_, rfl⟩
     rw [hL] at HF HS hlen
     obtain ⟨Av, cv, rfl⟩ := own_form HF.out.own
     have m2 : wr.cell? ⟨mb, 2, none⟩ = some (.slice Av L.length cv) := HF.out.row.cell (i := 2) (by omega)
     obtain ⟨r1, hr1⟩ : ∃ r, y % H = r := ⟨_, rfl⟩
     obtain ⟨r2, hr2⟩ : ∃ r, x % W = r := ⟨_, rfl⟩
     obtain ⟨Q, hQ⟩ : ∃ Q, r1 * W = Q := ⟨_, rfl⟩
     obtain ⟨p, hp⟩ : ∃ p, Q + r2 = p := ⟨_, rfl⟩
     have h1H : r1 < H := by rw [← hr1]; exact Nat.mod_lt _ hH1
     have h2W : r2 < W := by rw [← hr2]; exact Nat.mod_lt _ hW1
     have hpn : p < n := by
      have h1 : (r1 + 1) * W ≤ H * W := Nat.mul_le_mul_right W (by omega)
      have h2 : (r1 + 1) * W = r1 * W + W := Nat.succ_mul r1 W
      have h3 := HNN.out
      rw [h3, Nat.mul_comm W H]; omega
     have hn4 : n ≤ 4096 := by have h3 := HNN.out; rw [h3]; exact Nat.mul_le_mul hW hH
     have t1 : (y : Int).tmod (H : Int) = (r1 : Int) := by rw [← hr1]; rfl
     have t2 : (x : Int).tmod (W : Int) = (r2 : Int) := by rw [← hr2]; rfl
     have t3 : (r1 : Int) * (W : Int) = (Q : Int) := by rw [← hQ]; push_cast; rfl
     have t4 : (Q : Int) + (r2 : Int) = (p : Int) := by rw [← hp]; push_cast; rfl
     have u1 : IntKind.i64.wrap (r1 : Int) = (r1 : Int) := IntWalk.i64_in _ (by omega)
     have u2 : IntKind.i64.wrap (r2 : Int) = (r2 : Int) := IntWalk.i64_in _ (by omega)
     have u3 : IntKind.i64.wrap (Q : Int) = (Q : Int) := IntWalk.i64_in _ (by omega)
     have u4 : IntKind.i64.wrap (p : Int) = (p : Int) := IntWalk.i64_in _ (by omega)
     have b1 : ((W : Int) == 0) = false := by simp; omega
     have b2 : (W : Int) ≠ 0 := by omega
     have b3 : ¬ W = 0 := by omega
     have b4 : ((H : Int) == 0) = false := by simp; omega
     have b5 : (H : Int) ≠ 0 := by omega
     have b6 : ¬ H = 0 := by omega
     rw [hr1, hr2, hQ, hp] at HS
     have HIw := HI.out.below (HB1.out.trans (HF.out.bel.mono (Nat.le_of_lt hs0)))
     obtain ⟨bb, bo, rfl, hb, hc⟩ := HIw.2 (by omega)
     have c0 := hc p hpn
     have lb : LtW bb wr := hb
     obtain ⟨X, hX⟩ : ∃ X, cs.getD p 0 = X := ⟨_, rfl⟩
     rw [hX] at c0 HS
     clear hX hb hc HIw hr1 hr2 hQ hp hL hco HALL HLEN
     go_wp2_with fail
     (refine wp_region_ext_build 18 _ mkOne (.cells #[.int .i64 X] 3) (by kernel_rfl) (by kernel_rfl) rfl rfl ?_; simp only [List.take_succ_cons, List.take_zero, List.drop_succ_cons, List.drop_zero]; (repeat (first | ((with_reducible refine wpV_step (fun K hK => ?_)); go_simp; first | (refine hK _ ?_; clear hK K) | (apply Exists.intro; refine ⟨fun _ _ => ?_, hK _ ?_⟩; fail; clear hK K)))); refine wpV_nil ?_; refine ⟨fun W => by go_simp; rfl, fun E d E' d' => ?_⟩)
     have hbE := built_below wr E d (.cells #[.int .i64 X] 3) E' d'
     have HCS := Lib.hid (built_cell wr E d #[.int .i64 X] 3 E' d')
     have HFE := Lib.hid (HF.out.below hbE)
     clear hbE k0 k1 k2 k3 lk m0 m1 m2 lmb c0 lb HF hsw
     generalize extW ((extW wr E d).alloc (.cells #[.int .i64 X] 3)) E' d' = WE at *
     generalize (extW wr E d).heap.size = BB at *
     go_wp2_with (at_builtin; refine wpAppK okI8 rfl (.tmp 35) (.tmp 52) rfl W1.heap.size _ _ _ (.int .i64 X) BB rfl HFE.out.own rfl (HCS.out 0 _ rfl) rfl (by omega) (by omega) HFE.out.bel.size ?_)
     intro v' w2 hown2 hg2 hat2
     obtain ⟨A', cp', rfl⟩ := own_form hown2
     have hr2 := HFE.out.mid hg2
     have cM2 : w2.cell? ⟨mb, 2, none⟩ = some (.slice Av L.length cv) := hr2.cell (i := 2) (by omega)
     have fM2 : w2.frozen? ⟨mb, 2, none⟩ = false := hr2.frozen 2
     have lM2 : LtW mb w2 := hr2.lt
     have HNW := Lib.hid (FM.app (k := 2) HFE.out (Below.refl _ _) hown2 hg2 hat2 (fun i hi => by
      have hi3 : i = 0 ∨ i = 1 ∨ i = 2 := by omega
      rcases hi3 with rfl | rfl | rfl <;> rfl))
     clear hown2 hg2 hat2 hr2 HCS HFE
     go_wp2
     go_roundw
     case rel => exact ⟨x + 1, _, by omega, by go_num, by rw [← Nat.add_assoc, HS.out]; exact HNW⟩
     case measure => simp [intOf]; omega
    ·obtain rfl : x = N := by omega
     have dx : decide ((x : Int) < (x : Int)) = false := by simp
     rw [← Nat.succ_mul] at HF
     go_wp2
     go_roundw
     case rel => exact ⟨y + 1, v, by omega, by go_num, HF⟩
     case measure => simp [intOf]; omega
  ·obtain rfl : y = N := by omega
   have dy : decide ((y : Int) < (y : Int)) = false := by simp
   rw [HM.out, HALL.out] at HF
   have hml : (Z.laidL W H cs y).length = M := HLEN.out
   have ho := HF.out.own
   rw [List.length_map] at ho
   obtain ⟨A, C, rfl⟩ := own_form ho
   have hne : (Value.slice A (Z.laidL W H cs y).length C).ownBlock ≠ some (w.heap.size + 1) := by
    intro e
    have := (ho.lt _ e).1
    have := HSZ.out
    omega
   have HFIN : Hid (∀ u1 u2 u3, OwnI (((wr.setCell ⟨w.heap.size + 1, 0, none⟩ u1).setCell ⟨w.heap.size + 1, 1, none⟩ u2).setCell ⟨w.heap.size + 1, 2, none⟩ u3) w.heap.size A M C (Z.laidL W H cs y) ∧ Below w.heap.size w (((wr.setCell ⟨w.heap.size + 1, 0, none⟩ u1).setCell ⟨w.heap.size + 1, 1, none⟩ u2).setCell ⟨w.heap.size + 1, 2, none⟩ u3)) := Lib.hid fun u1 u2 u3 => by
    have h4 := own_setOther (a := ⟨w.heap.size + 1, 2, none⟩) (u := u3) (own_setOther (a := ⟨w.heap.size + 1, 1, none⟩) (u := u2) (own_setOther (a := ⟨w.heap.size + 1, 0, none⟩) (u := u1) ho hne) hne) hne
    rw [hml] at h4
    refine ⟨⟨hml, own_baseV h4 (Nat.le_of_lt hs0)⟩, ?_⟩
    have h6 := HB1.out.trans (HF.out.bel.mono (Nat.le_of_lt hs0))
    exact ((h6.setCell (p := ⟨w.heap.size + 1, 0, none⟩) (by simp) u1).setCell (p := ⟨w.heap.size + 1, 1, none⟩) (by simp) u2).setCell (p := ⟨w.heap.size + 1, 2, none⟩) (by simp) u3
   have m2 : wr.cell? ⟨mb, 2, none⟩ = some (.slice A (Z.laidL W H cs y).length C) := HF.out.row.cell (i := 2) (by omega)
   have HR2 := rowBelow HRR.out HF.out.bel HRR.out.lt
   have r0 : wr.cell? ⟨w.heap.size + 1, 0, none⟩ = some (.int .i64 (0)) := HR2.cell (i := 0) (by omega)
   have r1 : wr.cell? ⟨w.heap.size + 1, 1, none⟩ = some (.int .i64 (0)) := HR2.cell (i := 1) (by omega)
   have r2 : wr.cell? ⟨w.heap.size + 1, 2, none⟩ = some (.slice none 0 0) := HR2.cell (i := 2) (by omega)
   have f0 := HR2.frozen 0
   have f1 := HR2.frozen 1
   have f2 := HR2.frozen 2
   have lr : LtW (w.heap.size + 1) wr := HR2.lt
   rw [hml] at m2
   clear HF ho hne hml HR2 HALL HLEN
   go_wp2
   refine bodyPost_ret (v := .tuple #[.agg #[.int .i64 (G), .int .i64 (y), .slice A M C], .int .i64 (0)]) (by simp [results, Tryd.results35, go_sem, r0, r1, r2, lr]) rfl ⟨⟨A, C, rfl, (HFIN.out _ _ _).1⟩, (HFIN.out _ _ _).2⟩) : P := h
set_option maxRecDepth 100000 in
set_option maxHeartbeats 8000000 in
theorem laid_ok (G W H n N M : Nat) (a : Option Addr) (c : Nat) (cs : List Int) (w : World) (hI : IsInts w a n cs) (h : ChOk G W H n cs) (hN : torN W H = N) (h24 : N ≤ 24) (hM : N * N = M) :
  Calls Tryd.prog 35 #[.agg #[.int .i64 (G), .int .i64 (W), .int .i64 (H), .slice a n c]] w fun r w' => (∃ A C, r = .returned (.tuple #[.agg #[.int .i64 (G), .int .i64 (N), .slice A M C], .int .i64 (0)]) ∧ OwnI w' w.heap.size A M C (Z.laidL W H cs N)) ∧ Below w.heap.size w w' := by
 have hn4 := h.n4
 have HT := Lib.hid (fun w hI => Torus_ok G W H n a c cs w hI h)
 have hv : torV (torN W H) = .tuple #[.int .i64 (N), .int .i64 (0)] := by unfold torV; rw [hN, if_neg (by omega)]
 rw [hv] at HT
 have hpos := h.tpos
 rw [hN] at hpos
 have HI := Lib.hid hI
 have hM6 : M ≤ 576 := by rw [← hM]; exact Nat.mul_le_mul h24 h24
 have hNi : (N : Int) * (N : Int) = (M : Int) := by rw [← hM]; push_cast; rfl
 have vM : IntKind.i64.wrap (M : Int) = (M : Int) := IntWalk.i64_in _ (by omega)
 have hmk := makeCap okI8 rfl M (by omega) (by omega)
 have HALL := Lib.hid (laP_all W H cs N)
 have HLEN : Hid ((Z.laidL W H cs N).length = M) := Lib.hid (by rw [Z.laidL_len, hM])
 rw [hM] at HALL
 have hW := h.w2; have hH := h.h2; have hW1 := h.w1; have hH1 := h.h1
 have HNN := Lib.hid h.hn
 have HM := Lib.hid hM
 clear hI hn4 hv hN hM h
 go_enter Tryd.func35, Tryd.ntmps35
 (go_wp2_with fail; refine (HT.out _ (HI.out.below blw)).mono ?_; rintro r w1 ⟨rfl, hb⟩; obtain ⟨E, d, rfl⟩ := bExt hb; clear hb)
 go_wp2_with fail
 go_region
 all_goals go_wp2_with fail
 ·have hFM := lay2 (extW ((w.alloc (.cells #[.int .i64 (G : Int), .int .i64 (W : Int), .int .i64 (H : Int), .slice a n c] 25)).alloc (.cells #[.int .i64 0, .int .i64 0, .slice none 0 0] 93)) E (d + 1)) G N M (by omega)
  have hsz0 : (extW ((w.alloc (.cells #[.int .i64 (G : Int), .int .i64 (W : Int), .int .i64 (H : Int), .slice a n c] 25)).alloc (.cells #[.int .i64 0, .int .i64 0, .slice none 0 0] 93)) E (d + 1)).heap.size = w.heap.size + 1 + 1 + E.size := by simp
  rw [hsz0] at hFM
  clear hsz0
  obtain ⟨W1, hW1⟩ : ∃ W1, W1 = extW ((w.alloc (.cells #[.int .i64 (G : Int), .int .i64 (W : Int), .int .i64 (H : Int), .slice a n c] 25)).alloc (.cells #[.int .i64 0, .int .i64 0, .slice none 0 0] 93)) E (d + 1) := ⟨_, rfl⟩
  have hsz : W1.heap.size = w.heap.size + 1 + 1 + E.size := by rw [hW1, size_extW, World.size_alloc, World.size_alloc]
  obtain ⟨mb, hmb⟩ : ∃ mb, mb = (w.heap.size + 1 + 1 + E.size + 1) := ⟨_, rfl⟩
  exact lfGs50
 ·have hFM := lay1 (extW ((w.alloc (.cells #[.int .i64 (G : Int), .int .i64 (W : Int), .int .i64 (H : Int), .slice a n c] 25)).alloc (.cells #[.int .i64 0, .int .i64 0, .slice none 0 0] 93)) E (d + 1)) G N M (by omega)
  have hsz0 : (extW ((w.alloc (.cells #[.int .i64 (G : Int), .int .i64 (W : Int), .int .i64 (H : Int), .slice a n c] 25)).alloc (.cells #[.int .i64 0, .int .i64 0, .slice none 0 0] 93)) E (d + 1)).heap.size = w.heap.size + 1 + 1 + E.size := by simp
  rw [hsz0] at hFM
  clear hsz0
  obtain ⟨W1, hW1⟩ : ∃ W1, W1 = extW ((w.alloc (.cells #[.int .i64 (G : Int), .int .i64 (W : Int), .int .i64 (H : Int), .slice a n c] 25)).alloc (.cells #[.int .i64 0, .int .i64 0, .slice none 0 0] 93)) E (d + 1) := ⟨_, rfl⟩
  have hsz : W1.heap.size = w.heap.size + 1 + 1 + E.size := by rw [hW1, size_extW, World.size_alloc, World.size_alloc]
  obtain ⟨mb, hmb⟩ : ∃ mb, mb = (w.heap.size + 1 + 1 + E.size) := ⟨_, rfl⟩
  exact lfGs50
end
section
open Go.RowKit
open Z (torN place pnt Mv To lin okT nrm keepB colP idm)
def mvK (m : Mv) : List Value := [.int .i64 m.t, .bool m.f, .int .i64 m.o.1, .int .i64 m.o.2]
def mvsK (L : List Mv) : List Value := L.flatMap mvK
theorem mvsK_app (L : List Mv) (m : Mv) : mvsK (L ++ [m]) = mvsK L ++ mvK m := by unfold mvsK; rw [List.flatMap_append]; simp
theorem mvsK_get : ∀ (L : List Mv) (j r : Nat), j < L.length → r < 4 → (mvsK L)[4 * j + r]? = (mvK (L.getD j idm))[r]?
 | [], j, r, h, _ => absurd h (by simp)
 | m :: L, 0, r, _, hr => by
  unfold mvsK
  rw [List.flatMap_cons, List.getElem?_append_left (by simp [mvK]; omega)]
  simp
 | m :: L, j + 1, r, h, hr => by
  have ih := mvsK_get L j r (by simpa using h) hr
  unfold mvsK at ih ⊢
  rw [List.flatMap_cons, List.getElem?_append_right (by simp [mvK]; omega)]
  rw [show 4 * (j + 1) + r - (mvK m).length = 4 * j + r by simp [mvK]; omega, ih]
  simp
def IsMoves (w : World) (a : Option Addr) (n : Nat) (L : List Mv) : Prop :=
 L.length = n ∧ (0 < n → ∃ b o, a = some ⟨b, o, none⟩ ∧ b < w.heap.size ∧ ∀ j, j < n → w.cell? ⟨b, o + j * 4, none⟩ = some (.int .i64 (L.getD j idm).t) ∧ w.cell? ⟨b, o + j * 4 + 1, none⟩ = some (.bool (L.getD j idm).f) ∧ w.cell? ⟨b, o + j * 4 + 2, none⟩ = some (.int .i64 (L.getD j idm).o.1) ∧ w.cell? ⟨b, o + j * 4 + 3, none⟩ = some (.int .i64 (L.getD j idm).o.2))
def OwnM (w : World) (base : Nat) (A : Option Addr) (n C : Nat) (L : List Mv) : Prop := L.length = n ∧ w.ownsRow base 56 4 (.slice A n C) n (mvsK L)
theorem OwnM.below {w w' : World} {base n C : Nat} {A : Option Addr} {L : List Mv} (h : OwnM w base A n C L) (hb : Below w.heap.size w w') : OwnM w' base A n C L := ⟨h.1, ownBelow h.2 hb⟩
theorem OwnM.grownT {w w' : World} {base n C b' e' s' n' : Nat} {A : Option Addr} {L : List Mv} {v' : Value} {xs' : List Value} (h : OwnM w base A n C L) (h' : w.ownsRow b' e' s' v' n' xs') (hne : 56 ≠ e') (hg : w.grownBy w' v'.ownBlock) : OwnM w' base A n C L := ⟨h.1, own_grownT h.2 h' hne hg⟩
theorem OwnM.setRow {w : World} {base n C rb rt rn i : Nat} {f : Nat → Value} {A : Option Addr} {L : List Mv} {u : Value} (h : OwnM w base A n C L) (hr : w.rowIs rb rt rn f) (hne : rt ≠ 56) : OwnM (w.setCell ⟨rb, i, none⟩ u) base A n C L := ⟨h.1, own_setRow h.2 hr hne⟩
theorem OwnM.moves {w : World} {base n C : Nat} {A : Option Addr} {L : List Mv} (h : OwnM w base A n C L) : IsMoves w A n L := by
 obtain ⟨hl, h2⟩ := h
 refine ⟨hl, fun hn => ?_⟩
 rcases h2.2 with ⟨e, e0⟩ | ⟨g, cap, cur, e, hb, hg, h3, h4, h5, h6⟩
 ·omega
 ·injection e with e1
  refine ⟨g, 0, e1, (Array.getElem?_eq_some_iff.1 hg).1, fun j hj => ?_⟩
  have hc : ∀ r, r < 4 → w.cell? ⟨g, 0 + j * 4 + r, none⟩ = (mvK (L.getD j idm))[r]? := fun r hr => by
   have h7 : cur[4 * j + r]? = (mvK (L.getD j idm))[r]? := by
    rw [← Array.getElem?_toList, ← List.getElem?_take_of_lt (show 4 * j + r < n * 4 by omega), h6]
    exact mvsK_get L j r (by omega) hr
   have h8 : (4 * j + r) < cur.size := by omega
   rw [show 0 + j * 4 + r = 4 * j + r by omega]
   simp [World.cell?, hg, h7]
  exact ⟨hc 0 (by omega), hc 1 (by omega), hc 2 (by omega), hc 3 (by omega)⟩
theorem okMv : ElemOk 128 56 4 32 (.agg #[.int .i64 0, .bool false, .int .i64 0, .int .i64 0]) := ⟨Tryd.underlying128, by kernel_rfl, rfl, by omega⟩
theorem wpAppM {W : World} {ops : Array Oper} {rest : List Oper} {o : Oper} {a : Act} {Q : Exit → Act → World → Prop} {t e size bytes : Nat} {z : Value} (hE : ElemOk t e size bytes z)
  (hgd : o.guard = none) (s x : Operand) (ho : o.op = .call { callee := .builtin .append, args := #[s, x], argTypes := #[t, t] })
  (base : Nat) (v : Value) (n : Nat) (xs : List Value) (cs : Array Value) (hs : a.eval s = v) (hown : W.ownsRow base e size v n xs)
  (hx : a.eval x = .slice (some ⟨W.heap.size, 0, none⟩) 1 1) (hl : cs.size = size) (h1 : ∀ u ∈ cs.toList, u.oneCell' = true)
  (hb : bytes ≤ 4096) (hn : n ≤ 1000000000) (hbase : base ≤ W.heap.size)
  (h : ∀ v' w', w'.ownsRow base e size v' (n + 1) (xs ++ cs.toList) → (W.alloc (.cells cs e)).grownBy w' v.ownBlock → Below base W w' → wpList Tryd.prog ops Q rest (a.put o.dst v') w') : wpList Tryd.prog ops Q (o :: rest) a (W.alloc (.cells cs e)) := by
 obtain ⟨h2, h3, h4, h5⟩ := hE
 obtain ⟨i0, hi, hz0, hz1, hz2⟩ := info_parts h3
 refine wpList_append_own _ hgd s x t ho base e i0 z size bytes h2 hi hz0 hz1 hz2 h4 h5 v n xs hs (hown.alloc _) ⟨W.heap.size, 0, none⟩ 1 1 cs.toList hx (by simpa using hl) ?_ h1 (by unfold maxLen; omega) ?_ (by simp; omega) ?_
 ·intro j u hj
  have : (⟨W.heap.size, 0, none⟩ : Addr).add j = ⟨W.heap.size, j, none⟩ := by rw [Addr.add_lit]; simp
  rw [this, World.cell?_alloc_new]
  simpa using hj
 ·calc (n + 1) * bytes ≤ 1000000001 * 4096 := Nat.mul_le_mul (by omega) hb
   _ ≤ 140737488355328 := by omega
 ·intro v' w' hown' hg _
  refine h v' w' hown' hg ?_
  have hk := hown.lt
  exact ((Below.refl base W).alloc hbase _).trans (belowGrown hg (by simp; omega) fun k hk' => (hk k hk').1)
def P3 (K : Mv → Bool) (n t : Nat) (f : Bool) (m : Nat) : List Mv := ((List.range m).map fun k => (⟨t, f, pnt n k⟩ : Mv)).filter K
def P2 (K : Mv → Bool) (n : Nat) (f : Bool) (m : Nat) : List Mv := (List.range m).flatMap fun t => P3 K n t f (n * n)
def P1 (K : Mv → Bool) (n g : Nat) (m : Nat) : List Mv := ([false, true].take m).flatMap fun f => P2 K n f g
theorem P3_succ (K : Mv → Bool) (n t : Nat) (f : Bool) (m : Nat) : P3 K n t f (m + 1) = if K ⟨t, f, pnt n m⟩ then P3 K n t f m ++ [⟨t, f, pnt n m⟩] else P3 K n t f m := by
 unfold P3
 rw [List.range_succ, List.map_append, List.filter_append]
 simp only [List.map_cons, List.map_nil, List.filter_cons, List.filter_nil]
 split <;> simp
theorem P2_succ (K : Mv → Bool) (n : Nat) (f : Bool) (m : Nat) : P2 K n f (m + 1) = P2 K n f m ++ P3 K n m f (n * n) := by
 unfold P2; rw [List.range_succ, List.flatMap_append]; simp
theorem P1_succ (K : Mv → Bool) (n g i : Nat) (hi : i < 2) : P1 K n g (i + 1) = P1 K n g i ++ P2 K n (decide (i = 1)) g := by
 obtain rfl | rfl : i = 0 ∨ i = 1 := by omega
 ·simp [P1]
 ·simp [P1]
theorem P1_all (W H : Nat) (cs : List Int) (g n : Nat) : P1 (keepB W H cs g n) n g 2 = Z.movesL W H cs g n := by
 unfold P1 P2 P3 Z.movesL Z.allM
 simp [List.filter_flatMap]
theorem P2_zero (K : Mv → Bool) (n : Nat) (f : Bool) : P2 K n f 0 = [] := rfl
theorem P3_zero (K : Mv → Bool) (n t : Nat) (f : Bool) : P3 K n t f 0 = [] := rfl
end
section
open Go.RowKit
open Z (torN place pnt Mv To lin okT nrm keepB colP idm)
theorem keepsM_ok (G W H n N t : Nat) (f : Bool) (a ta : Option Addr) (c tc : Nat) (cs : List Int) (ox oy : Int) (w : World) (hn : 0 < n) (h24 : n ≤ 24) (hN : n * n = N) (hW : W ∣ n) (hH : H ∣ n) (hI : IsInts w a N (Z.laidL W H cs n)) (hT : IsInts w ta N (intsN (Z.imageL G n t f))) (hx : -1000000000000 ≤ ox ∧ ox ≤ 1000000000000) (hy : -1000000000000 ≤ oy ∧ oy ≤ 1000000000000) :
  Calls Tryd.prog 72 #[.agg #[.int .i64 (G), .int .i64 (n), .slice a N c], .slice ta N tc, .agg #[.int .i64 (ox), .int .i64 (oy)]] w fun e w' => e = .returned (.bool (keepB W H cs G n ⟨t, f, (ox, oy)⟩)) ∧ Below w.heap.size w w' := by
 rw [← keepsL_eq hn hW hH]
 exact keeps_ok G n N a ta c tc _ _ ox oy w hn h24 hN hI hT (fun k hk => by rw [Z.imageL_get (by omega), ← hN]; exact Z.place_lt hn _) hx hy
set_option maxRecDepth 100000 in
set_option maxHeartbeats 8000000 in
theorem all_ok (G W H n N : Nat) (a : Option Addr) (c : Nat) (cs : List Int) (w : World) (hI : IsInts w a N (Z.laidL W H cs n)) (hg : G = 4 ∨ G = 6) (hn : 0 < n) (h24 : n ≤ 24) (hN : n * n = N) (hW : W ∣ n) (hH : H ∣ n) :
  Calls Tryd.prog 52 #[.agg #[.int .i64 (G), .int .i64 (n), .slice a N c]] w fun r w' => (∃ A C, r = .returned (.slice A (Z.movesL W H cs G n).length C) ∧ OwnM w' w.heap.size A (Z.movesL W H cs G n).length C (Z.movesL W H cs G n)) ∧ Below w.heap.size w w' := by
 have hN6 : N ≤ 576 := by rw [← hN]; exact Nat.mul_le_mul h24 h24
 have hG6 : G ≤ 6 := by omega
 have HIM := Lib.hid (fun t f w (ht : t < G) => image_ok G n N t f a c w (by omega) (by omega) hn h24 hN)
 have HKP := Lib.hid (fun t f ta tc (ox oy : Int) w hI hT hx hy => keepsM_ok G W H n N t f a ta c tc cs ox oy w hn h24 hN hW hH hI hT hx hy)
 have HALL := Lib.hid (P1_all W H cs G n)
 have HNN := Lib.hid hN
 have hNi : (n : Int) * (n : Int) = (N : Int) := by rw [← hN]; push_cast; rfl
 have vN : IntKind.i64.wrap (N : Int) = (N : Int) := IntWalk.i64_in _ (by omega)
 have HI := Lib.hid hI
 obtain ⟨K, hK⟩ : ∃ K, keepB W H cs (G : Int) n = K := ⟨_, rfl⟩
 have b1 : ((n : Int) == 0) = false := by simp; omega
 have b2 : (n : Int) ≠ 0 := by omega
 have b3 : ¬ n = 0 := by omega
 rw [hK] at HALL HKP
 generalize Z.movesL W H cs G n = ML at *
 clear hI hg hN hW hH hK
 go_enter Tryd.func52, Tryd.ntmps52
 go_wp2_with fail
 have hG0 := GL.nil ((w.alloc (.cells #[.int .i64 G, .int .i64 n, .slice a N c] 93)).alloc (.cells #[.bool false, .bool true] 4)) 56 4
 obtain ⟨W1, hW1⟩ : ∃ W1, W1 = (w.alloc (.cells #[.int .i64 G, .int .i64 n, .slice a N c] 93)).alloc (.cells #[.bool false, .bool true] 4) := ⟨_, rfl⟩
 have HB1 : Hid (Below w.heap.size w W1) := Lib.hid (by rw [hW1]; exact blw)
 have hsz : W1.heap.size = w.heap.size + 2 := by rw [hW1, World.size_alloc, World.size_alloc]
 have hs0 : w.heap.size < W1.heap.size := by omega
 have hs1 : w.heap.size + 1 < W1.heap.size := by omega
 have cb0 : W1.cell? ⟨w.heap.size, 0, none⟩ = some (.int .i64 (G)) := by rw [hW1]; simp [go_sem]
 have cb1 : W1.cell? ⟨w.heap.size, 1, none⟩ = some (.int .i64 (n)) := by rw [hW1]; simp [go_sem]
 have cb2 : W1.cell? ⟨w.heap.size, 2, none⟩ = some (.slice a N c) := by rw [hW1]; simp [go_sem]
 have HBB : Hid (∀ i, i < 2 → W1.cell? ⟨w.heap.size + 1, i, none⟩ = some (.bool (decide (i = 1)))) := Lib.hid fun i hi => by
  obtain rfl | rfl : i = 0 ∨ i = 1 := by omega
  ·rw [hW1]; simp [go_sem]
  ·rw [hW1]; simp [go_sem]
 have HW1 := Lib.hid hW1
 have HG0 := Lib.hid hG0
 have HSZ := Lib.hid hsz
 clear hW1 hG0 hsz
 go_loopw [3, 12] (fun ov iv wr => ∃ (i : Nat) (L : List Mv), i ≤ 2 ∧ iv = .int .i64 i ∧ Hid (GL 56 4 (mvsK L) L.length W1 ov wr) ∧ Hid (L = P1 K n G i) ∧ L.length ≤ i * 6 * 576) (fun _ iv _ => 2 - (intOf iv).toNat)
 case atStart => exact ⟨0, [], by omega, rfl, Lib.hid (by rw [HW1.out]; exact HG0.out), Lib.hid rfl, by simp⟩
 case round =>
  obtain ⟨i, L, hi, rfl, HG, HL, hlen⟩ := hrel
  have k0 := bCs (HG.out).bel cb0
  have k1 := bCs (HG.out).bel cb1
  have k2 := bCs (HG.out).bel cb2
  have lk : LtW w.heap.size wr := Nat.lt_of_lt_of_le hs0 (HG.out).bel.size
  have hsw : W1.heap.size ≤ (wr).heap.size := (HG.out).bel.size
  by_cases hi2 : i < 2
  ·have di : decide (i < 2) = true := by simpa using hi2
   have di2 : decide ((i : Int) < 2) = true := by simp; omega
   have bc := bCs HG.out.bel (HBB.out i hi2)
   have lb : LtW (w.heap.size + 1) wr := Nat.lt_of_lt_of_le hs1 HG.out.bel.size
   have vi : IntKind.i64.wrap ((i : Int) + 1) = (i : Int) + 1 := IntWalk.i64_in _ (by omega)
   have HPS := Lib.hid (P1_succ K n G i hi2)
   obtain ⟨f, hf⟩ : ∃ f, decide (i = 1) = f := ⟨_, rfl⟩
   rw [hf] at bc HPS
   clear hf
   go_wp2_with fail
   obtain ⟨wo, rfl⟩ : ∃ wo : World, wo = wr := ⟨_, rfl⟩
   go_loopw [3, 18] (fun ov tv wr => ∃ (t : Nat) (L : List Mv), t ≤ G ∧ tv = .int .i64 t ∧ Hid (GL 56 4 (mvsK L) L.length W1 ov wr) ∧ Hid (L = P1 K n G i ++ P2 K n f t) ∧ L.length ≤ (i * 6 + t) * 576) (fun _ tv _ => G - (intOf tv).toNat)
   case atStart => exact ⟨0, L, by omega, rfl, HG, Lib.hid (by rw [HL.out, P2_zero, List.append_nil]), by omega⟩
   case round =>
    clear k0 k1 k2 lk hsw
    clear HG HL bc lb hlen
    obtain ⟨t, L, ht, rfl, HG, HL, hlen⟩ := hrel
    have k0 := bCs (HG.out).bel cb0
    have k1 := bCs (HG.out).bel cb1
    have k2 := bCs (HG.out).bel cb2
    have lk : LtW w.heap.size wr := Nat.lt_of_lt_of_le hs0 (HG.out).bel.size
    have hsw : W1.heap.size ≤ (wr).heap.size := (HG.out).bel.size
    by_cases htG : t < G
    ·have dt : decide ((t : Int) < (G : Int)) = true := by simpa using htG
     have vt : IntKind.i64.wrap ((t : Int) + 1) = (t : Int) + 1 := IntWalk.i64_in _ (by omega)
     have HIM1 := Lib.hid (fun w => HIM.out t f w htG)
     go_wp2_with fail
     refine (HIM1.out _).mono ?_
     rintro r w2 ⟨⟨TA, TC, rfl, hT⟩, hb2⟩
     have HG2 := Lib.hid (HG.out.below hb2)
     have HT2 := Lib.hid hT
     have HIW := Lib.hid (HI.out.below (HB1.out.trans ((HG.out.bel.trans (hb2.mono HG.out.bel.size)).mono (Nat.le_of_lt hs0))))
     clear k0 k1 k2 lk hsw
     clear hT hb2 HIM1 HG
     have k0 := bCs (HG2.out).bel cb0
     have k1 := bCs (HG2.out).bel cb1
     have k2 := bCs (HG2.out).bel cb2
     have lk : LtW w.heap.size w2 := Nat.lt_of_lt_of_le hs0 (HG2.out).bel.size
     have hsw : W1.heap.size ≤ (w2).heap.size := (HG2.out).bel.size
     go_wp2_with fail
     obtain ⟨wp, rfl⟩ : ∃ wp : World, wp = wr := ⟨_, rfl⟩
     go_loopw [3, 31] (fun ov pv wr => ∃ (p : Nat) (L : List Mv), p ≤ N ∧ pv = .int .i64 p ∧ Hid (GL 56 4 (mvsK L) L.length W1 ov wr) ∧ Hid (L = (P1 K n G i ++ P2 K n f t) ++ P3 K n t f p) ∧ L.length ≤ (i * 6 + t) * 576 + p ∧ Hid (OwnI wr wp.heap.size TA N TC (intsN (Z.imageL G n t f)))) (fun _ pv _ => N - (intOf pv).toNat)
     case atStart => exact ⟨0, L, by omega, rfl, HG2, Lib.hid (by rw [HL.out, P3_zero, List.append_nil]), by omega, HT2⟩
     case round =>
      clear k0 k1 k2 lk hsw
      clear HG2 HL HT2 HIW hlen
      obtain ⟨p, L, hp, rfl, HG, HL, hlen, HT⟩ := hrel
      have k0 := bCs (HG.out).bel cb0
      have k1 := bCs (HG.out).bel cb1
      have k2 := bCs (HG.out).bel cb2
      have lk : LtW w.heap.size wr := Nat.lt_of_lt_of_le hs0 (HG.out).bel.size
      have hsw : W1.heap.size ≤ (wr).heap.size := (HG.out).bel.size
      by_cases hpN : p < N
      ·have dp : decide ((p : Int) < (N : Int)) = true := by simpa using hpN
       have vp : IntKind.i64.wrap ((p : Int) + 1) = (p : Int) + 1 := IntWalk.i64_in _ (by omega)
       have HPS3 := Lib.hid (P3_succ K n t f p)
       obtain ⟨u, hu⟩ : ∃ u, p % n = u := ⟨_, rfl⟩
       obtain ⟨v, hv⟩ : ∃ v, p / n = v := ⟨_, rfl⟩
       have hu1 : u < n := by rw [← hu]; exact Nat.mod_lt _ hn
       have hv1 : v < n := by rw [← hv]; exact Nat.div_lt_of_lt_mul (by rw [HNN.out]; exact hpN)
       have hpn : pnt n p = ((u : Int), (v : Int)) := by unfold pnt; rw [hu, hv]
       have t1 : (p : Int).tmod (n : Int) = (u : Int) := by rw [← hu]; rfl
       have t2 : (p : Int).tdiv (n : Int) = (v : Int) := by rw [← hv]; rfl
       have v1 : IntKind.i64.wrap (u : Int) = (u : Int) := IntWalk.i64_in _ (by omega)
       have v2 : IntKind.i64.wrap (v : Int) = (v : Int) := IntWalk.i64_in _ (by omega)
       rw [hpn] at HPS3
       have HKP1 := Lib.hid (fun w hI hT => HKP.out t f TA TC (u : Int) (v : Int) w hI hT (by omega) (by omega))
       clear hu hv hpn HIM HALL
       have HIW := Lib.hid (HI.out.below (HB1.out.trans (HG.out.bel.mono (Nat.le_of_lt hs0))))
       cases hkb : K ⟨t, f, ((u : Int), (v : Int))⟩ with
       | true =>
        rw [hkb] at HKP1 HPS3
        have HPT : Hid (P3 K n t f (p + 1) = P3 K n t f p ++ [⟨t, f, ((u : Int), (v : Int))⟩]) := Lib.hid (by have := HPS3.out; simpa using this)
        go_wp2_with fail
        (refine wp_region_ext_alloc 9 52 (some 9) _ (by kernel_rfl) (by kernel_rfl) rfl allocPt ?_; simp only [List.take_succ_cons, List.take_zero, List.drop_succ_cons, List.drop_zero]; (repeat (first | ((with_reducible refine wpV_step (fun K hK => ?_)); go_simp; first | (refine hK _ ?_; clear hK K) | (apply Exists.intro; refine ⟨fun _ _ => ?_, hK _ ?_⟩; fail; clear hK K)))); refine wpV_nil ?_; intro E d E' d'; go_simp)
        go_wp2_with fail
        have pc0 := built_cell wr E d #[.int .i64 (u : Int), .int .i64 (v : Int)] 52 E' d' 0 _ rfl
        have pc1 := built_cell wr E d #[.int .i64 (u : Int), .int .i64 (v : Int)] 52 E' d' 1 _ rfl
        rw [size_extW] at pc0 pc1
        have lpt := World.block_lt_of_cell? _ _ pc0
        have hbL := built_below wr E d (.cells #[.int .i64 (u : Int), .int .i64 (v : Int)] 52) E' d'
        refine (HKP1.out _ (HIW.out.below hbL) (HT.out.ints.below hbL)).mono ?_
        rintro r w3 ⟨rfl, hb3⟩
        have p0 := bCs hb3 pc0
        have p1 := bCs hb3 pc1
        have HG3 := Lib.hid ((HG.out.below hbL).below hb3)
        have HT3 := Lib.hid ((HT.out.below hbL).below hb3)
        have lp : LtW (wr.heap.size + E.size) w3 := Nat.lt_of_lt_of_le lpt hb3.size
        clear k0 k1 k2 lk hsw
        clear HG HT HIW pc0 pc1 hb3 hbL lpt HPS3
        go_wp2_with (at_builtin; refine wpAppM okMv rfl (.tmp 47) (.tmp 52) rfl W1.heap.size _ _ _ #[.int .i64 t, .bool f, .int .i64 u, .int .i64 v] rfl HG3.out.own rfl rfl ?_ (by omega) (by omega) HG3.out.bel.size ?_)
        ·simp [Value.oneCell']
        intro v' w4 hown4 hg4 hb4
        obtain ⟨A', cp', rfl⟩ := own_form hown4
        have HG4 : Hid (GL 56 4 (mvsK (L ++ [⟨t, f, ((u : Int), (v : Int))⟩])) (L ++ [(⟨t, f, ((u : Int), (v : Int))⟩ : Mv)]).length W1 (.slice A' (L.length + 1) cp') w4) := Lib.hid ⟨by rw [mvsK_app, List.length_append]; exact hown4, HG3.out.bel.trans hb4⟩
        have HT4 : Hid (OwnI w4 wp.heap.size TA N TC (intsN (Z.imageL (G : Int) n t f))) := Lib.hid (OwnI.grownT (HT3.out.below ((Below.refl _ _).alloc (Nat.le_refl _) _)) (HG3.out.own.alloc _) (by decide) hg4)
        clear hown4 hg4 hb4 HG3 HT3 p0 p1 lp
        go_wp2
        go_roundw
        case rel => exact ⟨p + 1, L ++ [⟨t, f, ((u : Int), (v : Int))⟩], by omega, by go_num, HG4, Lib.hid (by rw [HPT.out, ← List.append_assoc, ← HL.out]), by simp; omega, HT4⟩
        case measure => simp [intOf]; omega
       | false =>
        rw [hkb] at HKP1 HPS3
        have HPT : Hid (P3 K n t f (p + 1) = P3 K n t f p) := Lib.hid (by have := HPS3.out; simpa using this)
        go_wp2_with fail
        (refine wp_region_ext_alloc 9 52 (some 9) _ (by kernel_rfl) (by kernel_rfl) rfl allocPt ?_; simp only [List.take_succ_cons, List.take_zero, List.drop_succ_cons, List.drop_zero]; (repeat (first | ((with_reducible refine wpV_step (fun K hK => ?_)); go_simp; first | (refine hK _ ?_; clear hK K) | (apply Exists.intro; refine ⟨fun _ _ => ?_, hK _ ?_⟩; fail; clear hK K)))); refine wpV_nil ?_; intro E d E' d'; go_simp)
        go_wp2_with fail
        have pc0 := built_cell wr E d #[.int .i64 (u : Int), .int .i64 (v : Int)] 52 E' d' 0 _ rfl
        have pc1 := built_cell wr E d #[.int .i64 (u : Int), .int .i64 (v : Int)] 52 E' d' 1 _ rfl
        rw [size_extW] at pc0 pc1
        have lpt := World.block_lt_of_cell? _ _ pc0
        have hbL := built_below wr E d (.cells #[.int .i64 (u : Int), .int .i64 (v : Int)] 52) E' d'
        refine (HKP1.out _ (HIW.out.below hbL) (HT.out.ints.below hbL)).mono ?_
        rintro r w3 ⟨rfl, hb3⟩
        have p0 := bCs hb3 pc0
        have p1 := bCs hb3 pc1
        have HG3 := Lib.hid ((HG.out.below hbL).below hb3)
        have HT3 := Lib.hid ((HT.out.below hbL).below hb3)
        clear k0 k1 k2 lk hsw
        clear HG HT HIW pc0 pc1 hb3 hbL lpt HPS3 p0 p1
        go_wp2
        go_roundw
        case rel => exact ⟨p + 1, L, by omega, by go_num, HG3, Lib.hid (by rw [HPT.out]; exact HL.out), by omega, HT3⟩
        case measure => simp [intOf]; omega
      ·obtain rfl : p = N := by omega
       have dp : decide ((p : Int) < (p : Int)) = false := by simp
       have HL2 : Hid (L = P1 K n G i ++ P2 K n f (t + 1)) := Lib.hid (by rw [P2_succ, HNN.out, ← List.append_assoc]; exact HL.out)
       clear HT HIM
       go_wp2
       go_roundw
       case rel => exact ⟨t + 1, L, by omega, by go_num, HG, HL2, by omega⟩
       case measure => simp [intOf]; omega
    ·obtain rfl : t = G := by omega
     have dt : decide ((t : Int) < (t : Int)) = false := by simp
     have HL2 : Hid (L = P1 K n t (i + 1)) := Lib.hid (by rw [HPS.out]; exact HL.out)
     go_wp2
     go_roundw
     case rel => exact ⟨i + 1, L, by omega, by go_num, HG, HL2, by omega⟩
     case measure => simp [intOf]; omega
  ·obtain rfl : i = 2 := by omega
   obtain rfl : L = ML := HL.out.trans HALL.out
   obtain ⟨A, C, rfl⟩ := own_form HG.out.own
   have HO : Hid (OwnM wr w.heap.size A L.length C L) := Lib.hid ⟨rfl, own_baseV HG.out.own (Nat.le_of_lt hs0)⟩
   have HBL := Lib.hid (HB1.out.trans (HG.out.bel.mono (Nat.le_of_lt hs0)))
   clear HG HL HALL HIM HKP
   go_wp2
   go_ret
   exact ⟨⟨A, C, rfl, HO.out⟩, HBL.out⟩
end
section
open Go.RowKit
open Z (torN place pnt Mv To lin okT nrm keepB colP idm)
end
section
open Go.RowKit
open Z (torN place pnt Mv To lin okT nrm keepB colP idm)
def MvPost (L : List Mv) (e : Int) (w : World) (r : Ending) (w' : World) : Prop := (∃ A C, r = .returned (.tuple #[.slice A L.length C, .int .i64 (e)]) ∧ OwnM w' w.heap.size A L.length C L) ∧ Below w.heap.size w w'
theorem OwnM.base {w : World} {base base' n C : Nat} {A : Option Addr} {L : List Mv} (h : OwnM w base A n C L) (hb : base' ≤ base) : OwnM w base' A n C L := ⟨h.1, own_baseV h.2 hb⟩
set_option maxRecDepth 100000 in
set_option maxHeartbeats 8000000 in
theorem Moves_ok (G W H n N : Nat) (a : Option Addr) (c : Nat) (cs : List Int) (w : World) (hI : IsInts w a n cs) (h : ChOk G W H n cs) (hN : torN W H = N) (h24 : N ≤ 24) (h0 : 0 < N) :
  Calls Tryd.prog 67 #[.agg #[.int .i64 (G), .int .i64 (W), .int .i64 (H), .slice a n c]] w (MvPost (Z.movesL W H cs G N) 0 w) := by
 obtain ⟨M, hM⟩ : ∃ M, N * N = M := ⟨_, rfl⟩
 have HL := Lib.hid (fun w hI => laid_ok G W H n N M a c cs w hI h hN h24 hM)
 have hd := Z.torN_dvd W H
 rw [hN] at hd
 have HA := Lib.hid (fun a c w hI => all_ok G W H N M a c cs w hI h.g h0 h24 hM hd.1 hd.2)
 have HI := Lib.hid hI
 clear hI hN hM h hd
 go_enter Tryd.func67, Tryd.ntmps67
 go_wp2_with fail
 refine (HL.out _ (HI.out.below blw)).mono ?_
 rintro r w2 ⟨⟨A, C, rfl, hA⟩, hb2⟩
 have HB2 : Hid (Below w.heap.size w w2) := Lib.hid (((Below.refl _ _).alloc (Nat.le_refl _) _).trans (hb2.mono (by simp)))
 have HA2 := Lib.hid hA.ints
 have hs2 : w.heap.size < w2.heap.size := by have := hb2.size; simp at this; omega
 clear hA hb2
 go_wp2_with fail
 refine (HA.out A C _ (HA2.out.below ((Below.refl _ _).alloc (Nat.le_refl _) _))).mono ?_
 rintro r w3 ⟨⟨B, D, rfl, hB⟩, hb3⟩
 have HB3 : Hid (Below w.heap.size w w3) := Lib.hid ((HB2.out.alloc (Nat.le_of_lt hs2) _).trans (hb3.mono (by simp; omega)))
 have HM := Lib.hid (hB.base (base' := w.heap.size) (by simp; omega))
 clear hB hb3
 go_wp2
 go_ret2
 exact ⟨⟨B, D, rfl, HM.out⟩, HB3.out⟩
end
section
open Go.RowKit
open Z (torN place pnt Mv To lin okT nrm keepB colP idm md redM)
end
section
open Go.RowKit
namespace Z
theorem length_by (g : Nat) (f : Mv → Nat) (m : Nat) : ∀ L : List Mv, (∀ x ∈ L, f x < m) → L.length = sumL (List.range m) fun v => L.countP fun x => f x == v
 | [], _ => by rw [sumL_zero]; rfl; intro x _; rfl
 | a :: L, h => by
  have ih := length_by g f m L (fun x hx => h x (List.mem_cons_of_mem _ hx))
  have h1 : ∀ v, (a :: L).countP (fun x => f x == v) = L.countP (fun x => f x == v) + (if f a == v then 1 else 0) := fun v => List.countP_cons
  simp only [h1]
  rw [sumL_add, ← ih, List.length_cons]
  congr 1
  rw [sumL_one List.nodup_range (List.mem_range.2 (h a (List.mem_cons_self ..))) (fun x _ hx => by simp [Ne.symm hx])]
  simp
end Z
end
end Go.Proofs.YtajdoobkfbdgoaaDoor
