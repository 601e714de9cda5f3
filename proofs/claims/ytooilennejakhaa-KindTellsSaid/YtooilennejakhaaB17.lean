/- Lemmas and contracts of functions (what each call returns, and that it changes nothing that was there) that the proof of a law of this seat uses; each lemma states its own conditions. -/
import Derived.Test.YtooilennejakhaaB16
namespace Go.Proofs.Ytooilennejakhaa
open Go.RowKit
set_option linter.unusedVariables false
set_option linter.unusedSimpArgs false
open Z (torN place pnt Mv To lin okT nrm keepB colP)
theorem own_setOther {w : World} {base e n : Nat} {v u : Value} {xs : List Value} {a : Addr} (h : w.ownsRow base e 1 v n xs) (hne : v.ownBlock ≠ some a.block) : (w.setCell a u).ownsRow base e 1 v n xs := by
  refine ⟨h.1, ?_⟩
  rcases h.2 with h2 | ⟨g, cap, cur, e1, hb, hc, h3⟩
  · exact .inl h2
  · refine .inr ⟨g, cap, cur, e1, hb, ?_, h3⟩
    rw [Below.heap_setCell _ _ _ g (fun e2 => hne (by rw [e1]; simp [Value.ownBlock, e2]))]
    exact hc
/-- Block mb, made by the call, holds a struct one of whose fields is a list that the call made too. -/
structure FM (mb T nc : Nat) (f : Value → Nat → Value) (e : Nat) (L : List Value) (W1 : World) (v : Value) (w : World) : Prop where
  row : w.rowIs mb T nc (f v)
  own : w.ownsRow W1.heap.size e 1 v L.length L
  ne : v.ownBlock ≠ some mb
  bel : Below W1.heap.size W1 w
  mb1 : W1.heap.size ≤ mb
theorem FM.below {mb T nc e : Nat} {f : Value → Nat → Value} {L : List Value} {W1 w w' : World} {v : Value} (h : FM mb T nc f e L W1 v w) (hb : Below w.heap.size w w') : FM mb T nc f e L W1 v w' :=
  ⟨rowBelow h.row hb h.row.lt, ownBelow h.own hb, h.ne, h.bel.trans (hb.mono h.bel.size), h.mb1⟩
theorem FM.app {mb T nc k e : Nat} {f : Value → Nat → Value} {L : List Value} {W1 w WE w2 : World} {v v' u : Value} (h : FM mb T nc f e L W1 v w) (hE : Below w.heap.size w WE)
    (hown : w2.ownsRow W1.heap.size e 1 v' (L.length + 1) (L ++ [u])) (hg : WE.grownBy w2 v.ownBlock) (hat : v'.ownBlock = v.ownBlock ∨ v'.ownBlock = some WE.heap.size) (hf : ∀ i, i < nc → (if i = k then v' else f v i) = f v' i) :
    FM mb T nc f e (L ++ [u]) W1 v' (w2.setCell ⟨mb, k, none⟩ v') := by
  have hlt : mb < w.heap.size := h.row.lt
  have hE2 := hE.size
  have hne : v'.ownBlock ≠ some mb := by
    rcases hat with e1 | e1
    · rw [e1]; exact h.ne
    · rw [e1]; intro e2; injection e2 with e2; omega
  refine ⟨?_, ?_, hne, ?_, h.mb1⟩
  · exact (((rowBelow h.row hE hlt).of_block (hg.block mb (by omega) (fun e => h.ne e.symm))).set k _).congr fun i hi => hf i hi
  · rw [List.length_append]
    exact own_setOther hown hne
  · refine Below.setCell ((h.bel.trans (hE.mono h.bel.size)).grown hg (Nat.le_trans h.bel.size hE2) (fun k hk => (h.own.lt k hk).1)) h.mb1 _
def clF (g n : Int) (v : Value) : Nat → Value := fun j => if j = 0 then .int .i64 g else if j = 1 then .int .i64 n else v
theorem clF_alloc (w : World) (g n : Int) (a : Option Addr) (k c : Nat) : (w.alloc (.cells #[.int .i64 g, .int .i64 n, .slice a k c] 60)).rowIs w.heap.size 60 3 (clF g n (.slice a k c)) := by
  refine World.rowIs_alloc w #[.int .i64 g, .int .i64 n, .slice a k c] 60 _ ?_
  intro i hi
  have hi3 : i = 0 ∨ i = 1 ∨ i = 2 := by simp at hi; omega
  rcases hi3 with rfl | rfl | rfl <;> rfl
set_option maxRecDepth 100000 in
set_option maxHeartbeats 8000000 in
theorem laid_bad (G W H : Int) (a : Option Addr) (n c : Nat) (cs : List Int) (w : World) (hI : IsInts w a n cs) (e : Int) (he : e ≠ 0) (HT : ∀ w, IsInts w a n cs → Calls Try.prog 10 #[.agg #[.int .i64 (G), .int .i64 (W), .int .i64 (H), .slice a n c]] w fun r w' => r = .returned (.tuple #[.int .i64 (0), .int .i64 (e)]) ∧ Below w.heap.size w w') :
    Calls Try.prog 23 #[.agg #[.int .i64 (G), .int .i64 (W), .int .i64 (H), .slice a n c]] w fun r w' => r = .returned (.tuple #[.agg #[.int .i64 (0), .int .i64 (0), .slice none 0 0], .int .i64 (e)]) ∧ Below w.heap.size w w' := by
  have hb : (e != 0) = true := by simpa using he
  have HT := Lib.hid HT
  have HI := Lib.hid hI
  clear he hI
  go_enter Try.func23, Try.ntmps23
  (go_wp2_with fail; refine (HT.out _ (HI.out.below (by repeat (first | exact Below.refl _ _ | refine Below.drew ?_ | refine below_drewN ?_ _ | refine Below.alloc ?_ (by first | exact Nat.le_refl _ | (simp; done) | (simp; omega) | omega) _ | refine Below.setCell ?_ (by first | exact Nat.le_refl _ | (simp; done) | (simp; omega) | omega) _ | refine bExtW ?_ (by first | exact Nat.le_refl _ | (simp; done) | (simp; omega) | omega) | refine Below.trans ?_ (Below.mono (by assumption) (by first | exact Nat.le_refl _ | (simp; done) | (simp; omega) | omega)))))).mono ?_; rintro r w1 ⟨rfl, hb⟩; obtain ⟨E, d, rfl⟩ := bExt hb; clear hb)
  go_wp2
  refine bodyPost_ret (v := .tuple #[.agg #[.int .i64 (0), .int .i64 (0), .slice none 0 0], .int .i64 (e)]) (by simp [results, Try.results23, go_sem]) rfl ⟨rfl, (by repeat (first | exact Below.refl _ _ | refine Below.drew ?_ | refine below_drewN ?_ _ | refine Below.alloc ?_ (by first | exact Nat.le_refl _ | (simp; done) | (simp; omega) | omega) _ | refine Below.setCell ?_ (by first | exact Nat.le_refl _ | (simp; done) | (simp; omega) | omega) _ | refine bExtW ?_ (by first | exact Nat.le_refl _ | (simp; done) | (simp; omega) | omega) | refine Below.trans ?_ (Below.mono (by assumption) (by first | exact Nat.le_refl _ | (simp; done) | (simp; omega) | omega))))⟩
theorem colP_at {W H n x y : Nat} {cs : List Int} (hx : x < n) : colP W H cs (pnt n (y * n + x)) = cs.getD (y % H * W + x % W) 0 := by
  rw [pnt_at hx]
  unfold colP
  simp only
  rw [← Int.natCast_emod, ← Int.natCast_emod, Int.toNat_natCast, Int.toNat_natCast]
def laP (W H : Nat) (cs : List Int) (n m : Nat) : List Value := (List.range m).map fun j => Value.int .i64 (colP W H cs (pnt n j))
theorem laP_succ (W H : Nat) (cs : List Int) (n m : Nat) : laP W H cs n (m + 1) = laP W H cs n m ++ [.int .i64 (colP W H cs (pnt n m))] := by
  unfold laP; rw [List.range_succ, List.map_append]; rfl
theorem laP_len (W H : Nat) (cs : List Int) (n m : Nat) : (laP W H cs n m).length = m := by simp [laP]
theorem laP_all (W H : Nat) (cs : List Int) (n : Nat) : laP W H cs n (n * n) = (Z.laidL W H cs n).map i64v := by
  unfold laP Z.laidL i64v
  rw [List.map_map]; rfl
theorem FM.mid {mb T nc e : Nat} {f : Value → Nat → Value} {L : List Value} {W1 w w2 : World} {v : Value} (h : FM mb T nc f e L W1 v w) (hg : w.grownBy w2 v.ownBlock) : w2.rowIs mb T nc (f v) :=
  h.row.of_block (hg.block mb h.row.lt (fun e => h.ne e.symm))
theorem FM.start {mb T nc e : Nat} {f : Value → Nat → Value} {W1 w : World} {v : Value} (hr : w.rowIs mb T nc (f v)) (ho : w.ownsRow W1.heap.size e 1 v 0 []) (hne : v.ownBlock ≠ some mb) (hb : Below W1.heap.size W1 w) (hm : W1.heap.size ≤ mb) : FM mb T nc f e [] W1 v w := ⟨hr, ho, hne, hb, hm⟩
theorem lay1 (W1 : World) (g n : Int) (M : Nat) (hM : M ≤ 1000000000) : FM W1.heap.size 60 3 (clF g n) 3 [] W1 (.slice (some ⟨W1.heap.size + 1, 0, none⟩) 0 M) ((W1.alloc (.cells #[.int .i64 g, .int .i64 n, .slice (some ⟨W1.heap.size + 1, 0, none⟩) 0 M] 60)).alloc (.cells (madeCells #[.int .i64 0] M) 3)) := by
  have h1 := clF_alloc W1 g n (some ⟨W1.heap.size + 1, 0, none⟩) 0 M
  have h2 := (GL.made (W1.alloc (.cells #[.int .i64 g, .int .i64 n, .slice (some ⟨W1.heap.size + 1, 0, none⟩) 0 M] 60)) 3 M (.int .i64 0) hM).own
  rw [World.size_alloc] at h2
  exact ⟨rowBelow h1 ((Below.refl _ _).alloc (Nat.le_refl _) _) (by rw [World.size_alloc]; omega), own_baseV h2 (by omega), by simp [Value.ownBlock], (((Below.refl _ _).alloc (Nat.le_refl _) _).alloc (by rw [World.size_alloc]; omega) _), Nat.le_refl _⟩
theorem lay2 (W1 : World) (g n : Int) (M : Nat) (hM : M ≤ 1000000000) : FM (W1.heap.size + 1) 60 3 (clF g n) 3 [] W1 (.slice (some ⟨W1.heap.size, 0, none⟩) 0 M) ((W1.alloc (.cells (madeCells #[.int .i64 0] M) 3)).alloc (.cells #[.int .i64 g, .int .i64 n, .slice (some ⟨W1.heap.size, 0, none⟩) 0 M] 60)) := by
  have h1 := clF_alloc (W1.alloc (.cells (madeCells #[.int .i64 0] M) 3)) g n (some ⟨W1.heap.size, 0, none⟩) 0 M
  have h2 := (GL.made W1 3 M (.int .i64 0) hM).own
  rw [World.size_alloc] at h1
  exact ⟨h1, ownBelow h2 ((Below.refl _ _).alloc (Nat.le_refl _) _), by simp [Value.ownBlock], (((Below.refl _ _).alloc (Nat.le_refl _) _).alloc (by rw [World.size_alloc]; omega) _), by omega⟩
set_option maxRecDepth 100000 in
set_option maxHeartbeats 8000000 in
theorem laid_ok (G W H n N M : Nat) (a : Option Addr) (c : Nat) (cs : List Int) (w : World) (hI : IsInts w a n cs) (h : ChOk G W H n cs) (hN : torN W H = N) (h24 : N ≤ 24) (hM : N * N = M) :
    Calls Try.prog 23 #[.agg #[.int .i64 (G), .int .i64 (W), .int .i64 (H), .slice a n c]] w fun r w' => (∃ A C, r = .returned (.tuple #[.agg #[.int .i64 (G), .int .i64 (N), .slice A M C], .int .i64 (0)]) ∧ OwnI w' w.heap.size A M C (Z.laidL W H cs N)) ∧ Below w.heap.size w w' := by
  have hn4 := h.n4
  have HT := Lib.hid (fun w hI => Torus_ok G W H n a c cs w hI h)
  have hv : torV (torN W H) = .tuple #[.int .i64 (N), .int .i64 (0)] := by unfold torV; rw [hN, if_neg (by omega)]
  rw [hv] at HT
  have hpos := h.tpos
  rw [hN] at hpos
  have HI := Lib.hid hI
  have hM6 : M ≤ 576 := by rw [← hM]; exact Nat.mul_le_mul h24 h24
  have hNi : (N : Int) * (N : Int) = (M : Int) := by rw [← hM]; push_cast; rfl
  have vM : IntKind.i64.wrap (M : Int) = (M : Int) := IntWalk.i64_in _ (by omega)
  have hmk := makeCap okI8 rfl M (by omega) (by omega)
  have HALL := Lib.hid (laP_all W H cs N)
  have HLEN : Hid ((Z.laidL W H cs N).length = M) := Lib.hid (by rw [Z.laidL_len, hM])
  rw [hM] at HALL
  have hW := h.w2; have hH := h.h2; have hW1 := h.w1; have hH1 := h.h1
  have HNN := Lib.hid h.hn
  have HM := Lib.hid hM
  clear hI hn4 hv hN hM h
  go_enter Try.func23, Try.ntmps23
  (go_wp2_with fail; refine (HT.out _ (HI.out.below (by repeat (first | exact Below.refl _ _ | refine Below.drew ?_ | refine below_drewN ?_ _ | refine Below.alloc ?_ (by first | exact Nat.le_refl _ | (simp; done) | (simp; omega) | omega) _ | refine Below.setCell ?_ (by first | exact Nat.le_refl _ | (simp; done) | (simp; omega) | omega) _ | refine bExtW ?_ (by first | exact Nat.le_refl _ | (simp; done) | (simp; omega) | omega) | refine Below.trans ?_ (Below.mono (by assumption) (by first | exact Nat.le_refl _ | (simp; done) | (simp; omega) | omega)))))).mono ?_; rintro r w1 ⟨rfl, hb⟩; obtain ⟨E, d, rfl⟩ := bExt hb; clear hb)
  go_wp2_with fail
  go_region
  all_goals go_wp2_with fail
  · have hFM := lay2 (extW ((w.alloc (.cells #[.int .i64 (G : Int), .int .i64 (W : Int), .int .i64 (H : Int), .slice a n c] 24)).alloc (.cells #[.int .i64 0, .int .i64 0, .slice none 0 0] 60)) E (d + 1)) G N M (by omega)
    have hsz0 : (extW ((w.alloc (.cells #[.int .i64 (G : Int), .int .i64 (W : Int), .int .i64 (H : Int), .slice a n c] 24)).alloc (.cells #[.int .i64 0, .int .i64 0, .slice none 0 0] 60)) E (d + 1)).heap.size = w.heap.size + 1 + 1 + E.size := by simp
    rw [hsz0] at hFM
    clear hsz0
    obtain ⟨W1, hW1⟩ : ∃ W1, W1 = extW ((w.alloc (.cells #[.int .i64 (G : Int), .int .i64 (W : Int), .int .i64 (H : Int), .slice a n c] 24)).alloc (.cells #[.int .i64 0, .int .i64 0, .slice none 0 0] 60)) E (d + 1) := ⟨_, rfl⟩
    have hsz : W1.heap.size = w.heap.size + 1 + 1 + E.size := by rw [hW1, size_extW, World.size_alloc, World.size_alloc]
    obtain ⟨mb, hmb⟩ : ∃ mb, mb = (w.heap.size + 1 + 1 + E.size + 1) := ⟨_, rfl⟩
    have HF0 := Lib.hid (hFM)
    have HB1 : Hid (Below w.heap.size w W1) := Lib.hid (by rw [hW1]; exact (by repeat (first | exact Below.refl _ _ | refine Below.drew ?_ | refine below_drewN ?_ _ | refine Below.alloc ?_ (by first | exact Nat.le_refl _ | (simp; done) | (simp; omega) | omega) _ | refine Below.setCell ?_ (by first | exact Nat.le_refl _ | (simp; done) | (simp; omega) | omega) _ | refine bExtW ?_ (by first | exact Nat.le_refl _ | (simp; done) | (simp; omega) | omega) | refine Below.trans ?_ (Below.mono (by assumption) (by first | exact Nat.le_refl _ | (simp; done) | (simp; omega) | omega)))))
    have HRR : Hid (W1.rowIs (w.heap.size + 1) 60 3 (clF 0 0 (.slice none 0 0))) := Lib.hid (by
      have h1 := clF_alloc (w.alloc (.cells #[.int .i64 (G : Int), .int .i64 (W : Int), .int .i64 (H : Int), .slice a n c] 24)) 0 0 none 0 0
      rw [World.size_alloc] at h1
      rw [hW1]
      exact rowBelow h1 (bExtW (Below.refl _ _) (Nat.le_refl _)) h1.lt)
    have hs0 : w.heap.size < W1.heap.size := by omega
    have cb0 : W1.cell? ⟨w.heap.size, 0, none⟩ = some (.int .i64 (G)) := by rw [hW1]; simp [go_sem]
    have cb1 : W1.cell? ⟨w.heap.size, 1, none⟩ = some (.int .i64 (W)) := by rw [hW1]; simp [go_sem]
    have cb2 : W1.cell? ⟨w.heap.size, 2, none⟩ = some (.int .i64 (H)) := by rw [hW1]; simp [go_sem]
    have cb3 : W1.cell? ⟨w.heap.size, 3, none⟩ = some (.slice a n c) := by rw [hW1]; simp [go_sem]
    rw [← hmb]
    have HSZ : Hid (w.heap.size + 1 < W1.heap.size) := Lib.hid (by omega)
    have HW1 := Lib.hid hW1
    have HMB := Lib.hid hmb
    clear hmk hNi vM hsz hmb hW1 HT
    go_loopw [27] (fun yv wr => ∃ (y : Nat) (v : Value), y ≤ N ∧ yv = .int .i64 y ∧ Hid (FM mb 60 3 (clF G N) 3 (laP W H cs N (y * N)) W1 v wr)) (fun yv _ => N - (intOf yv).toNat)
    case atStart => exact ⟨0, _, by omega, rfl, Lib.hid (by rw [Nat.zero_mul, HW1.out, HMB.out]; exact HF0.out)⟩
    case round =>
      clear HF0
      obtain ⟨y, v, hy, rfl, HF⟩ := hrel
      have k0 := bCs (HF.out).bel cb0
      have k1 := bCs (HF.out).bel cb1
      have k2 := bCs (HF.out).bel cb2
      have k3 := bCs (HF.out).bel cb3
      have lk : LtW w.heap.size wr := Nat.lt_of_lt_of_le hs0 (HF.out).bel.size
      have hsw : W1.heap.size ≤ (wr).heap.size := (HF.out).bel.size
      have m0 : (wr).cell? ⟨mb, 0, none⟩ = some (.int .i64 (G)) := (HF.out).row.cell (i := 0) (by omega)
      have m1 : (wr).cell? ⟨mb, 1, none⟩ = some (.int .i64 (N)) := (HF.out).row.cell (i := 1) (by omega)
      have lmb : LtW mb wr := (HF.out).row.lt
      by_cases hyn : y < N
      · have vy : IntKind.i64.wrap ((y : Int) + 1) = (y : Int) + 1 := IntWalk.i64_in _ (by omega)
        have dy : decide ((y : Int) < (N : Int)) = true := by simpa using hyn
        go_wp2_with fail
        obtain ⟨wo, rfl⟩ : ∃ wo : World, wo = wr := ⟨_, rfl⟩
        go_loopw [31] (fun xv wr => ∃ (x : Nat) (v : Value), x ≤ N ∧ xv = .int .i64 x ∧ Hid (FM mb 60 3 (clF G N) 3 (laP W H cs N (y * N + x)) W1 v wr)) (fun xv _ => N - (intOf xv).toNat)
        case atStart => exact ⟨0, v, by omega, rfl, HF⟩
        case round =>
          clear k0 k1 k2 k3 lk hsw HF m0 m1 lmb
          obtain ⟨x, v, hx, rfl, HF⟩ := hrel
          have k0 := bCs (HF.out).bel cb0
          have k1 := bCs (HF.out).bel cb1
          have k2 := bCs (HF.out).bel cb2
          have k3 := bCs (HF.out).bel cb3
          have lk : LtW w.heap.size wr := Nat.lt_of_lt_of_le hs0 (HF.out).bel.size
          have hsw : W1.heap.size ≤ (wr).heap.size := (HF.out).bel.size
          have m0 : (wr).cell? ⟨mb, 0, none⟩ = some (.int .i64 (G)) := (HF.out).row.cell (i := 0) (by omega)
          have m1 : (wr).cell? ⟨mb, 1, none⟩ = some (.int .i64 (N)) := (HF.out).row.cell (i := 1) (by omega)
          have lmb : LtW mb wr := (HF.out).row.lt
          by_cases hxn : x < N
          · have vx : IntKind.i64.wrap ((x : Int) + 1) = (x : Int) + 1 := IntWalk.i64_in _ (by omega)
            have dx : decide ((x : Int) < (N : Int)) = true := by simpa using hxn
            have HS := Lib.hid (laP_succ W H cs N (y * N + x))
            have hco := colP_at (W := W) (H := H) (cs := cs) (y := y) hxn
            rw [hco] at HS
            have hlen : (laP W H cs N (y * N + x)).length ≤ 1000 := by rw [laP_len]; have := Nat.mul_le_mul (show y ≤ 24 by omega) h24; omega
            obtain ⟨L, hL⟩ : ∃ L, laP W H cs N (y * N + x) = L := ⟨_, rfl⟩
            rw [hL] at HF HS hlen
            obtain ⟨Av, cv, rfl⟩ := own_form HF.out.own
            have m2 : wr.cell? ⟨mb, 2, none⟩ = some (.slice Av L.length cv) := HF.out.row.cell (i := 2) (by omega)
            obtain ⟨r1, hr1⟩ : ∃ r, y % H = r := ⟨_, rfl⟩
            obtain ⟨r2, hr2⟩ : ∃ r, x % W = r := ⟨_, rfl⟩
            obtain ⟨Q, hQ⟩ : ∃ Q, r1 * W = Q := ⟨_, rfl⟩
            obtain ⟨p, hp⟩ : ∃ p, Q + r2 = p := ⟨_, rfl⟩
            have h1H : r1 < H := by rw [← hr1]; exact Nat.mod_lt _ hH1
            have h2W : r2 < W := by rw [← hr2]; exact Nat.mod_lt _ hW1
            have hpn : p < n := by
              have h1 : (r1 + 1) * W ≤ H * W := Nat.mul_le_mul_right W (by omega)
              have h2 : (r1 + 1) * W = r1 * W + W := Nat.succ_mul r1 W
              have h3 := HNN.out
              rw [h3, Nat.mul_comm W H]; omega
            have hn4 : n ≤ 4096 := by have h3 := HNN.out; rw [h3]; exact Nat.mul_le_mul hW hH
            have t1 : (y : Int).tmod (H : Int) = (r1 : Int) := by rw [← hr1]; rfl
            have t2 : (x : Int).tmod (W : Int) = (r2 : Int) := by rw [← hr2]; rfl
            have t3 : (r1 : Int) * (W : Int) = (Q : Int) := by rw [← hQ]; push_cast; rfl
            have t4 : (Q : Int) + (r2 : Int) = (p : Int) := by rw [← hp]; push_cast; rfl
            have u1 : IntKind.i64.wrap (r1 : Int) = (r1 : Int) := IntWalk.i64_in _ (by omega)
            have u2 : IntKind.i64.wrap (r2 : Int) = (r2 : Int) := IntWalk.i64_in _ (by omega)
            have u3 : IntKind.i64.wrap (Q : Int) = (Q : Int) := IntWalk.i64_in _ (by omega)
            have u4 : IntKind.i64.wrap (p : Int) = (p : Int) := IntWalk.i64_in _ (by omega)
            have b1 : ((W : Int) == 0) = false := by simp; omega
            have b2 : (W : Int) ≠ 0 := by omega
            have b3 : ¬ W = 0 := by omega
            have b4 : ((H : Int) == 0) = false := by simp; omega
            have b5 : (H : Int) ≠ 0 := by omega
            have b6 : ¬ H = 0 := by omega
            rw [hr1, hr2, hQ, hp] at HS
            have HIw := HI.out.below (HB1.out.trans (HF.out.bel.mono (Nat.le_of_lt hs0)))
            obtain ⟨bb, bo, rfl, hb, hc⟩ := HIw.2 (by omega)
            have c0 := hc p hpn
            have lb : LtW bb wr := hb
            obtain ⟨X, hX⟩ : ∃ X, cs.getD p 0 = X := ⟨_, rfl⟩
            rw [hX] at c0 HS
            clear hX hb hc HIw hr1 hr2 hQ hp hL hco HALL HLEN
            go_wp2_with fail
            (refine wp_region_ext_build 18 _ mkOne (.cells #[.int .i64 X] 3) (by kernel_rfl) (by kernel_rfl) rfl rfl ?_; simp only [List.take_succ_cons, List.take_zero, List.drop_succ_cons, List.drop_zero]; (repeat (first | ((with_reducible refine wpV_step (fun K hK => ?_)); go_simp; first | (refine hK _ ?_; clear hK K) | (apply Exists.intro; refine ⟨fun _ _ => ?_, hK _ ?_⟩; fail; clear hK K)))); refine wpV_nil ?_; refine ⟨fun W => by go_simp; rfl, fun E d E' d' => ?_⟩)
            have hbE := built_below wr E d (.cells #[.int .i64 X] 3) E' d'
            have HCS := Lib.hid (built_cell wr E d #[.int .i64 X] 3 E' d')
            have HFE := Lib.hid (HF.out.below hbE)
            clear hbE k0 k1 k2 k3 lk m0 m1 m2 lmb c0 lb HF hsw
            generalize extW ((extW wr E d).alloc (.cells #[.int .i64 X] 3)) E' d' = WE at *
            generalize (extW wr E d).heap.size = BB at *
            go_wp2_with (at_builtin; refine wpAppK okI8 rfl (.tmp 35) (.tmp 52) rfl W1.heap.size _ _ _ (.int .i64 X) BB rfl HFE.out.own rfl (HCS.out 0 _ rfl) rfl (by omega) (by omega) HFE.out.bel.size ?_)
            intro v' w2 hown2 hg2 hat2
            obtain ⟨A', cp', rfl⟩ := own_form hown2
            have hr2 := HFE.out.mid hg2
            have cM2 : w2.cell? ⟨mb, 2, none⟩ = some (.slice Av L.length cv) := hr2.cell (i := 2) (by omega)
            have fM2 : w2.frozen? ⟨mb, 2, none⟩ = false := hr2.frozen 2
            have lM2 : LtW mb w2 := hr2.lt
            have HNW := Lib.hid (FM.app (k := 2) HFE.out (Below.refl _ _) hown2 hg2 hat2 (fun i hi => by
              have hi3 : i = 0 ∨ i = 1 ∨ i = 2 := by omega
              rcases hi3 with rfl | rfl | rfl <;> rfl))
            clear hown2 hg2 hat2 hr2 HCS HFE
            go_wp2
            go_roundw
            case rel => exact ⟨x + 1, _, by omega, by go_num, by rw [← Nat.add_assoc, HS.out]; exact HNW⟩
            case measure => simp [intOf]; omega
          · obtain rfl : x = N := by omega
            have dx : decide ((x : Int) < (x : Int)) = false := by simp
            rw [← Nat.succ_mul] at HF
            go_wp2
            go_roundw
            case rel => exact ⟨y + 1, v, by omega, by go_num, HF⟩
            case measure => simp [intOf]; omega
      · obtain rfl : y = N := by omega
        have dy : decide ((y : Int) < (y : Int)) = false := by simp
        rw [HM.out, HALL.out] at HF
        have hml : (Z.laidL W H cs y).length = M := HLEN.out
        have ho := HF.out.own
        rw [List.length_map] at ho
        obtain ⟨A, C, rfl⟩ := own_form ho
        have hne : (Value.slice A (Z.laidL W H cs y).length C).ownBlock ≠ some (w.heap.size + 1) := by
          intro e
          have := (ho.lt _ e).1
          have := HSZ.out
          omega
        have HFIN : Hid (∀ u1 u2 u3, OwnI (((wr.setCell ⟨w.heap.size + 1, 0, none⟩ u1).setCell ⟨w.heap.size + 1, 1, none⟩ u2).setCell ⟨w.heap.size + 1, 2, none⟩ u3) w.heap.size A M C (Z.laidL W H cs y) ∧ Below w.heap.size w (((wr.setCell ⟨w.heap.size + 1, 0, none⟩ u1).setCell ⟨w.heap.size + 1, 1, none⟩ u2).setCell ⟨w.heap.size + 1, 2, none⟩ u3)) := Lib.hid fun u1 u2 u3 => by
          have h4 := own_setOther (a := ⟨w.heap.size + 1, 2, none⟩) (u := u3) (own_setOther (a := ⟨w.heap.size + 1, 1, none⟩) (u := u2) (own_setOther (a := ⟨w.heap.size + 1, 0, none⟩) (u := u1) ho hne) hne) hne
          rw [hml] at h4
          refine ⟨⟨hml, own_baseV h4 (Nat.le_of_lt hs0)⟩, ?_⟩
          have h6 := HB1.out.trans (HF.out.bel.mono (Nat.le_of_lt hs0))
          exact ((h6.setCell (p := ⟨w.heap.size + 1, 0, none⟩) (by simp) u1).setCell (p := ⟨w.heap.size + 1, 1, none⟩) (by simp) u2).setCell (p := ⟨w.heap.size + 1, 2, none⟩) (by simp) u3
        have m2 : wr.cell? ⟨mb, 2, none⟩ = some (.slice A (Z.laidL W H cs y).length C) := HF.out.row.cell (i := 2) (by omega)
        have HR2 := rowBelow HRR.out HF.out.bel HRR.out.lt
        have r0 : wr.cell? ⟨w.heap.size + 1, 0, none⟩ = some (.int .i64 (0)) := HR2.cell (i := 0) (by omega)
        have r1 : wr.cell? ⟨w.heap.size + 1, 1, none⟩ = some (.int .i64 (0)) := HR2.cell (i := 1) (by omega)
        have r2 : wr.cell? ⟨w.heap.size + 1, 2, none⟩ = some (.slice none 0 0) := HR2.cell (i := 2) (by omega)
        have f0 := HR2.frozen 0
        have f1 := HR2.frozen 1
        have f2 := HR2.frozen 2
        have lr : LtW (w.heap.size + 1) wr := HR2.lt
        rw [hml] at m2
        clear HF ho hne hml HR2 HALL HLEN
        go_wp2
        refine bodyPost_ret (v := .tuple #[.agg #[.int .i64 (G), .int .i64 (y), .slice A M C], .int .i64 (0)]) (by simp [results, Try.results23, go_sem, r0, r1, r2, lr]) rfl ⟨⟨A, C, rfl, (HFIN.out _ _ _).1⟩, (HFIN.out _ _ _).2⟩
  · have hFM := lay1 (extW ((w.alloc (.cells #[.int .i64 (G : Int), .int .i64 (W : Int), .int .i64 (H : Int), .slice a n c] 24)).alloc (.cells #[.int .i64 0, .int .i64 0, .slice none 0 0] 60)) E (d + 1)) G N M (by omega)
    have hsz0 : (extW ((w.alloc (.cells #[.int .i64 (G : Int), .int .i64 (W : Int), .int .i64 (H : Int), .slice a n c] 24)).alloc (.cells #[.int .i64 0, .int .i64 0, .slice none 0 0] 60)) E (d + 1)).heap.size = w.heap.size + 1 + 1 + E.size := by simp
    rw [hsz0] at hFM
    clear hsz0
    obtain ⟨W1, hW1⟩ : ∃ W1, W1 = extW ((w.alloc (.cells #[.int .i64 (G : Int), .int .i64 (W : Int), .int .i64 (H : Int), .slice a n c] 24)).alloc (.cells #[.int .i64 0, .int .i64 0, .slice none 0 0] 60)) E (d + 1) := ⟨_, rfl⟩
    have hsz : W1.heap.size = w.heap.size + 1 + 1 + E.size := by rw [hW1, size_extW, World.size_alloc, World.size_alloc]
    obtain ⟨mb, hmb⟩ : ∃ mb, mb = (w.heap.size + 1 + 1 + E.size) := ⟨_, rfl⟩
    have HF0 := Lib.hid (hFM)
    have HB1 : Hid (Below w.heap.size w W1) := Lib.hid (by rw [hW1]; exact (by repeat (first | exact Below.refl _ _ | refine Below.drew ?_ | refine below_drewN ?_ _ | refine Below.alloc ?_ (by first | exact Nat.le_refl _ | (simp; done) | (simp; omega) | omega) _ | refine Below.setCell ?_ (by first | exact Nat.le_refl _ | (simp; done) | (simp; omega) | omega) _ | refine bExtW ?_ (by first | exact Nat.le_refl _ | (simp; done) | (simp; omega) | omega) | refine Below.trans ?_ (Below.mono (by assumption) (by first | exact Nat.le_refl _ | (simp; done) | (simp; omega) | omega)))))
    have HRR : Hid (W1.rowIs (w.heap.size + 1) 60 3 (clF 0 0 (.slice none 0 0))) := Lib.hid (by
      have h1 := clF_alloc (w.alloc (.cells #[.int .i64 (G : Int), .int .i64 (W : Int), .int .i64 (H : Int), .slice a n c] 24)) 0 0 none 0 0
      rw [World.size_alloc] at h1
      rw [hW1]
      exact rowBelow h1 (bExtW (Below.refl _ _) (Nat.le_refl _)) h1.lt)
    have hs0 : w.heap.size < W1.heap.size := by omega
    have cb0 : W1.cell? ⟨w.heap.size, 0, none⟩ = some (.int .i64 (G)) := by rw [hW1]; simp [go_sem]
    have cb1 : W1.cell? ⟨w.heap.size, 1, none⟩ = some (.int .i64 (W)) := by rw [hW1]; simp [go_sem]
    have cb2 : W1.cell? ⟨w.heap.size, 2, none⟩ = some (.int .i64 (H)) := by rw [hW1]; simp [go_sem]
    have cb3 : W1.cell? ⟨w.heap.size, 3, none⟩ = some (.slice a n c) := by rw [hW1]; simp [go_sem]
    rw [← hmb]
    have HSZ : Hid (w.heap.size + 1 < W1.heap.size) := Lib.hid (by omega)
    have HW1 := Lib.hid hW1
    have HMB := Lib.hid hmb
    clear hmk hNi vM hsz hmb hW1 HT
    go_loopw [27] (fun yv wr => ∃ (y : Nat) (v : Value), y ≤ N ∧ yv = .int .i64 y ∧ Hid (FM mb 60 3 (clF G N) 3 (laP W H cs N (y * N)) W1 v wr)) (fun yv _ => N - (intOf yv).toNat)
    case atStart => exact ⟨0, _, by omega, rfl, Lib.hid (by rw [Nat.zero_mul, HW1.out, HMB.out]; exact HF0.out)⟩
    case round =>
      clear HF0
      obtain ⟨y, v, hy, rfl, HF⟩ := hrel
      have k0 := bCs (HF.out).bel cb0
      have k1 := bCs (HF.out).bel cb1
      have k2 := bCs (HF.out).bel cb2
      have k3 := bCs (HF.out).bel cb3
      have lk : LtW w.heap.size wr := Nat.lt_of_lt_of_le hs0 (HF.out).bel.size
      have hsw : W1.heap.size ≤ (wr).heap.size := (HF.out).bel.size
      have m0 : (wr).cell? ⟨mb, 0, none⟩ = some (.int .i64 (G)) := (HF.out).row.cell (i := 0) (by omega)
      have m1 : (wr).cell? ⟨mb, 1, none⟩ = some (.int .i64 (N)) := (HF.out).row.cell (i := 1) (by omega)
      have lmb : LtW mb wr := (HF.out).row.lt
      by_cases hyn : y < N
      · have vy : IntKind.i64.wrap ((y : Int) + 1) = (y : Int) + 1 := IntWalk.i64_in _ (by omega)
        have dy : decide ((y : Int) < (N : Int)) = true := by simpa using hyn
        go_wp2_with fail
        obtain ⟨wo, rfl⟩ : ∃ wo : World, wo = wr := ⟨_, rfl⟩
        go_loopw [31] (fun xv wr => ∃ (x : Nat) (v : Value), x ≤ N ∧ xv = .int .i64 x ∧ Hid (FM mb 60 3 (clF G N) 3 (laP W H cs N (y * N + x)) W1 v wr)) (fun xv _ => N - (intOf xv).toNat)
        case atStart => exact ⟨0, v, by omega, rfl, HF⟩
        case round =>
          clear k0 k1 k2 k3 lk hsw HF m0 m1 lmb
          obtain ⟨x, v, hx, rfl, HF⟩ := hrel
          have k0 := bCs (HF.out).bel cb0
          have k1 := bCs (HF.out).bel cb1
          have k2 := bCs (HF.out).bel cb2
          have k3 := bCs (HF.out).bel cb3
          have lk : LtW w.heap.size wr := Nat.lt_of_lt_of_le hs0 (HF.out).bel.size
          have hsw : W1.heap.size ≤ (wr).heap.size := (HF.out).bel.size
          have m0 : (wr).cell? ⟨mb, 0, none⟩ = some (.int .i64 (G)) := (HF.out).row.cell (i := 0) (by omega)
          have m1 : (wr).cell? ⟨mb, 1, none⟩ = some (.int .i64 (N)) := (HF.out).row.cell (i := 1) (by omega)
          have lmb : LtW mb wr := (HF.out).row.lt
          by_cases hxn : x < N
          · have vx : IntKind.i64.wrap ((x : Int) + 1) = (x : Int) + 1 := IntWalk.i64_in _ (by omega)
            have dx : decide ((x : Int) < (N : Int)) = true := by simpa using hxn
            have HS := Lib.hid (laP_succ W H cs N (y * N + x))
            have hco := colP_at (W := W) (H := H) (cs := cs) (y := y) hxn
            rw [hco] at HS
            have hlen : (laP W H cs N (y * N + x)).length ≤ 1000 := by rw [laP_len]; have := Nat.mul_le_mul (show y ≤ 24 by omega) h24; omega
            obtain ⟨L, hL⟩ : ∃ L, laP W H cs N (y * N + x) = L := ⟨_, rfl⟩
            rw [hL] at HF HS hlen
            obtain ⟨Av, cv, rfl⟩ := own_form HF.out.own
            have m2 : wr.cell? ⟨mb, 2, none⟩ = some (.slice Av L.length cv) := HF.out.row.cell (i := 2) (by omega)
            obtain ⟨r1, hr1⟩ : ∃ r, y % H = r := ⟨_, rfl⟩
            obtain ⟨r2, hr2⟩ : ∃ r, x % W = r := ⟨_, rfl⟩
            obtain ⟨Q, hQ⟩ : ∃ Q, r1 * W = Q := ⟨_, rfl⟩
            obtain ⟨p, hp⟩ : ∃ p, Q + r2 = p := ⟨_, rfl⟩
            have h1H : r1 < H := by rw [← hr1]; exact Nat.mod_lt _ hH1
            have h2W : r2 < W := by rw [← hr2]; exact Nat.mod_lt _ hW1
            have hpn : p < n := by
              have h1 : (r1 + 1) * W ≤ H * W := Nat.mul_le_mul_right W (by omega)
              have h2 : (r1 + 1) * W = r1 * W + W := Nat.succ_mul r1 W
              have h3 := HNN.out
              rw [h3, Nat.mul_comm W H]; omega
            have hn4 : n ≤ 4096 := by have h3 := HNN.out; rw [h3]; exact Nat.mul_le_mul hW hH
            have t1 : (y : Int).tmod (H : Int) = (r1 : Int) := by rw [← hr1]; rfl
            have t2 : (x : Int).tmod (W : Int) = (r2 : Int) := by rw [← hr2]; rfl
            have t3 : (r1 : Int) * (W : Int) = (Q : Int) := by rw [← hQ]; push_cast; rfl
            have t4 : (Q : Int) + (r2 : Int) = (p : Int) := by rw [← hp]; push_cast; rfl
            have u1 : IntKind.i64.wrap (r1 : Int) = (r1 : Int) := IntWalk.i64_in _ (by omega)
            have u2 : IntKind.i64.wrap (r2 : Int) = (r2 : Int) := IntWalk.i64_in _ (by omega)
            have u3 : IntKind.i64.wrap (Q : Int) = (Q : Int) := IntWalk.i64_in _ (by omega)
            have u4 : IntKind.i64.wrap (p : Int) = (p : Int) := IntWalk.i64_in _ (by omega)
            have b1 : ((W : Int) == 0) = false := by simp; omega
            have b2 : (W : Int) ≠ 0 := by omega
            have b3 : ¬ W = 0 := by omega
            have b4 : ((H : Int) == 0) = false := by simp; omega
            have b5 : (H : Int) ≠ 0 := by omega
            have b6 : ¬ H = 0 := by omega
            rw [hr1, hr2, hQ, hp] at HS
            have HIw := HI.out.below (HB1.out.trans (HF.out.bel.mono (Nat.le_of_lt hs0)))
            obtain ⟨bb, bo, rfl, hb, hc⟩ := HIw.2 (by omega)
            have c0 := hc p hpn
            have lb : LtW bb wr := hb
            obtain ⟨X, hX⟩ : ∃ X, cs.getD p 0 = X := ⟨_, rfl⟩
            rw [hX] at c0 HS
            clear hX hb hc HIw hr1 hr2 hQ hp hL hco HALL HLEN
            go_wp2_with fail
            (refine wp_region_ext_build 18 _ mkOne (.cells #[.int .i64 X] 3) (by kernel_rfl) (by kernel_rfl) rfl rfl ?_; simp only [List.take_succ_cons, List.take_zero, List.drop_succ_cons, List.drop_zero]; (repeat (first | ((with_reducible refine wpV_step (fun K hK => ?_)); go_simp; first | (refine hK _ ?_; clear hK K) | (apply Exists.intro; refine ⟨fun _ _ => ?_, hK _ ?_⟩; fail; clear hK K)))); refine wpV_nil ?_; refine ⟨fun W => by go_simp; rfl, fun E d E' d' => ?_⟩)
            have hbE := built_below wr E d (.cells #[.int .i64 X] 3) E' d'
            have HCS := Lib.hid (built_cell wr E d #[.int .i64 X] 3 E' d')
            have HFE := Lib.hid (HF.out.below hbE)
            clear hbE k0 k1 k2 k3 lk m0 m1 m2 lmb c0 lb HF hsw
            generalize extW ((extW wr E d).alloc (.cells #[.int .i64 X] 3)) E' d' = WE at *
            generalize (extW wr E d).heap.size = BB at *
            go_wp2_with (at_builtin; refine wpAppK okI8 rfl (.tmp 35) (.tmp 52) rfl W1.heap.size _ _ _ (.int .i64 X) BB rfl HFE.out.own rfl (HCS.out 0 _ rfl) rfl (by omega) (by omega) HFE.out.bel.size ?_)
            intro v' w2 hown2 hg2 hat2
            obtain ⟨A', cp', rfl⟩ := own_form hown2
            have hr2 := HFE.out.mid hg2
            have cM2 : w2.cell? ⟨mb, 2, none⟩ = some (.slice Av L.length cv) := hr2.cell (i := 2) (by omega)
            have fM2 : w2.frozen? ⟨mb, 2, none⟩ = false := hr2.frozen 2
            have lM2 : LtW mb w2 := hr2.lt
            have HNW := Lib.hid (FM.app (k := 2) HFE.out (Below.refl _ _) hown2 hg2 hat2 (fun i hi => by
              have hi3 : i = 0 ∨ i = 1 ∨ i = 2 := by omega
              rcases hi3 with rfl | rfl | rfl <;> rfl))
            clear hown2 hg2 hat2 hr2 HCS HFE
            go_wp2
            go_roundw
            case rel => exact ⟨x + 1, _, by omega, by go_num, by rw [← Nat.add_assoc, HS.out]; exact HNW⟩
            case measure => simp [intOf]; omega
          · obtain rfl : x = N := by omega
            have dx : decide ((x : Int) < (x : Int)) = false := by simp
            rw [← Nat.succ_mul] at HF
            go_wp2
            go_roundw
            case rel => exact ⟨y + 1, v, by omega, by go_num, HF⟩
            case measure => simp [intOf]; omega
      · obtain rfl : y = N := by omega
        have dy : decide ((y : Int) < (y : Int)) = false := by simp
        rw [HM.out, HALL.out] at HF
        have hml : (Z.laidL W H cs y).length = M := HLEN.out
        have ho := HF.out.own
        rw [List.length_map] at ho
        obtain ⟨A, C, rfl⟩ := own_form ho
        have hne : (Value.slice A (Z.laidL W H cs y).length C).ownBlock ≠ some (w.heap.size + 1) := by
          intro e
          have := (ho.lt _ e).1
          have := HSZ.out
          omega
        have HFIN : Hid (∀ u1 u2 u3, OwnI (((wr.setCell ⟨w.heap.size + 1, 0, none⟩ u1).setCell ⟨w.heap.size + 1, 1, none⟩ u2).setCell ⟨w.heap.size + 1, 2, none⟩ u3) w.heap.size A M C (Z.laidL W H cs y) ∧ Below w.heap.size w (((wr.setCell ⟨w.heap.size + 1, 0, none⟩ u1).setCell ⟨w.heap.size + 1, 1, none⟩ u2).setCell ⟨w.heap.size + 1, 2, none⟩ u3)) := Lib.hid fun u1 u2 u3 => by
          have h4 := own_setOther (a := ⟨w.heap.size + 1, 2, none⟩) (u := u3) (own_setOther (a := ⟨w.heap.size + 1, 1, none⟩) (u := u2) (own_setOther (a := ⟨w.heap.size + 1, 0, none⟩) (u := u1) ho hne) hne) hne
          rw [hml] at h4
          refine ⟨⟨hml, own_baseV h4 (Nat.le_of_lt hs0)⟩, ?_⟩
          have h6 := HB1.out.trans (HF.out.bel.mono (Nat.le_of_lt hs0))
          exact ((h6.setCell (p := ⟨w.heap.size + 1, 0, none⟩) (by simp) u1).setCell (p := ⟨w.heap.size + 1, 1, none⟩) (by simp) u2).setCell (p := ⟨w.heap.size + 1, 2, none⟩) (by simp) u3
        have m2 : wr.cell? ⟨mb, 2, none⟩ = some (.slice A (Z.laidL W H cs y).length C) := HF.out.row.cell (i := 2) (by omega)
        have HR2 := rowBelow HRR.out HF.out.bel HRR.out.lt
        have r0 : wr.cell? ⟨w.heap.size + 1, 0, none⟩ = some (.int .i64 (0)) := HR2.cell (i := 0) (by omega)
        have r1 : wr.cell? ⟨w.heap.size + 1, 1, none⟩ = some (.int .i64 (0)) := HR2.cell (i := 1) (by omega)
        have r2 : wr.cell? ⟨w.heap.size + 1, 2, none⟩ = some (.slice none 0 0) := HR2.cell (i := 2) (by omega)
        have f0 := HR2.frozen 0
        have f1 := HR2.frozen 1
        have f2 := HR2.frozen 2
        have lr : LtW (w.heap.size + 1) wr := HR2.lt
        rw [hml] at m2
        clear HF ho hne hml HR2 HALL HLEN
        go_wp2
        refine bodyPost_ret (v := .tuple #[.agg #[.int .i64 (G), .int .i64 (y), .slice A M C], .int .i64 (0)]) (by simp [results, Try.results23, go_sem, r0, r1, r2, lr]) rfl ⟨⟨A, C, rfl, (HFIN.out _ _ _).1⟩, (HFIN.out _ _ _).2⟩
end Go.Proofs.Ytooilennejakhaa
