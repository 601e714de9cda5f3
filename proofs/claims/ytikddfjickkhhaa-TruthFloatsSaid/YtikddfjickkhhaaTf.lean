/- Lemmas and contracts of functions (what each call returns, and that it changes nothing that was there) that the proof of a law of this seat uses; each lemma states its own conditions. -/
import Derived.Test.YtikddfjickkhhaaTfM
import Derived.Test.YtikddfjickkhhaaFB
import Derived.Test.YtikddfjickkhhaaLo3
import Derived.Test.YtikddfjickkhhaaTp
import Derived.Deep.DeepCutAuto
namespace Go.Proofs.Ytikddfjickkhhaa
open Go.RowKit
set_option linter.unusedVariables false
set_option linter.unusedSimpArgs false
open Lo
theorem scan_step {W y x p : Nat} {bs : List Bool} (hx : x < W) (hp : y * W + x = p) : (scanTo (rf false W bs y) 0 0 (x+1)).1 = if bs.getD p false then 0 else (scanTo (rf false W bs y) 0 0 x).1 + 1 := by
  have e : rf false W bs y (0 + x) = !bs.getD p false := by unfold rf; rw [Nat.zero_add, Nat.mod_eq_of_lt hx, hp]; cases bs.getD p false <;> rfl
  rw [scanTo, e]
  cases bs.getD p false <;> rfl
theorem FB.start {base mb : Nat} {W H : Int} {w : World} (hr : w.rowIs mb 26 3 (tF W H (.slice none 0 0))) (hb : base = w.heap.size) : FB base mb W H [] w (.slice none 0 0) w :=
  ⟨hr, World.ownsRow_nil _ _ _ _, BelowX.refl (by omega)⟩
set_option maxRecDepth 100000 in
set_option maxHeartbeats 8000000 in
theorem floats_bad (W H : Int) (a : Option Addr) (n c : Nat) (bs : List Bool) (s : Int) (w : World) (hT : OkT w a n c bs) (h1 : (-9223372036854775808 ≤ W ∧ W ≤ 9223372036854775807)) (h2 : (-9223372036854775808 ≤ H ∧ H ≤ 9223372036854775807)) (he : flE W H n ≠ 0) :
    Calls Try.prog 9 #[.agg #[.int .i64 (W), .int .i64 (H), .slice a n c], .int .i64 (s)] w fun e w' => e = .returned (.bool true) ∧ Below w.heap.size w w' := by
  have HF := Lib.hid (fun w h => Floats_bad W H a n c bs w h h1 h2 he)
  have hb : (flE W H n != 0) = true := by simpa using he
  have HT := Lib.hid hT
  clear hT he
  generalize flE W H n = fe at *
  go_enter Try.func9, Try.ntmps9
  (go_wp2_with fail; refine (alive5_any _).mono ?_; rintro r w1 ⟨rfl, hb⟩; obtain ⟨E, d, rfl⟩ := bExt hb; clear hb)
  (go_wp2_with fail; refine (HF.out _ (HT.out.below (by repeat (first | exact Below.refl _ _ | refine Below.drew ?_ | refine below_drewN ?_ _ | refine Below.alloc ?_ (by first | exact Nat.le_refl _ | (simp; done) | (simp; omega) | omega) _ | refine Below.setCell ?_ (by first | exact Nat.le_refl _ | (simp; done) | (simp; omega) | omega) _ | refine bExtW ?_ (by first | exact Nat.le_refl _ | (simp; done) | (simp; omega) | omega) | refine Below.trans ?_ (Below.mono (by assumption) (by first | exact Nat.le_refl _ | (simp; done) | (simp; omega) | omega)))))).mono ?_; rintro r w1 ⟨rfl, hb⟩; obtain ⟨E, d, rfl⟩ := bExt hb; clear hb)
  go_wp2
  go_ret
  exact ⟨rfl, (by repeat (first | exact Below.refl _ _ | refine Below.drew ?_ | refine below_drewN ?_ _ | refine Below.alloc ?_ (by first | exact Nat.le_refl _ | (simp; done) | (simp; omega) | omega) _ | refine Below.setCell ?_ (by first | exact Nat.le_refl _ | (simp; done) | (simp; omega) | omega) _ | refine bExtW ?_ (by first | exact Nat.le_refl _ | (simp; done) | (simp; omega) | omega) | refine Below.trans ?_ (Below.mono (by assumption) (by first | exact Nat.le_refl _ | (simp; done) | (simp; omega) | omega))))⟩
set_option maxRecDepth 100000 in
set_option maxHeartbeats 8000000 in
theorem floats_ok (W H n : Nat) (hn : n = W * H) (a : Option Addr) (c : Nat) (bs : List Bool) (s : Int) (w : World) (hT : OkT w a n c bs) (hW : W ≤ 64) (hH : H ≤ 64) (hW0 : 0 < W) (hH0 : 0 < H) (hs : (-9223372036854775808 ≤ s ∧ s ≤ 9223372036854775807)) :
    Calls Try.prog 9 #[.agg #[.int .i64 (W), .int .i64 (H), .slice a n c], .int .i64 (s)] w fun e w' => e = .returned (.bool true) ∧ Below w.heap.size w w' := by
  have HF := Lib.hid (fun w h => Floats_ok W H n hn a c bs w h hW hH hW0 hH0)
  obtain ⟨S, hS⟩ : ∃ S : Nat, (S : Int) = max s 0 := ⟨(max s 0).toNat, by omega⟩
  obtain ⟨sm, hsm⟩ : ∃ sm : Nat, S % W = sm := ⟨_, rfl⟩
  have hsm2 : (S : Int).tmod (W : Int) = (sm : Int) := by rw [← hsm]; rfl
  have hsmW : sm < W := by rw [← hsm]; exact Nat.mod_lt _ hW0
  have HO := Lib.hid (fun w a c h => Floats_ok H W n (by rw [hn, Nat.mul_comm]) a c (bT (otF W H bs) (W * H)) w h hH hW hH0 hW0)
  have HM := Lib.hid (fun w a c h => Floats_ok W H n hn a c (bT (mvF W sm bs) (W * H)) w h hW hH hW0 hH0)
  rw [fl_1 hW0, fl_2 hH0] at HO
  rw [fl_3 hW0 hH0, fl_4 hW0] at HM
  have HN := Lib.hid hn
  have hn4 : n ≤ 4096 := by rw [hn]; exact mul64n hW hH
  have HT := Lib.hid hT
  have HL5 := Lib.hid (fun y x (hy : y < H) (hx : x ≤ W) => fl_5 (W := W) (H := H) (y := y) (x := x) (bs := bs) hy hx hW hW0)
  have hbW : ((W : Int) == 0) = false := by simp; omega
  have hn0 : 0 < n := by rw [hn]; exact Nat.mul_pos hW0 hH0
  clear hT hn
  generalize longV true H W (turnL W H bs) = down at *
  generalize longV false W H bs = along at *
  obtain ⟨BO, hBO⟩ : ∃ B, bT (otF W H bs) (W * H) = B := ⟨_, rfl⟩
  obtain ⟨BM, hBM⟩ : ∃ B, bT (mvF W sm bs) (W * H) = B := ⟨_, rfl⟩
  rw [hBO] at HO
  rw [hBM] at HM
  have HBO := Lib.hid hBO
  have HBM := Lib.hid hBM
  clear hBO hBM
  go_enter Try.func9, Try.ntmps9
  go_wp2_with fail
  refine (alive5_any _).mono ?_
  rintro r w1 ⟨rfl, hb⟩
  obtain ⟨E1, d1, rfl⟩ := bExt hb
  clear hb
  go_wp2_with fail
  refine (HF.out _ (HT.out.below (by repeat (first | exact Below.refl _ _ | refine Below.drew ?_ | refine below_drewN ?_ _ | refine Below.alloc ?_ (by first | exact Nat.le_refl _ | (simp; done) | (simp; omega) | omega) _ | refine Below.setCell ?_ (by first | exact Nat.le_refl _ | (simp; done) | (simp; omega) | omega) _ | refine bExtW ?_ (by first | exact Nat.le_refl _ | (simp; done) | (simp; omega) | omega) | refine Below.trans ?_ (Below.mono (by assumption) (by first | exact Nat.le_refl _ | (simp; done) | (simp; omega) | omega)))))).mono ?_
  rintro r w1 ⟨rfl, hb⟩
  obtain ⟨E2, d2, rfl⟩ := bExt hb
  clear hb
  go_upto_if 43 with fail
  have hq0 := tF_alloc w W H (.slice a n c) rfl
  have hbC : Below (w.heap.size + 1) (w.alloc (.cells #[.int .i64 (W), .int .i64 (H), .slice a n c] 26)) (extW (extW (w.alloc (.cells #[.int .i64 (W), .int .i64 (H), .slice a n c] 26)) E1 d1) E2 d2) := (by repeat (first | exact Below.refl _ _ | refine Below.drew ?_ | refine below_drewN ?_ _ | refine Below.alloc ?_ (by first | exact Nat.le_refl _ | (simp; done) | (simp; omega) | omega) _ | refine Below.setCell ?_ (by first | exact Nat.le_refl _ | (simp; done) | (simp; omega) | omega) _ | refine bExtW ?_ (by first | exact Nat.le_refl _ | (simp; done) | (simp; omega) | omega) | refine Below.trans ?_ (Below.mono (by assumption) (by first | exact Nat.le_refl _ | (simp; done) | (simp; omega) | omega))))
  have hbw0 : Below w.heap.size w (extW (extW (w.alloc (.cells #[.int .i64 (W), .int .i64 (H), .slice a n c] 26)) E1 d1) E2 d2) := (by repeat (first | exact Below.refl _ _ | refine Below.drew ?_ | refine below_drewN ?_ _ | refine Below.alloc ?_ (by first | exact Nat.le_refl _ | (simp; done) | (simp; omega) | omega) _ | refine Below.setCell ?_ (by first | exact Nat.le_refl _ | (simp; done) | (simp; omega) | omega) _ | refine bExtW ?_ (by first | exact Nat.le_refl _ | (simp; done) | (simp; omega) | omega) | refine Below.trans ?_ (Below.mono (by assumption) (by first | exact Nat.le_refl _ | (simp; done) | (simp; omega) | omega))))
  have hq1 := rowBelow hq0 hbC (Nat.lt_succ_self _)
  have hszC : w.heap.size + 1 ≤ (extW (extW (w.alloc (.cells #[.int .i64 (W), .int .i64 (H), .slice a n c] 26)) E1 d1) E2 d2).heap.size := by have := hbC.size; rwa [World.size_alloc] at this
  have hszE : (extW (extW (w.alloc (.cells #[.int .i64 (W), .int .i64 (H), .slice a n c] 26)) E1 d1) E2 d2).heap.size = w.heap.size + 1 + E1.size + E2.size := by simp
  generalize extW (extW (w.alloc (.cells #[.int .i64 (W), .int .i64 (H), .slice a n c] 26)) E1 d1) E2 d2 = WC at *
  have hW3q := (hq1.alloc (.cells #[.int .i64 (H), .int .i64 (W), .slice none 0 0] 26)).alloc (.cells #[.int .i64 (W), .int .i64 (H), .slice none 0 0] 26)
  have hW3o := (tF_alloc WC H W (.slice none 0 0) rfl).alloc (.cells #[.int .i64 (W), .int .i64 (H), .slice none 0 0] 26)
  have hW3m := tF_alloc (WC.alloc (.cells #[.int .i64 (H), .int .i64 (W), .slice none 0 0] 26)) W H (.slice none 0 0) rfl
  rw [World.size_alloc] at hW3m
  have hW3b : Below w.heap.size w ((WC.alloc (.cells #[.int .i64 (H), .int .i64 (W), .slice none 0 0] 26)).alloc (.cells #[.int .i64 (W), .int .i64 (H), .slice none 0 0] 26)) := (hbw0.alloc hbw0.size _).alloc (by simp; have := hbw0.size; omega) _
  have hsz3 : ((WC.alloc (.cells #[.int .i64 (H), .int .i64 (W), .slice none 0 0] 26)).alloc (.cells #[.int .i64 (W), .int .i64 (H), .slice none 0 0] 26)).heap.size = WC.heap.size + 2 := by simp
  generalize (WC.alloc (.cells #[.int .i64 (H), .int .i64 (W), .slice none 0 0] 26)).alloc (.cells #[.int .i64 (W), .int .i64 (H), .slice none 0 0] 26) = W3 at *
  rw [hszE] at hW3o hW3m hsz3 hszC
  obtain ⟨ob, ho⟩ : ∃ ob, w.heap.size + 1 + E1.size + E2.size = ob := ⟨_, rfl⟩
  obtain ⟨mb, hm⟩ : ∃ mb, ob + 1 = mb := ⟨_, rfl⟩
  obtain ⟨q, hq⟩ : ∃ q, q = w.heap.size := ⟨_, rfl⟩
  rw [ho] at hW3o hW3m hsz3 hszC ⊢
  rw [hm] at hW3m ⊢
  rw [← hq] at hW3q hW3b hszC ⊢
  obtain ⟨base, hbase⟩ : ∃ b, b = W3.heap.size := ⟨_, rfl⟩
  have hob : base = ob + 2 := by omega
  have HQ := Lib.hid hW3q
  have HO3 := Lib.hid hW3o
  have HM3 := Lib.hid hW3m
  have HB3 := Lib.hid hW3b
  have HBS := Lib.hid hbase
  have HOB := Lib.hid hob
  have HQW := Lib.hid hq
  clear hW3q hW3o hW3m hW3b hsz3 hbase hq1 hq0 hbC hbw0 hq HF ho hszE
  go_cut [1] (fun x wx => x = .int .i64 (S) ∧ wx = W3)
  case first =>
    by_cases hs0 : s < 0
    · have hS0 : (S : Int) = 0 := by omega
      have hd : decide (s < 0) = true := by simpa using hs0
      go_wp2_with fail
      go_meet
      exact ⟨by rw [hS0], rfl⟩
    · have hS0 : (S : Int) = s := by omega
      have hd : decide (s < 0) = false := by simpa using hs0
      go_wp2_with fail
      go_meet
      exact ⟨by rw [hS0], rfl⟩
  obtain ⟨rfl, rfl⟩ := hcut
  have q0 : wc.cell? ⟨q, 0, none⟩ = some (.int .i64 (W)) := HQ.out.cell (i := 0) (by omega)
  have hgq : q < ob := by omega
  have hmbb : mb < base := by omega
  have hom : ob < mb := by omega
  clear hm
  obtain ⟨i0, hi0, hz0, hz1, hz2⟩ := info_parts okBools.2.1
  have vsm : IntKind.i64.wrap (sm : Int) = (sm : Int) := IntWalk.i64_in _ (by omega)
  have hSM := Lib.hid hsm
  have hB0 : Hid (∀ {w' : World}, BelowX base ob wc w' → Below w.heap.size w w') := Lib.hid fun h => by
    have h1 := HB3.out
    rw [HQW.out] at h1
    exact h1.trans ((h.below HBS.out.symm (Nat.le_refl _) (by have := HOB.out; omega)).mono (by have := HQW.out; omega))
  clear hS hsm hob hszC
  go_wp2_with fail
  have HSM2 := Lib.hid hsm2
  clear q0 hsm2
  go_loopw [10] (fun i wr => ∃ (x : Nat) (v : Value), x ≤ W ∧ i = .int .i64 x ∧ FB base ob H W (bT (otF W H bs) (x * H)) wc v wr) (fun i _ => W - (intOf i).toNat)
  case atStart => exact ⟨0, _, Nat.zero_le _, rfl, by rw [Nat.zero_mul]; exact FB.start HO3.out HBS.out⟩
  case round =>
    obtain ⟨x, v, hx, rfl, hfb⟩ := hrel
    have hbel := hfb.bel
    have rq := hbel.rowIs HQ.out (by have := HOB.out; omega) (by omega)
    have q0 : wr.cell? ⟨q, 0, none⟩ = some (.int .i64 (W)) := rq.cell (i := 0) (by omega)
    have HFB := Lib.hid hfb
    clear hfb hbel rq
    by_cases hxW : x < W
    · go_wp2_with fail
      clear q0
      go_loopw [11] (fun i wr => ∃ (y : Nat) (v : Value), y ≤ H ∧ i = .int .i64 y ∧ FB base ob H W (bT (otF W H bs) (x * H + y)) wc v wr) (fun i _ => H - (intOf i).toNat)
      case atStart => exact ⟨0, v, Nat.zero_le _, rfl, HFB.out⟩
      case round =>
        clear HFB
        obtain ⟨y, v, hy, rfl, hfb⟩ := hrel
        have hbel := hfb.bel
        have rq := hbel.rowIs HQ.out (by have := HOB.out; omega) (by omega)
        have q0 : wr.cell? ⟨q, 0, none⟩ = some (.int .i64 (W)) := rq.cell (i := 0) (by omega)
        have q1 : wr.cell? ⟨q, 1, none⟩ = some (.int .i64 (H)) := rq.cell (i := 1) (by omega)
        have q2 : wr.cell? ⟨q, 2, none⟩ = some (.slice a n c) := rq.cell (i := 2) (by omega)
        have hfb2 := Lib.hid hfb
        clear hfb hbel rq
        by_cases hyH : y < H
        · obtain ⟨b, o, rfl, hb, hc⟩ := (HT.out.bits.below (hB0.out hfb2.out.bel)).2 (by omega)
          obtain ⟨M, hM⟩ : ∃ M, y * W = M := ⟨_, rfl⟩
          have hmul : (y : Int) * (W : Int) = (M : Int) := by rw [← Int.natCast_mul, hM]
          obtain ⟨p, hp⟩ : ∃ p, M + x = p := ⟨_, rfl⟩
          have hadd : (M : Int) + (x : Int) = (p : Int) := by omega
          have hlt : p < n := by rw [HN.out, ← hp, ← hM]; exact place_lt' hxW hyH
          have cb := hc p hlt
          obtain ⟨hr0, ho0, hx0⟩ := hfb2.out
          obtain ⟨P, hP⟩ : ∃ P, x * H + y = P := ⟨_, rfl⟩
          have hPn : P < n := by rw [← hP, HN.out, Nat.mul_comm W H]; exact place_lt' hyH hxW
          have HBT := Lib.hid (bT_succ (otF W H bs) P)
          rw [show otF W H bs P = !bs.getD p false by rw [← hP, otF_at hyH, hM, hp]] at HBT
          rw [bT_len, hP] at ho0
          have HP := Lib.hid hP
          have cM : wr.cell? ⟨ob, 2, none⟩ = some v := hr0.cell (i := 2) (by omega)
          have fM := hr0.frozen 2
          have lm : LtW ob wr := hr0.lt
          have lb2 : LtW b wr := hb
          have lq : LtW q wr := by have := hr0.lt; unfold LtW; omega
          have HO := Lib.hid ho0
          have HX := Lib.hid hx0
          have HR := Lib.hid hr0
          have hxs := hx0.size
          clear hr0 ho0 hx0 hfb2 hP hM hc
          have HPX := Lib.hid hp
          clear hp
          generalize bT (otF W H bs) P = L at *
          generalize bs.getD p false = bit at *
          have v1 : IntKind.i64.wrap (M : Int) = (M : Int) := IntWalk.i64_in _ (by omega)
          have v2 : IntKind.i64.wrap (p : Int) = (p : Int) := IntWalk.i64_in _ (by omega)
          have g0 : (0 : Int) ≤ (p : Int) := by omega
          have g1 : (p : Int) < (n : Int) := by omega
          have k1 : P + 1 ≤ maxLen := by unfold maxLen; omega
          have k2 : (P + 1) * 1 ≤ 140737488355328 := by omega
          go_wp2_with fail
          (refine wp_region_ext_build 13 _ mkOne (.cells #[.bool (!bit)] 4) (by kernel_rfl) (by kernel_rfl) rfl rfl ?_; simp only [List.take_succ_cons, List.take_zero, List.drop_succ_cons, List.drop_zero]; (repeat (first | ((with_reducible refine wpV_step (fun K hK => ?_)); go_simp; first | (refine hK _ ?_; clear hK K) | (apply Exists.intro; refine ⟨fun _ _ => ?_, hK _ ?_⟩; fail; clear hK K)))); refine wpV_nil ?_; refine ⟨fun W => by go_simp; rfl, fun E d E' d' => ?_⟩)
          have hbE := built_below wr E d (.cells #[.bool (!bit)] 4) E' d'
          have HCS := Lib.hid (built_cell wr E d #[.bool (!bit)] 4 E' d')
          have cME := bCs hbE cM
          have fME := (hbE.frozen (p := ⟨ob, 2, none⟩) (show ob < wr.heap.size from lm)).trans fM
          have HOE := Lib.hid (ownBelow HO.out hbE)
          have hgE := Nat.le_trans HX.out.size hbE.size
          have HBE := Lib.hid hbE
          clear hbE cM fM
          generalize extW ((extW wr E d).alloc (.cells #[.bool (!bit)] 4)) E' d' = WE at *
          generalize (extW wr E d).heap.size = BB at *
          go_wp2_with (at_builtin; refine wpAppB okBools rfl (.tmp 61) (.tmp 73) rfl base _ _ _ #[.bool (!bit)] BB rfl HOE.out rfl HCS.out rfl ?_ (by omega) (by omega) (by omega) ?_)
          · simp [Value.oneCell']
          intro v' w2 hown2 hb2
          obtain ⟨A', cp', rfl⟩ := own_form hown2
          have cM2 : w2.cell? ⟨ob, 2, none⟩ = some v := (hb2.cell (p := ⟨ob, 2, none⟩) (by simp; omega)).trans cME
          have fM2 : w2.frozen? ⟨ob, 2, none⟩ = false := (hb2.frozen (p := ⟨ob, 2, none⟩) (by simp; omega)).trans fME
          have HNW := Lib.hid (FB.app HR.out HX.out HBE.out (by omega) hown2 hb2)
          clear hown2 hb2 cME fME
          go_wp2
          go_roundw
          case rel => exact ⟨y + 1, _, by omega, by go_num, by rw [show x * H + (y + 1) = P + 1 by have := HP.out; omega, HBT.out]; exact HNW.out⟩
          case measure => simp [intOf]; omega
        · obtain rfl : y = H := by omega
          go_wp2
          go_roundw
          case rel => exact ⟨x + 1, v, by omega, by go_num, by rw [Nat.add_mul, Nat.one_mul]; exact hfb2.out⟩
          case measure => simp [intOf]; omega
    · obtain rfl : W = x := by omega
      have h9 := HFB.out
      obtain ⟨hr9, ho9, hx9⟩ := h9
      rw [HBO.out] at ho9
      have hlo : BO.length = n := by rw [← HBO.out, bT_len, HN.out]
      obtain ⟨a1, c1, rfl, hT1, hg1⟩ := OkT.of_owns ho9
      rw [hlo] at hr9 hT1
      have HT1 := Lib.hid hT1
      have HR1 := Lib.hid hr9
      have HG1 := Lib.hid hg1
      have HQ1 := Lib.hid (hx9.rowIs HQ.out (by omega) (by omega))
      have HM1 := Lib.hid (hx9.rowIs HM3.out (by omega) (by omega))
      have HB1 := Lib.hid (hB0.out hx9)
      have hsz9 := hx9.size
      clear hr9 ho9 hx9 hlo hT1 hg1 HFB HO3 HM3 HQ HBO hB0 HB3 HBS
      generalize wr = W1 at *
      obtain ⟨base2, hbs2⟩ : ∃ b, b = W1.heap.size := ⟨_, rfl⟩
      have hsz1 : base ≤ base2 := by omega
      have HBS2 := Lib.hid hbs2
      have hB2 : Hid (∀ {w' : World}, BelowX base2 mb W1 w' → Below w.heap.size w w') := Lib.hid fun h =>
        HB1.out.trans ((h.below HBS2.out.symm (Nat.le_refl _) (by omega)).mono (by have := HQW.out; omega))
      clear hbs2 hsz9
      go_wp2_with fail
      clear q0
      go_loopw [12] (fun i wr => ∃ (y : Nat) (v : Value), y ≤ H ∧ i = .int .i64 y ∧ FB base2 mb W H (bT (mvF W sm bs) (y * W)) W1 v wr) (fun i _ => H - (intOf i).toNat)
      case atStart => exact ⟨0, _, Nat.zero_le _, rfl, by rw [Nat.zero_mul]; exact FB.start HM1.out HBS2.out⟩
      case round =>
        obtain ⟨y, v, hy, rfl, hfb⟩ := hrel
        have hbel := hfb.bel
        have rq := hbel.rowIs HQ1.out (by omega) (by omega)
        have q1 : wr.cell? ⟨q, 1, none⟩ = some (.int .i64 (H)) := rq.cell (i := 1) (by omega)
        have HFB := Lib.hid hfb
        clear hfb hbel rq
        by_cases hyH : y < H
        · go_wp2_with fail
          clear q1
          go_loopw [13] (fun i wr => ∃ (x : Nat) (v : Value), x ≤ W ∧ i = .int .i64 x ∧ FB base2 mb W H (bT (mvF W sm bs) (y * W + x)) W1 v wr) (fun i _ => W - (intOf i).toNat)
          case atStart => exact ⟨0, v, Nat.zero_le _, rfl, HFB.out⟩
          case round =>
            clear HFB
            obtain ⟨x, v, hx, rfl, hfb⟩ := hrel
            have hbel := hfb.bel
            have rq := hbel.rowIs HQ1.out (by omega) (by omega)
            have q0 : wr.cell? ⟨q, 0, none⟩ = some (.int .i64 (W)) := rq.cell (i := 0) (by omega)
            have q2 : wr.cell? ⟨q, 2, none⟩ = some (.slice a n c) := rq.cell (i := 2) (by omega)
            have hfb2 := Lib.hid hfb
            clear hfb hbel rq
            by_cases hxW : x < W
            · obtain ⟨b, o, rfl, hb, hc⟩ := (HT.out.bits.below (hB2.out hfb2.out.bel)).2 (by omega)
              obtain ⟨M, hM⟩ : ∃ M, y * W = M := ⟨_, rfl⟩
              have hmul : (y : Int) * (W : Int) = (M : Int) := by rw [← Int.natCast_mul, hM]
              obtain ⟨t, ht⟩ : ∃ t, x + sm = t := ⟨_, rfl⟩
              have hadd0 : (x : Int) + (sm : Int) = (t : Int) := by omega
              obtain ⟨r, hr⟩ : ∃ r, t % W = r := ⟨_, rfl⟩
              have hrW : r < W := by rw [← hr]; exact Nat.mod_lt _ hW0
              have hrem : (t : Int).tmod (W : Int) = (r : Int) := by rw [← hr]; rfl
              obtain ⟨p, hp⟩ : ∃ p, M + r = p := ⟨_, rfl⟩
              have hadd : (M : Int) + (r : Int) = (p : Int) := by omega
              have hlt : p < n := by rw [HN.out, ← hp, ← hM]; exact place_lt' hrW hyH
              have cb := hc p hlt
              obtain ⟨hr0, ho0, hx0⟩ := hfb2.out
              obtain ⟨P, hP⟩ : ∃ P, y * W + x = P := ⟨_, rfl⟩
              have hPn : P < n := by rw [← hP, HN.out]; exact place_lt' hxW hyH
              have HBT := Lib.hid (bT_succ (mvF W sm bs) P)
              rw [show mvF W sm bs P = bs.getD p false by rw [← hP, mvF_at hxW, ht, hr, hM, hp]] at HBT
              rw [bT_len, hP] at ho0
              have HP := Lib.hid hP
              have cM : wr.cell? ⟨mb, 2, none⟩ = some v := hr0.cell (i := 2) (by omega)
              have fM := hr0.frozen 2
              have lm : LtW mb wr := hr0.lt
              have lb2 : LtW b wr := hb
              have lq : LtW q wr := by have := hr0.lt; unfold LtW; omega
              have HO := Lib.hid ho0
              have HX := Lib.hid hx0
              have HR := Lib.hid hr0
              have hxs := hx0.size
              have ht64 : t ≤ 128 := by omega
              clear hr0 ho0 hx0 hfb2 hP hM hc hr ht
              have HPX := Lib.hid hp
              clear hp
              generalize bT (mvF W sm bs) P = L at *
              generalize bs.getD p false = bit at *
              have v1 : IntKind.i64.wrap (M : Int) = (M : Int) := IntWalk.i64_in _ (by omega)
              have v2 : IntKind.i64.wrap (p : Int) = (p : Int) := IntWalk.i64_in _ (by omega)
              have v3 : IntKind.i64.wrap (t : Int) = (t : Int) := IntWalk.i64_in _ (by omega)
              have v4 : IntKind.i64.wrap (r : Int) = (r : Int) := IntWalk.i64_in _ (by omega)
              have g0 : (0 : Int) ≤ (p : Int) := by omega
              have g1 : (p : Int) < (n : Int) := by omega
              have hN0 : ((W : Int) == 0) = false := by simp; omega
              have hN1 : (W : Int) ≠ 0 := by omega
              have hN3 : ¬ W = 0 := by omega
              go_wp2_with fail
              (refine wp_region_ext_build 17 _ mkOne (.cells #[.bool (bit)] 4) (by kernel_rfl) (by kernel_rfl) rfl rfl ?_; simp only [List.take_succ_cons, List.take_zero, List.drop_succ_cons, List.drop_zero]; (repeat (first | ((with_reducible refine wpV_step (fun K hK => ?_)); go_simp; first | (refine hK _ ?_; clear hK K) | (apply Exists.intro; refine ⟨fun _ _ => ?_, hK _ ?_⟩; fail; clear hK K)))); refine wpV_nil ?_; refine ⟨fun W => by go_simp; rfl, fun E d E' d' => ?_⟩)
              have hbE := built_below wr E d (.cells #[.bool (bit)] 4) E' d'
              have HCS := Lib.hid (built_cell wr E d #[.bool (bit)] 4 E' d')
              have cME := bCs hbE cM
              have fME := (hbE.frozen (p := ⟨mb, 2, none⟩) (show mb < wr.heap.size from lm)).trans fM
              have HOE := Lib.hid (ownBelow HO.out hbE)
              have hgE := Nat.le_trans HX.out.size hbE.size
              have HBE := Lib.hid hbE
              clear hbE cM fM
              generalize extW ((extW wr E d).alloc (.cells #[.bool (bit)] 4)) E' d' = WE at *
              generalize (extW wr E d).heap.size = BB at *
              go_wp2_with (at_builtin; refine wpAppB okBools rfl (.tmp 89) (.tmp 105) rfl base2 _ _ _ #[.bool (bit)] BB rfl HOE.out rfl HCS.out rfl ?_ (by omega) (by omega) (by omega) ?_)
              · simp [Value.oneCell']
              intro v' w2 hown2 hb2
              obtain ⟨A', cp', rfl⟩ := own_form hown2
              have cM2 : w2.cell? ⟨mb, 2, none⟩ = some v := (hb2.cell (p := ⟨mb, 2, none⟩) (by simp; omega)).trans cME
              have fM2 : w2.frozen? ⟨mb, 2, none⟩ = false := (hb2.frozen (p := ⟨mb, 2, none⟩) (by simp; omega)).trans fME
              have HNW := Lib.hid (FB.app HR.out HX.out HBE.out (by omega) hown2 hb2)
              clear hown2 hb2 cME fME
              go_wp2
              go_roundw
              case rel => exact ⟨x + 1, _, by omega, by go_num, by rw [show y * W + (x + 1) = P + 1 by have := HP.out; omega, HBT.out]; exact HNW.out⟩
              case measure => simp [intOf]; omega
            · obtain rfl : W = x := by omega
              go_wp2
              go_roundw
              case rel => exact ⟨y + 1, v, by omega, by go_num, by rw [Nat.add_mul, Nat.one_mul]; exact hfb2.out⟩
              case measure => simp [intOf]; omega
        · obtain rfl : H = y := by omega
          have h9 := HFB.out
          obtain ⟨hr9, ho9, hx9⟩ := h9
          rw [show bT (mvF W sm bs) (H * W) = BM by rw [Nat.mul_comm]; exact HBM.out] at ho9
          have hlo : BM.length = n := by rw [← HBM.out, bT_len, HN.out]
          obtain ⟨a2, c2, rfl, hT2, hg2⟩ := OkT.of_owns ho9
          rw [hlo] at hr9 hT2
          have HT2 := Lib.hid hT2
          have hT1 : OkT wr a1 n c1 BO := ⟨hx9.bools HT1.out.bits (fun b o e => by
            obtain ⟨b', o', e', h3, _⟩ := HT1.out.bits.2 hn0
            rw [e] at e'
            obtain ⟨rfl, rfl⟩ : b = b' ∧ o = o' := by injection e' with e'; injection e' with e1 e2; exact ⟨e1, e2⟩
            have h5 := HG1.out b o e
            have h6 := HBS2.out
            omega), HT1.out.cap, HT1.out.lim⟩
          have HT1' := Lib.hid hT1
          have hq9 := hx9.rowIs HQ1.out (by omega) (by omega)
          have ho9' := hx9.rowIs HR1.out (by omega) (by omega)
          have HB2 := Lib.hid (hB2.out hx9)
          have HQ2 := Lib.hid hq9
          have o0 : wr.cell? ⟨ob, 0, none⟩ = some (.int .i64 (H)) := ho9'.cell (i := 0) (by omega)
          have o1 : wr.cell? ⟨ob, 1, none⟩ = some (.int .i64 (W)) := ho9'.cell (i := 1) (by omega)
          have o2 : wr.cell? ⟨ob, 2, none⟩ = some (.slice a1 n c1) := ho9'.cell (i := 2) (by omega)
          have m0 : wr.cell? ⟨mb, 0, none⟩ = some (.int .i64 (W)) := hr9.cell (i := 0) (by omega)
          have m1 : wr.cell? ⟨mb, 1, none⟩ = some (.int .i64 (H)) := hr9.cell (i := 1) (by omega)
          have m2 : wr.cell? ⟨mb, 2, none⟩ = some (.slice a2 n c2) := hr9.cell (i := 2) (by omega)
          have lm : LtW mb wr := hr9.lt
          have lo : LtW ob wr := ho9'.lt
          have hszr : q < wr.heap.size := hq9.lt
          clear hr9 ho9 hx9 hlo hT2 hg2 hT1 HFB HM1 HQ1 HBM hB2 HBS2 HT1 HG1 HR1 HB1 hq9 ho9'
          generalize wr = W2 at *
          go_wp2_with fail
          refine (HO.out _ a1 c1 HT1'.out).mono ?_
          rintro r w1 ⟨rfl, hb⟩
          obtain ⟨E3, d3, rfl⟩ := bExt hb
          clear hb
          go_wp2_with fail
          refine (HM.out _ a2 c2 (HT2.out.below (by repeat (first | exact Below.refl _ _ | refine Below.drew ?_ | refine below_drewN ?_ _ | refine Below.alloc ?_ (by first | exact Nat.le_refl _ | (simp; done) | (simp; omega) | omega) _ | refine Below.setCell ?_ (by first | exact Nat.le_refl _ | (simp; done) | (simp; omega) | omega) _ | refine bExtW ?_ (by first | exact Nat.le_refl _ | (simp; done) | (simp; omega) | omega) | refine Below.trans ?_ (Below.mono (by assumption) (by first | exact Nat.le_refl _ | (simp; done) | (simp; omega) | omega)))))).mono ?_
          rintro r w1 ⟨rfl, hb⟩
          obtain ⟨E4, d4, rfl⟩ := bExt hb
          clear hb
          have hb4 : Below W2.heap.size W2 (extW (extW W2 E3 d3) E4 d4) := (by repeat (first | exact Below.refl _ _ | refine Below.drew ?_ | refine below_drewN ?_ _ | refine Below.alloc ?_ (by first | exact Nat.le_refl _ | (simp; done) | (simp; omega) | omega) _ | refine Below.setCell ?_ (by first | exact Nat.le_refl _ | (simp; done) | (simp; omega) | omega) _ | refine bExtW ?_ (by first | exact Nat.le_refl _ | (simp; done) | (simp; omega) | omega) | refine Below.trans ?_ (Below.mono (by assumption) (by first | exact Nat.le_refl _ | (simp; done) | (simp; omega) | omega))))
          have hq4 := rowBelow HQ2.out hb4 hszr
          have HB4 := Lib.hid (HB2.out.trans (hb4.mono (by have := HB2.out.size; exact this)))
          have q0 : (extW (extW W2 E3 d3) E4 d4).cell? ⟨q, 0, none⟩ = some (.int .i64 (W)) := hq4.cell (i := 0) (by omega)
          have q1 : (extW (extW W2 E3 d3) E4 d4).cell? ⟨q, 1, none⟩ = some (.int .i64 (H)) := hq4.cell (i := 1) (by omega)
          have q2 : (extW (extW W2 E3 d3) E4 d4).cell? ⟨q, 2, none⟩ = some (.slice a n c) := hq4.cell (i := 2) (by omega)
          clear hb4 hq4 o0 o1 o2 m0 m1 m2 lm lo HO HM
          generalize extW (extW W2 E3 d3) E4 d4 = W4 at *
          obtain ⟨b, o, rfl, hb, hc⟩ := (HT.out.bits.below HB4.out).2 hn0
          have HC := Lib.hid hc
          clear hc hb
          go_wp2_with fail
          go_loopw [19] (fun i wr => ∃ y : Nat, y ≤ H ∧ i = .int .i64 y ∧ wr = W4) (fun i _ => H - (intOf i).toNat)
          case atStart => exact ⟨0, Nat.zero_le _, rfl, rfl⟩
          case round =>
            obtain ⟨y, hy, rfl, rfl⟩ := hrel
            by_cases hyH : y < H
            · obtain ⟨M, hM⟩ : ∃ M, y * W = M := ⟨_, rfl⟩
              have hmul : (y : Int) * (W : Int) = (M : Int) := by rw [← Int.natCast_mul, hM]
              have HMM := Lib.hid hM
              clear hM
              go_wp2_with fail
              go_loopw [20, 21] (fun u i wr' => ∃ x : Nat, x ≤ W ∧ i = .int .i64 x ∧ u = .int .i64 ((scanTo (rf false W bs y) 0 0 x).1) ∧ wr' = wr) (fun _ i _ => W - (intOf i).toNat)
              case atStart => exact ⟨0, Nat.zero_le _, rfl, rfl, rfl⟩
              case round =>
                obtain ⟨x, hx, rfl, rfl, rfl⟩ := hrel
                by_cases hxW : x < W
                · obtain ⟨p, hp⟩ : ∃ p, M + x = p := ⟨_, rfl⟩
                  have hadd : (M : Int) + (x : Int) = (p : Int) := by omega
                  have hlt : p < n := by rw [HN.out, ← hp, ← HMM.out]; exact place_lt' hxW hyH
                  have cb := HC.out p hlt
                  have HST := Lib.hid (scan_step (W := W) (y := y) (bs := bs) (p := p) hxW (by rw [HMM.out, hp]))
                  have hkx := (scan_len (rf false W bs y) 0 0 x).1
                  have hL := HL5.out y (x+1) hyH (by omega)
                  rw [HST.out] at hL
                  generalize (scanTo (rf false W bs y) 0 0 x).1 = k at *
                  generalize bs.getD p false = bit at *
                  have HPX := Lib.hid hp
                  clear hp
                  have v1 : IntKind.i64.wrap (M : Int) = (M : Int) := IntWalk.i64_in _ (by omega)
                  have v2 : IntKind.i64.wrap (p : Int) = (p : Int) := IntWalk.i64_in _ (by omega)
                  have g0 : (0 : Int) ≤ (p : Int) := by omega
                  have g1 : (p : Int) < (n : Int) := by omega
                  cases bit with
                  | true =>
                    clear hL
                    go_wp2
                    go_roundw
                    case rel => exact ⟨x + 1, by omega, by go_num, by rw [HST.out]; rfl, trivial⟩
                    case measure => simp [intOf]; omega
                  | false =>
                    have hL2 : k + 1 ≤ along := hL
                    have hL3 : decide ((along : Int) < (k : Int) + 1) = false := by simp; omega
                    clear hL
                    go_wp2
                    go_roundw
                    case rel => exact ⟨x + 1, by omega, by go_num, by rw [HST.out]; go_num, trivial⟩
                    case measure => simp [intOf]; omega
                · obtain rfl : W = x := by omega
                  go_wp2
                  go_roundw
                  case rel => exact ⟨y + 1, by omega, by go_num, trivial⟩
                  case measure => simp [intOf]; omega
            · obtain rfl : H = y := by omega
              go_wp2
              go_ret
              exact ⟨rfl, HB4.out⟩
theorem floats_walk (W H : Int) (a : Option Addr) (n c : Nat) (bs : List Bool) (s : Int) (w : World) (hT : OkT w a n c bs) (h1 : (-9223372036854775808 ≤ W ∧ W ≤ 9223372036854775807)) (h2 : (-9223372036854775808 ≤ H ∧ H ≤ 9223372036854775807)) (hs : (-9223372036854775808 ≤ s ∧ s ≤ 9223372036854775807)) :
    Calls Try.prog 9 #[.agg #[.int .i64 (W), .int .i64 (H), .slice a n c], .int .i64 (s)] w fun e w' => e = .returned (.bool true) ∧ Below w.heap.size w w' := by
  by_cases he : flE W H n = 0
  · obtain ⟨W', H', rfl, rfl, hW, hH, hn, hW0, hH0⟩ := flE_zero he
    exact floats_ok W' H' n hn a c bs s w hT hW hH hW0 hH0 hs
  · exact floats_bad W H a n c bs s w hT h1 h2 he
end Go.Proofs.Ytikddfjickkhhaa
