/- Lemmas and contracts of functions (what each call returns, and that it changes nothing that was there) that the proof of a law of this seat uses; each lemma states its own conditions. -/
import Derived.Test.YtikddfjickkhhaaMl6
namespace Go.Proofs.Ytikddfjickkhhaa
open Go.RowKit
set_option linter.unusedVariables false
set_option linter.unusedSimpArgs false
open Lo Tw
def twF (zs : List Int) (move : Int) (n N p : Nat) : Bool := (rowTo zs n).getD (plc N move (p % N) (p / N)) false
theorem twF_at {zs : List Int} {move : Int} {n N x y : Nat} (hx : x < N) : twF zs move n N (y * N + x) = (rowTo zs n).getD (plc N move x y) false := by unfold twF; rw [dm1 hx, dm2 hx]
theorem sumTo_zero (zs : List Int) : sumTo zs 0 = 0 := rfl
set_option maxRecDepth 100000 in
set_option maxHeartbeats 8000000 in
theorem rTwill_rest (a : Option Addr) (n c : Nat) (zs : List Int) (move : Int) (w : World) (hi : IsInts w a n zs) (h1 : ¬ (n = 0 ∨ n % 2 = 1 ∨ 16 < n)) (hm : (-9223372036854775808 ≤ move ∧ move ≤ 9223372036854775807)) :
    Calls Try.prog 33 #[.slice a n c, .int .i64 (move)] w (TwillPost zs move w) := by
  have hl := hi.1
  have HL1 : Hid (¬ (zs.length = 0 ∨ zs.length % 2 = 1 ∨ 16 < zs.length)) := Lib.hid (by rw [hl]; exact h1)
  have HI := Lib.hid hi
  have HL := Lib.hid hl
  have hd : decide ((n : Int) < 2) = false := by simp; omega
  have hrem2 : (n : Int).tmod 2 = 0 := by
    have : ((n : Int)).tmod 2 = ((n % 2 : Nat) : Int) := rfl
    rw [this]; omega
  have hd3 : decide ((16 : Int) < (n : Int)) = false := by simp; omega
  have hn16 : n ≤ 16 := by omega
  clear hi hl h1
  go_enter Try.func33, Try.ntmps33
  go_wp2_with fail
  clear hd hrem2 hd3
  go_loopw [6, 29] (fun s i wr => ∃ j : Nat, j ≤ n ∧ s = .int .i64 (sumTo zs j) ∧ i = .int .i64 j ∧ Hid (∀ i, i < j → 1 ≤ zs.getD i 0 ∧ zs.getD i 0 ≤ 64) ∧ 0 ≤ sumTo zs j ∧ sumTo zs j ≤ 64 * j ∧ wr = w.alloc (.cells #[.int .i64 (0), .int .i64 (0), .slice none 0 0] 26)) (fun _ i _ => n - (intOf i).toNat)
  case atStart => exact ⟨0, Nat.zero_le _, rfl, rfl, Lib.hid (fun i h => absurd h (by omega)), by simp [sumTo], by simp [sumTo], rfl⟩
  case round =>
    obtain ⟨j, hj, rfl, rfl, HR, hs0, hs1, rfl⟩ := hrel
    by_cases hjn : j < n
    · obtain ⟨b, o, rfl, hb, hc⟩ := (HI.out.below (show Below w.heap.size w (w.alloc (.cells #[.int .i64 (0), .int .i64 (0), .slice none 0 0] 26)) from (by repeat (first | exact Below.refl _ _ | refine Below.drew ?_ | refine below_drewN ?_ _ | refine Below.alloc ?_ (by first | exact Nat.le_refl _ | (simp; done) | (simp; omega) | omega) _ | refine Below.setCell ?_ (by first | exact Nat.le_refl _ | (simp; done) | (simp; omega) | omega) _ | refine bExtW ?_ (by first | exact Nat.le_refl _ | (simp; done) | (simp; omega) | omega) | refine Below.trans ?_ (Below.mono (by assumption) (by first | exact Nat.le_refl _ | (simp; done) | (simp; omega) | omega)))))).2 (by omega)
      have cz := hc j hjn
      have HSS : Hid (sumTo zs (j+1) = sumTo zs j + zs.getD j 0) := Lib.hid rfl
      have HZ : Hid (runsOk zs → 1 ≤ zs.getD j 0 ∧ zs.getD j 0 ≤ 64) := Lib.hid (fun h => h j (by rw [HL.out]; exact hjn))
      have HNX : Hid (1 ≤ zs.getD j 0 ∧ zs.getD j 0 ≤ 64 → ∀ i, i < j + 1 → 1 ≤ zs.getD i 0 ∧ zs.getD i 0 ≤ 64) := Lib.hid (fun h i hi => by
        rcases Nat.lt_or_ge i j with h2 | h2
        · exact HR.out i h2
        · obtain rfl : i = j := by omega
          exact h)
      clear hc
      generalize zs.getD j 0 = z at *
      generalize sumTo zs j = s at *
      by_cases hz1 : z < 1
      · have HE : Hid (twE zs move = 3) := Lib.hid (twE_3 HL1.out (fun h => by have := HZ.out h; omega))
        have hd : decide (z < 1) = true := by simpa using hz1
        go_wp2
        refine bodyPost_ret (v := .tuple #[.agg #[.int .i64 0, .int .i64 0, .slice none 0 0], .int .i64 (3)]) (by simp [results, Try.results33, go_sem]) rfl (TwillPost.bad HE.out (by decide) rfl (by repeat (first | exact Below.refl _ _ | refine Below.drew ?_ | refine below_drewN ?_ _ | refine Below.alloc ?_ (by first | exact Nat.le_refl _ | (simp; done) | (simp; omega) | omega) _ | refine Below.setCell ?_ (by first | exact Nat.le_refl _ | (simp; done) | (simp; omega) | omega) _ | refine bExtW ?_ (by first | exact Nat.le_refl _ | (simp; done) | (simp; omega) | omega) | refine Below.trans ?_ (Below.mono (by assumption) (by first | exact Nat.le_refl _ | (simp; done) | (simp; omega) | omega)))))
      · by_cases hz2 : 64 < z
        · have HE : Hid (twE zs move = 3) := Lib.hid (twE_3 HL1.out (fun h => by have := HZ.out h; omega))
          have hd : decide (z < 1) = false := by simpa using hz1
          have hd2 : decide (64 < z) = true := by simpa using hz2
          go_wp2
          refine bodyPost_ret (v := .tuple #[.agg #[.int .i64 0, .int .i64 0, .slice none 0 0], .int .i64 (3)]) (by simp [results, Try.results33, go_sem]) rfl (TwillPost.bad HE.out (by decide) rfl (by repeat (first | exact Below.refl _ _ | refine Below.drew ?_ | refine below_drewN ?_ _ | refine Below.alloc ?_ (by first | exact Nat.le_refl _ | (simp; done) | (simp; omega) | omega) _ | refine Below.setCell ?_ (by first | exact Nat.le_refl _ | (simp; done) | (simp; omega) | omega) _ | refine bExtW ?_ (by first | exact Nat.le_refl _ | (simp; done) | (simp; omega) | omega) | refine Below.trans ?_ (Below.mono (by assumption) (by first | exact Nat.le_refl _ | (simp; done) | (simp; omega) | omega)))))
        · have hd : decide (z < 1) = false := by simpa using hz1
          have hd2 : decide (64 < z) = false := by simpa using hz2
          go_wp2
          go_roundw
          case rel => exact ⟨j + 1, by omega, by rw [HSS.out], by go_num, Lib.hid (HNX.out ⟨by omega, by omega⟩), by rw [HSS.out]; omega, by rw [HSS.out]; omega, trivial⟩
          case measure => simp [intOf]; omega
    · obtain rfl : n = j := by omega
      have hrun : runsOk zs := fun i hi => HR.out i (by rw [← HL.out]; exact hi)
      have htw := twE_rest (move := move) HL1.out hrun
      rw [HL.out] at htw
      have hbd := (sumTo_bd hrun n (by rw [HL.out]; exact Nat.le_refl _)).1
      have HU := Lib.hid (fun w (p : Nat) h (hp : (p : Int) < sumTo zs n) => Up_ok a n c zs p w h hrun hn16 hp)
      obtain ⟨s, hs⟩ : ∃ s, sumTo zs n = s := ⟨_, rfl⟩
      rw [hs] at htw hs0 hs1 hbd HU ⊢
      have HSN := Lib.hid hs
      have HTW := Lib.hid htw
      have HRUN := Lib.hid hrun
      clear hs htw hrun HR
      by_cases c1 : 64 < s
      · have HE : Hid (twE zs move = 4) := Lib.hid (by rw [HTW.out, if_pos c1])
        have hd : decide (64 < s) = true := by simpa using c1
        go_wp2
        refine bodyPost_ret (v := .tuple #[.agg #[.int .i64 0, .int .i64 0, .slice none 0 0], .int .i64 (4)]) (by simp [results, Try.results33, go_sem]) rfl (TwillPost.bad HE.out (by decide) rfl (by repeat (first | exact Below.refl _ _ | refine Below.drew ?_ | refine below_drewN ?_ _ | refine Below.alloc ?_ (by first | exact Nat.le_refl _ | (simp; done) | (simp; omega) | omega) _ | refine Below.setCell ?_ (by first | exact Nat.le_refl _ | (simp; done) | (simp; omega) | omega) _ | refine bExtW ?_ (by first | exact Nat.le_refl _ | (simp; done) | (simp; omega) | omega) | refine Below.trans ?_ (Below.mono (by assumption) (by first | exact Nat.le_refl _ | (simp; done) | (simp; omega) | omega)))))
      by_cases c2 : move < 1
      · have HE : Hid (twE zs move = 3) := Lib.hid (by rw [HTW.out, if_neg c1, if_pos (.inl c2)])
        have hd : decide (64 < s) = false := by simpa using c1
        have hd2 : decide (move < 1) = true := by simpa using c2
        go_wp2
        refine bodyPost_ret (v := .tuple #[.agg #[.int .i64 0, .int .i64 0, .slice none 0 0], .int .i64 (3)]) (by simp [results, Try.results33, go_sem]) rfl (TwillPost.bad HE.out (by decide) rfl (by repeat (first | exact Below.refl _ _ | refine Below.drew ?_ | refine below_drewN ?_ _ | refine Below.alloc ?_ (by first | exact Nat.le_refl _ | (simp; done) | (simp; omega) | omega) _ | refine Below.setCell ?_ (by first | exact Nat.le_refl _ | (simp; done) | (simp; omega) | omega) _ | refine bExtW ?_ (by first | exact Nat.le_refl _ | (simp; done) | (simp; omega) | omega) | refine Below.trans ?_ (Below.mono (by assumption) (by first | exact Nat.le_refl _ | (simp; done) | (simp; omega) | omega)))))
      by_cases c3 : s ≤ move
      · have HE : Hid (twE zs move = 3) := Lib.hid (by rw [HTW.out, if_neg c1, if_pos (.inr c3)])
        have hd : decide (64 < s) = false := by simpa using c1
        have hd2 : decide (move < 1) = false := by simpa using c2
        have hd3 : decide (s - 1 < move) = true := by simp; omega
        go_wp2
        refine bodyPost_ret (v := .tuple #[.agg #[.int .i64 0, .int .i64 0, .slice none 0 0], .int .i64 (3)]) (by simp [results, Try.results33, go_sem]) rfl (TwillPost.bad HE.out (by decide) rfl (by repeat (first | exact Below.refl _ _ | refine Below.drew ?_ | refine below_drewN ?_ _ | refine Below.alloc ?_ (by first | exact Nat.le_refl _ | (simp; done) | (simp; omega) | omega) _ | refine Below.setCell ?_ (by first | exact Nat.le_refl _ | (simp; done) | (simp; omega) | omega) _ | refine bExtW ?_ (by first | exact Nat.le_refl _ | (simp; done) | (simp; omega) | omega) | refine Below.trans ?_ (Below.mono (by assumption) (by first | exact Nat.le_refl _ | (simp; done) | (simp; omega) | omega)))))
      have HE : Hid (twE zs move = 0) := Lib.hid (by rw [HTW.out, if_neg c1, if_neg (by omega)])
      have hd : decide (64 < s) = false := by simpa using c1
      have hd2 : decide (move < 1) = false := by simpa using c2
      have hd3 : decide (s - 1 < move) = false := by simp; omega
      obtain ⟨N, rfl⟩ : ∃ N : Nat, s = N := ⟨s.toNat, by omega⟩
      have hN64 : N ≤ 64 := by omega
      go_wp2_with fail
      clear hd hd2 hd3
      have hA2 := tF_alloc w 0 0 (.slice none 0 0) rfl
      have hbC : Below (w.heap.size + 1) (w.alloc (.cells #[.int .i64 (0), .int .i64 (0), .slice none 0 0] 26)) (w.alloc (.cells #[.int .i64 (0), .int .i64 (0), .slice none 0 0] 26)) := (by repeat (first | exact Below.refl _ _ | refine Below.drew ?_ | refine below_drewN ?_ _ | refine Below.alloc ?_ (by first | exact Nat.le_refl _ | (simp; done) | (simp; omega) | omega) _ | refine Below.setCell ?_ (by first | exact Nat.le_refl _ | (simp; done) | (simp; omega) | omega) _ | refine bExtW ?_ (by first | exact Nat.le_refl _ | (simp; done) | (simp; omega) | omega) | refine Below.trans ?_ (Below.mono (by assumption) (by first | exact Nat.le_refl _ | (simp; done) | (simp; omega) | omega))))
      have hbw0 : Below w.heap.size w (w.alloc (.cells #[.int .i64 (0), .int .i64 (0), .slice none 0 0] 26)) := (by repeat (first | exact Below.refl _ _ | refine Below.drew ?_ | refine below_drewN ?_ _ | refine Below.alloc ?_ (by first | exact Nat.le_refl _ | (simp; done) | (simp; omega) | omega) _ | refine Below.setCell ?_ (by first | exact Nat.le_refl _ | (simp; done) | (simp; omega) | omega) _ | refine bExtW ?_ (by first | exact Nat.le_refl _ | (simp; done) | (simp; omega) | omega) | refine Below.trans ?_ (Below.mono (by assumption) (by first | exact Nat.le_refl _ | (simp; done) | (simp; omega) | omega))))
      have hC2 := rowBelow hA2 hbC (by omega)
      have hszE : (w.alloc (.cells #[.int .i64 (0), .int .i64 (0), .slice none 0 0] 26)).heap.size = w.heap.size + 1 := by simp
      generalize w.alloc (.cells #[.int .i64 (0), .int .i64 (0), .slice none 0 0] 26) = WC at *
      have hW3r := hC2.alloc (.cells #[.int .i64 (N), .int .i64 (N), .slice none 0 0] 26)
      have hW3o := tF_alloc WC N N (.slice none 0 0) rfl
      have hW3b : Below w.heap.size w (WC.alloc (.cells #[.int .i64 (N), .int .i64 (N), .slice none 0 0] 26)) := hbw0.alloc hbw0.size _
      have hsz3 : (WC.alloc (.cells #[.int .i64 (N), .int .i64 (N), .slice none 0 0] 26)).heap.size = WC.heap.size + 1 := by simp
      generalize WC.alloc (.cells #[.int .i64 (N), .int .i64 (N), .slice none 0 0] 26) = W3 at *
      rw [hszE] at hW3o hsz3
      obtain ⟨ob, ho⟩ : ∃ ob, w.heap.size + 1 = ob := ⟨_, rfl⟩
      obtain ⟨rb, hrb⟩ : ∃ rb, rb = w.heap.size := ⟨_, rfl⟩
      rw [ho] at hW3o hsz3 ⊢
      rw [← hrb] at hW3b hW3r ⊢
      obtain ⟨base, hbase⟩ : ∃ b, b = W3.heap.size := ⟨_, rfl⟩
      have hmbb : ob < base := by omega
      have hro : rb < ob := by omega
      have HRR := Lib.hid hW3r
      have HO3 := Lib.hid hW3o
      have HBS := Lib.hid hbase
      have HQW := Lib.hid hrb
      have hB0 : Hid (∀ {w' : World}, BelowX base ob W3 w' → Below w.heap.size w w') := Lib.hid fun h => by
        have h1 := hW3b
        rw [HQW.out] at h1
        exact h1.trans ((h.below HBS.out.symm (Nat.le_refl _) (by omega)).mono (by have := HQW.out; omega))
      clear hW3o hW3r hW3b hsz3 hbase hA2 hbC hbw0 ho hszE hrb hC2
      go_loopw [10] (fun i wr => ∃ (y : Nat) (v : Value), y ≤ N ∧ i = .int .i64 y ∧ FB base ob N N (bT (twF zs move n N) (y * N)) W3 v wr) (fun i _ => N - (intOf i).toNat)
      case atStart => exact ⟨0, _, Nat.zero_le _, rfl, by rw [Nat.zero_mul]; exact FB.start HO3.out HBS.out⟩
      case round =>
        obtain ⟨y, v, hy, rfl, hfb⟩ := hrel
        have HFB := Lib.hid hfb
        clear hfb
        by_cases hyn : y < N
        · go_wp2_with fail
          go_loopw [11] (fun i wr => ∃ (x : Nat) (v : Value), x ≤ N ∧ i = .int .i64 x ∧ FB base ob N N (bT (twF zs move n N) (y * N + x)) W3 v wr) (fun i _ => N - (intOf i).toNat)
          case atStart => exact ⟨0, v, Nat.zero_le _, rfl, HFB.out⟩
          case round =>
            clear HFB
            obtain ⟨x, v, hx, rfl, hfb⟩ := hrel
            have hfb2 := Lib.hid hfb
            clear hfb
            by_cases hxn : x < N
            · obtain ⟨m, hm2⟩ : ∃ m : Int, (y : Int) * move = m := ⟨_, rfl⟩
              have hmb : 0 ≤ m ∧ m ≤ 4096 := by
                rw [← hm2]
                exact ⟨Int.mul_nonneg (by omega) (by omega), Int.le_trans (Int.mul_le_mul (show (y : Int) ≤ 64 by omega) (show move ≤ 64 by omega) (by omega) (by omega)) (by omega)⟩
              obtain ⟨p, hp⟩ : ∃ p, plc N move x y = p := ⟨_, rfl⟩
              have hpN : p < N := by rw [← hp]; exact plc_lt (by omega)
              have hpe : ((x : Int) - m) % (N : Int) = (p : Int) := by
                rw [← hp, ← hm2]; unfold plc
                exact (Int.toNat_of_nonneg (Int.emod_nonneg _ (by omega))).symm
              have HRE := Lib.hid (fun wq => Rest_ok ((x : Int) - m) N wq (by omega) (by omega) (by omega))
              rw [hpe] at HRE
              have HUP := Lib.hid (fun wq h => HU.out wq p h (by omega))
              obtain ⟨bit, hbit⟩ : ∃ b, (rowTo zs n).getD p false = b := ⟨_, rfl⟩
              rw [hbit] at HUP
              have v1 : IntKind.i64.wrap m = m := IntWalk.i64_in _ (by omega)
              have v2 : IntKind.i64.wrap ((x : Int) - m) = (x : Int) - m := IntWalk.i64_in _ (by omega)
              have HIW := Lib.hid (HI.out.below (hB0.out hfb2.out.bel))
              obtain ⟨hr0, ho0, hx0⟩ := hfb2.out
              obtain ⟨P, hP⟩ : ∃ P, y * N + x = P := ⟨_, rfl⟩
              have hPn : P < N * N := by rw [← hP]; exact place_lt' hxn hyn
              have hPn4 : P < 4096 := Nat.lt_of_lt_of_le hPn (mul64n (show N ≤ 64 by omega) (show N ≤ 64 by omega))
              have HBT := Lib.hid (bT_succ (twF zs move n N) P)
              rw [show twF zs move n N P = bit by rw [← hP, twF_at hxn, hp, hbit]] at HBT
              rw [bT_len, hP] at ho0
              have HP := Lib.hid hP
              have cM : wr.cell? ⟨ob, 2, none⟩ = some v := hr0.cell (i := 2) (by omega)
              have fM := hr0.frozen 2
              have lm : LtW ob wr := hr0.lt
              have HO := Lib.hid ho0
              have HX := Lib.hid hx0
              have HR := Lib.hid hr0
              have hxs := hx0.size
              clear hr0 ho0 hx0 hfb2 hP hp hbit hpe
              generalize bT (twF zs move n N) P = L at *
              go_wp2_with fail
              (refine wp_region_ext_build 11 _ mkOne (.cells #[.bool (bit)] 4) (by kernel_rfl) (by kernel_rfl) rfl rfl ?_; simp only [List.take_succ_cons, List.take_zero, List.drop_succ_cons, List.drop_zero]; (repeat (first | ((with_reducible refine wpV_step (fun K hK => ?_)); go_simp; first | (refine hK _ ?_; clear hK K) | (apply Exists.intro; refine ⟨fun _ _ => ?_, hK _ ?_⟩; (first | (go_at_call 68; exact vOf (HRE.out _)) | (go_at_call 67; exact vOf (HUP.out _ (HIW.out.below (by repeat (first | exact Below.refl _ _ | refine Below.drew ?_ | refine below_drewN ?_ _ | refine Below.alloc ?_ (by first | exact Nat.le_refl _ | (simp; done) | (simp; omega) | omega) _ | refine Below.setCell ?_ (by first | exact Nat.le_refl _ | (simp; done) | (simp; omega) | omega) _ | refine bExtW ?_ (by first | exact Nat.le_refl _ | (simp; done) | (simp; omega) | omega) | refine Below.trans ?_ (Below.mono (by assumption) (by first | exact Nat.le_refl _ | (simp; done) | (simp; omega) | omega)))))))); clear hK K)))); refine wpV_nil ?_; refine ⟨fun W => by go_simp; rfl, fun E d E' d' => ?_⟩)
              have hbE := built_below wr E d (.cells #[.bool (bit)] 4) E' d'
              have HCS := Lib.hid (built_cell wr E d #[.bool (bit)] 4 E' d')
              have cME := bCs hbE cM
              have fME := (hbE.frozen (p := ⟨ob, 2, none⟩) (show ob < wr.heap.size from lm)).trans fM
              have HOE := Lib.hid (ownBelow HO.out hbE)
              have hgE := Nat.le_trans HX.out.size hbE.size
              have HBE := Lib.hid hbE
              clear hbE cM fM
              generalize extW ((extW wr E d).alloc (.cells #[.bool (bit)] 4)) E' d' = WE at *
              generalize (extW wr E d).heap.size = BB at *
              go_wp2_with (at_builtin; refine wpAppB okBools rfl (.tmp 70) (.tmp 80) rfl base _ _ _ #[.bool (bit)] BB rfl HOE.out rfl HCS.out rfl ?_ (by omega) (by omega) (by omega) ?_)
              · simp [Value.oneCell']
              intro v' w2 hown2 hb2
              obtain ⟨A', cp', rfl⟩ := own_form hown2
              have cM2 : w2.cell? ⟨ob, 2, none⟩ = some v := (hb2.cell (p := ⟨ob, 2, none⟩) (by simp; omega)).trans cME
              have fM2 : w2.frozen? ⟨ob, 2, none⟩ = false := (hb2.frozen (p := ⟨ob, 2, none⟩) (by simp; omega)).trans fME
              have HNW := Lib.hid (FB.app HR.out HX.out HBE.out (by omega) hown2 hb2)
              clear hown2 hb2 cME fME
              go_wp2
              go_roundw
              case rel => exact ⟨x + 1, _, by omega, by go_num, by rw [show y * N + (x + 1) = P + 1 by have := HP.out; omega, HBT.out]; exact HNW.out⟩
              case measure => simp [intOf]; omega
            · obtain rfl : N = x := by omega
              go_wp2
              go_roundw
              case rel => exact ⟨y + 1, v, by omega, by go_num, by rw [Nat.add_mul, Nat.one_mul]; exact hfb2.out⟩
              case measure => simp [intOf]; omega
        · obtain rfl : N = y := by omega
          obtain ⟨hr9, ho9, hx9⟩ := HFB.out
          rw [show bT (twF zs move n N) (N * N) = bitsTo (rowTo zs n) N move (N * N) from rfl] at ho9
          have hlo : (bitsTo (rowTo zs n) N move (N * N)).length = N * N := bitsTo_len _ _ _ _
          obtain ⟨a1, c1, rfl, hT1, hg1⟩ := OkT.of_owns ho9
          rw [hlo] at hr9 hT1
          have o0 : wr.cell? ⟨ob, 0, none⟩ = some (.int .i64 (N)) := hr9.cell (i := 0) (by omega)
          have o1 : wr.cell? ⟨ob, 1, none⟩ = some (.int .i64 (N)) := hr9.cell (i := 1) (by omega)
          have o2 : wr.cell? ⟨ob, 2, none⟩ = some (.slice a1 (N * N) c1) := hr9.cell (i := 2) (by omega)
          have rr := hx9.rowIs HRR.out (by omega) (by omega)
          have r0 : wr.cell? ⟨rb, 0, none⟩ = some (.int .i64 (0)) := rr.cell (i := 0) (by omega)
          have r1 : wr.cell? ⟨rb, 1, none⟩ = some (.int .i64 (0)) := rr.cell (i := 1) (by omega)
          have r2 : wr.cell? ⟨rb, 2, none⟩ = some (.slice none 0 0) := rr.cell (i := 2) (by omega)
          have f0 := rr.frozen 0; have f1 := rr.frozen 1; have f2 := rr.frozen 2
          have HT1 := Lib.hid hT1
          have HG1 := Lib.hid hg1
          have HX9 := Lib.hid hx9
          have hxs := hx9.size
          clear hr9 ho9 hx9 rr hlo hT1 hg1 HFB HO3 HRR
          go_wp2
          refine bodyPost_ret (v := .tuple #[.agg #[.int .i64 (N), .int .i64 (N), .slice a1 (N * N) c1], .int .i64 (0)]) (by simp [results, Try.results33, go_sem, r0, r1, r2]) rfl (.inr ⟨HE.out, N, a1, c1, by rw [HL.out]; exact HSN.out.symm, rfl, ?_, ?_⟩)
          · rw [HL.out]
            exact (((((BelowX.refl (base := wr.heap.size) (mb := rb) (Nat.le_refl _)).set 0 _).set 1 _).set 2 _).okT HT1.out rfl fun b o e => by have := HG1.out b o e; omega)
          · exact (((hB0.out HX9.out).setCell (by simp; have := HQW.out; omega) _).setCell (by simp; have := HQW.out; omega) _).setCell (by simp; have := HQW.out; omega) _
end Go.Proofs.Ytikddfjickkhhaa
