/- Lemmas and contracts of functions (what each call returns, and that it changes nothing that was there) that the proof of a law of this seat uses; each lemma states its own conditions. -/
import Derived.Test.YtikddfjickkhhaaLy4
import Derived.Test.YtikddfjickkhhaaLy1
namespace Go.Proofs.Ytikddfjickkhhaa
open Go.RowKit
set_option linter.unusedVariables false
set_option linter.unusedSimpArgs false
open Cl
set_option maxRecDepth 100000 in
set_option maxHeartbeats 8000000 in
theorem rabove_any (N rb tb : Nat) (R : Nat → Nat → Bool) (s : Nat) (w : World) (hN : N ≤ 128) (hs : s < N) (hT : TInv N rb N R w) (hc : w.cell? ⟨tb, 0, none⟩ = some (.slice (some ⟨rb, 0, none⟩) N N)) :
    Calls Try.prog 65 #[.int .i64 (s), .pointer (some ⟨tb, 0, none⟩)] w fun e w' => e = .returned (.int .i64 ((cnt N (fun a => R a s) : Nat))) ∧ Below w.heap.size w w' := by
  have HT := Lib.hid hT
  have lt : LtW tb w := World.block_lt_of_cell? w _ hc
  clear hT
  go_enter Try.func65, Try.ntmps65
  go_wp2_with fail
  go_loopw [4, 8] (fun n i wr => ∃ k : Nat, k ≤ N ∧ i = .int .i64 k ∧ n = .int .i64 (cnt k (fun a => R a s) : Nat) ∧ wr = w) (fun _ i _ => N - (intOf i).toNat)
  case atStart => exact ⟨0, Nat.zero_le _, rfl, rfl, rfl⟩
  case round =>
    obtain ⟨k, hk, rfl, rfl, rfl⟩ := hrel
    have hcl := cnt_le k (fun a => R a s)
    by_cases hkN : k < N
    · obtain ⟨g, c, e1, lg, e2, lr⟩ := HT.out.at hkN hs
      have HC := Lib.hid (cnt_succ k (fun a => R a s))
      have i0 : (0 : Int) ≤ (k : Int) := by omega
      have i1 : (k : Int) < (N : Int) := by omega
      have i2 : (0 : Int) ≤ (s : Int) := by omega
      have i3 : (s : Int) < (N : Int) := by omega
      generalize cnt k (fun a => R a s) = m at *
      cases hv : R k s with
      | false =>
        rw [hv] at e2 HC
        clear hv
        go_wp2
        go_roundw
        case rel => exact ⟨k + 1, by omega, by go_num, by have := HC.out; simp at this; rw [this], trivial⟩
        case measure => simp [intOf]; omega
      | true =>
        rw [hv] at e2 HC
        clear hv
        go_wp2
        go_roundw
        case rel => exact ⟨k + 1, by omega, by go_num, by have := HC.out; simp at this; rw [this]; go_num, trivial⟩
        case measure => simp [intOf]; omega
    · obtain rfl : N = k := by omega
      go_wp2
      go_ret
      exact ⟨rfl, (by repeat (first | exact Below.refl _ _ | refine Below.drew ?_ | refine below_drewN ?_ _ | refine Below.alloc ?_ (by first | exact Nat.le_refl _ | (simp; done) | (simp; omega) | omega) _ | refine Below.setCell ?_ (by first | exact Nat.le_refl _ | (simp; done) | (simp; omega) | omega) _ | refine bExtW ?_ (by first | exact Nat.le_refl _ | (simp; done) | (simp; omega) | omega) | refine Below.trans ?_ (Below.mono (by assumption) (by first | exact Nat.le_refl _ | (simp; done) | (simp; omega) | omega))))⟩
/-- Is none of the first k, of the sheet of s, ahead of s? -/
def fB (N : Nat) (ab : Nat → Nat → Bool) (s : Nat) : Nat → Bool
  | 0 => true
  | k + 1 => if scc N ab k s then fB N ab s k && decide (s ≤ k) else fB N ab s k
theorem fB_iff {N : Nat} {ab : Nat → Nat → Bool} {s : Nat} (k : Nat) : fB N ab s k = true ↔ ∀ a, a < k → a < s → scc N ab a s = false := by
  induction k with
  | zero => simp [fB]
  | succ k ih =>
    unfold fB
    cases h : scc N ab k s with
    | true =>
      simp only [if_true, Bool.and_eq_true, decide_eq_true_eq, ih]
      constructor
      · rintro ⟨h1, h2⟩ a ha has
        exact h1 a (by omega) has
      · intro h1
        refine ⟨fun a ha has => h1 a (by omega) has, ?_⟩
        rcases Nat.lt_or_ge k s with h2 | h2
        · rw [h1 k (by omega) h2] at h; cases h
        · exact h2
    | false =>
      simp only [Bool.false_eq_true, if_false, ih]
      constructor
      · intro h1 a ha has
        by_cases e : a = k
        · subst e; exact h
        · exact h1 a (by omega) has
      · exact fun h1 a ha has => h1 a (by omega) has
theorem fB_all {N : Nat} {ab : Nat → Nat → Bool} {s : Nat} (hs : s < N) : fB N ab s N = isHd N ab s := by
  rw [Bool.eq_iff_iff, fB_iff]
  unfold isHd
  rw [decide_eq_true_eq]
  exact ⟨fun h a ha => h a (by omega) ha, fun h a _ ha => h a ha⟩
set_option maxRecDepth 100000 in
set_option maxHeartbeats 8000000 in
theorem rLayers_bad (W H : Int) (a : Option Addr) (n c : Nat) (w : World) (h1 : (-9223372036854775808 ≤ W ∧ W ≤ 9223372036854775807)) (h2 : (-9223372036854775808 ≤ H ∧ H ≤ 9223372036854775807)) (h3 : n ≤ 9223372036854775807) (he : wrC W H n ≠ 0) :
    Calls Try.prog 28 #[.agg #[.int .i64 (W), .int .i64 (H), .slice a n c]] w fun e w' => e = .returned (.tuple #[.slice none 0 0, .int .i64 (wrC W H n)]) ∧ Below w.heap.size w w' := by
  have hb : (wrC W H n != 0) = true := by simpa using he
  have HS := Lib.hid (fun w => r8Wrong_any W H a n c w h1 h2 h3)
  clear he
  go_enter Try.func28, Try.ntmps28
  (go_wp2_with fail; refine (HS.out _).mono ?_; rintro r w1 ⟨rfl, hb⟩; obtain ⟨E, d, rfl⟩ := bExt hb; clear hb)
  go_wp2
  go_ret2
  exact ⟨rfl, (by repeat (first | exact Below.refl _ _ | refine Below.drew ?_ | refine below_drewN ?_ _ | refine Below.alloc ?_ (by first | exact Nat.le_refl _ | (simp; done) | (simp; omega) | omega) _ | refine Below.setCell ?_ (by first | exact Nat.le_refl _ | (simp; done) | (simp; omega) | omega) _ | refine bExtW ?_ (by first | exact Nat.le_refl _ | (simp; done) | (simp; omega) | omega) | refine Below.trans ?_ (Below.mono (by assumption) (by first | exact Nat.le_refl _ | (simp; done) | (simp; omega) | omega))))⟩
set_option maxRecDepth 100000 in
set_option maxHeartbeats 8000000 in
theorem rLayers_ok (W H : Nat) (a : Option Addr) (n c : Nat) (bs : List Bool) (w : World) (hi : IsBools w a n bs) (h1 : W ≤ 64) (h2 : H ≤ 64) (hn : n = W * H) (he : wrC W H n = 0) :
    Calls Try.prog 28 #[.agg #[.int .i64 (W), .int .i64 (H), .slice a n c]] w (LayersPost (layers (W+H) (abM W H bs)) w) := by
  have hn4 : n ≤ 4096 := by rw [hn]; exact Nat.le_trans (Nat.mul_le_mul h1 h2) (by omega)
  have HS := Lib.hid (fun w => r8Wrong_any W H a n c w (by omega) (by omega) (by omega))
  rw [he] at HS
  have HT := Lib.hid (fun w h => rTable_any W H a n c bs w h h1 h2 hn)
  have HI := Lib.hid hi
  have HBd := Lib.hid (abM_bnd W H bs)
  have hNl : W + H ≤ 128 := by omega
  clear hi he hn hn4
  generalize hN : W + H = N at *
  have HN := Lib.hid hN
  generalize abM W H bs = ab at *
  clear hN h1 h2
  have hmf : ∀ (fn : Fn) (first cap : Array Value) (w : World), (Instr.makeFunc fn first cap).run Try.prog w = .ok (.func fn first cap) w := fun _ _ _ _ => rfl
  go_enter Try.func28, Try.ntmps28
  (go_wp2_with fail; refine (HS.out _).mono ?_; rintro r w1 ⟨rfl, hb⟩; obtain ⟨E, d, rfl⟩ := bExt hb; clear hb)
  go_wp2_with fail
  refine (HT.out _ (HI.out.below (by repeat (first | exact Below.refl _ _ | refine Below.drew ?_ | refine below_drewN ?_ _ | refine Below.alloc ?_ (by first | exact Nat.le_refl _ | (simp; done) | (simp; omega) | omega) _ | refine Below.setCell ?_ (by first | exact Nat.le_refl _ | (simp; done) | (simp; omega) | omega) _ | refine bExtW ?_ (by first | exact Nat.le_refl _ | (simp; done) | (simp; omega) | omega) | refine Below.trans ?_ (Below.mono (by assumption) (by first | exact Nat.le_refl _ | (simp; done) | (simp; omega) | omega)))))).mono ?_
  rintro r w1 ⟨rb, rfl, hti, hb⟩
  have hB0 : Below w.heap.size w w1 := (show Below w.heap.size w (extW (w.alloc (.cells #[.int .i64 (W), .int .i64 (H), .slice a n c] 26)) E d) from (by repeat (first | exact Below.refl _ _ | refine Below.drew ?_ | refine below_drewN ?_ _ | refine Below.alloc ?_ (by first | exact Nat.le_refl _ | (simp; done) | (simp; omega) | omega) _ | refine Below.setCell ?_ (by first | exact Nat.le_refl _ | (simp; done) | (simp; omega) | omega) _ | refine bExtW ?_ (by first | exact Nat.le_refl _ | (simp; done) | (simp; omega) | omega) | refine Below.trans ?_ (Below.mono (by assumption) (by first | exact Nat.le_refl _ | (simp; done) | (simp; omega) | omega))))).trans (hb.mono (by simp; omega))
  have hti2 := hti.below ((Below.refl _ _).alloc (Nat.le_refl _) (.cells #[.slice (some ⟨rb, 0, none⟩) N N] 76))
  have hB1 := hB0.alloc hB0.size (.cells #[.slice (some ⟨rb, 0, none⟩) N N] 76)
  clear hti hb hB0 HI HT HS
  go_wp2_with fail
  clear hmf
  have cT : (w1.alloc (.cells #[.slice (some ⟨rb, 0, none⟩) N N] 76)).cell? ⟨w1.heap.size, 0, none⟩ = some (.slice (some ⟨rb, 0, none⟩) N N) := by rw [World.cell?_alloc_new]; rfl
  generalize w1.alloc (.cells #[.slice (some ⟨rb, 0, none⟩) N N] 76) = W0 at *
  generalize w1.heap.size = tb at *
  have HTI := Lib.hid hti2
  have HB0 := Lib.hid hB1
  have HCT := Lib.hid cT
  obtain ⟨base, hbase⟩ : ∃ b, b = W0.heap.size := ⟨_, rfl⟩
  have HBS := Lib.hid hbase
  have HAB := Lib.hid (fun (wq : World) (hb : Below base W0 wq) (s : Nat) (hs : s < N) => rabove_any N rb tb (wp ab N) s wq hNl hs (hti2.below (by rw [← hbase]; exact hb)) ((bCs (by rw [← hbase]; exact hb) cT)))
  have HAT := Lib.hid (fun (wq : World) (hb : Below base W0 wq) (s a : Nat) (hs : s < N) (ha : a < N) => (hti2.below (by rw [← hbase]; exact hb)).at hs ha)
  have HCC := Lib.hid (fun (wq : World) (hb : Below base W0 wq) => (bCs (w' := wq) (by rw [← hbase]; exact hb) cT))
  clear hti2 hB1 cT hbase
  go_loopw [8, 7] (fun i v wr => ∃ c : Nat, 1 ≤ c ∧ c ≤ N + 1 ∧ i = .int .i64 c ∧ OutL base v (natLL ((hdTo N ab c).map (sheet N ab))) wr ∧ Below base W0 wr) (fun i _ _ => N + 1 - (intOf i).toNat)
  case atStart => exact ⟨1, by omega, by omega, rfl, by rw [hdTo_one]; exact OutL.nil _ _, Below.refl _ _⟩
  case round =>
    obtain ⟨c, hc1, hc2, rfl, hout, hbel⟩ := hrel
    have cT := HCC.out _ hbel
    have lT : LtW tb wr := World.block_lt_of_cell? wr _ cT
    by_cases hcN : c ≤ N
    · have HO := Lib.hid hout
      have HB := Lib.hid hbel
      clear hout hbel
      obtain ⟨wo, rfl⟩ : ∃ wo : World, wo = wr := ⟨_, rfl⟩
      go_wp2_with fail
      clear cT lT
      go_loopw [29, 7] (fun i v wr => ∃ s : Nat, s ≤ N ∧ i = .int .i64 s ∧ OutL base v (natLL ((hdTo N ab c ++ (List.range s).filter (hdP N ab c)).map (sheet N ab))) wr ∧ Below base W0 wr) (fun i _ _ => N - (intOf i).toNat)
      case atStart => exact ⟨0, Nat.zero_le _, rfl, by simpa using HO.out, HB.out⟩
      case round =>
        clear HO HB
        obtain ⟨s, hs, rfl, hout, hbel⟩ := hrel
        have HO := Lib.hid hout
        have HB := Lib.hid hbel
        clear hout hbel
        by_cases hsN : s < N
        · have HF := Lib.hid (filter_snoc s (hdP N ab c))
          have hcl := cov_le (n := N) (ab := ab) s
          have HAS : Hid (∀ wq, Below base W0 wq → Calls Try.prog 65 #[.int .i64 (s), .pointer (some ⟨tb, 0, none⟩)] wq fun e w' => e = .returned (.int .i64 ((cov N ab s : Nat))) ∧ Below wq.heap.size wq w') := Lib.hid fun wq hb => HAB.out wq hb s hsN
          have hhp : hdP N ab c s = (decide (cov N ab s = c) && isHd N ab s) := rfl
          generalize cov N ab s = cv at *
          generalize hdP N ab c s = hp at *
          by_cases hcc : cv = c
          · have hd1 : ((cv : Int) != (c : Int)) = false := by simp [hcc]
            have hd2 : (cv != c) = false := by simp [hcc]
            rw [decide_eq_true hcc, Bool.true_and] at hhp
            have HHP := Lib.hid hhp
            clear hcc hhp
            go_wp2_with fail
            refine (HAS.out _ HB.out).mono ?_
            rintro r S ⟨rfl, hb⟩
            have HO2 := Lib.hid (HO.out.below hb)
            have HB2 := Lib.hid (HB.out.trans (hb.mono (Nat.le_trans (by have := HBS.out; omega) HB.out.size)))
            have cT := HCC.out _ HB2.out
            have lT : LtW tb S := World.block_lt_of_cell? S _ cT
            have hsS : base ≤ S.heap.size := Nat.le_trans (by have := HBS.out; omega) HB2.out.size
            clear hb HO HB
            go_wp2_with fail
            clear cT lT
            go_loopw [39, 10, 11] (fun i f v wq => ∃ x : Nat, x ≤ N ∧ i = .int .i64 x ∧ f = .bool (fB N ab s x) ∧ wq.ownsRow S.heap.size 3 1 v ((List.range x).filter (fun a => scc N ab a s)).length (natV ((List.range x).filter (fun a => scc N ab a s))) ∧ Below S.heap.size S wq) (fun i _ _ _ => N - (intOf i).toNat)
            case atStart => exact ⟨0, Nat.zero_le _, rfl, rfl, World.ownsRow_nil _ _ _ _, Below.refl _ _⟩
            case round =>
              obtain ⟨x, hx, rfl, rfl, hown, hX5⟩ := hrel
              have HX5 := Lib.hid hX5
              have hbw : Below base W0 wr := HB2.out.trans (hX5.mono hsS)
              by_cases hxN : x < N
              · have cT := HCC.out _ hbw
                have lT : LtW tb wr := World.block_lt_of_cell? wr _ cT
                obtain ⟨g1, c1, e1, lg1, f1, lrb⟩ := HAT.out _ hbw x s hxN hsN
                obtain ⟨g2, c2, e2, lg2, f2, _⟩ := HAT.out _ hbw s x hsN hxN
                have hi0 : (0 : Int) ≤ (x : Int) := by omega
                have hi1 : (x : Int) < (N : Int) := by omega
                have hi2 : (0 : Int) ≤ (s : Int) := by omega
                have hi3 : (s : Int) < (N : Int) := by omega
                have hsc : scc N ab x s = (wp ab N x s && wp ab N s x) := rfl
                have hfb : fB N ab s (x+1) = if scc N ab x s then fB N ab s x && decide (s ≤ x) else fB N ab s x := rfl
                have HFS := Lib.hid (filter_snoc x (fun a => scc N ab a s))
                have HO := Lib.hid hown
                have hll : ((List.range x).filter (fun a => scc N ab a s)).length ≤ x := cnt_le x _
                have hsz5 := hX5.size
                clear hown hX5 hbw
                cases hw1 : wp ab N x s with
                | false =>
                  rw [hw1] at f1 hsc
                  rw [Bool.false_and] at hsc
                  rw [hsc] at hfb
                  have HSC := Lib.hid hsc
                  have HFB := Lib.hid hfb
                  clear hw1 hsc hfb f2
                  generalize fB N ab s x = fb at *
                  go_wp2
                  go_roundw
                  case rel => exact ⟨x + 1, by omega, by go_num, by rw [HFB.out]; rfl, by rw [HFS.out, HSC.out]; simpa using HO.out, HX5.out⟩
                  case measure => simp [intOf]; omega
                | true =>
                  rw [hw1] at f1 hsc
                  rw [Bool.true_and] at hsc
                  cases hw2 : wp ab N s x with
                  | false =>
                    rw [hw2] at f2 hsc
                    rw [hsc] at hfb
                    have HSC := Lib.hid hsc
                    have HFB := Lib.hid hfb
                    clear hw1 hw2 hsc hfb
                    generalize fB N ab s x = fb at *
                    go_wp2
                    go_roundw
                    case rel => exact ⟨x + 1, by omega, by go_num, by rw [HFB.out]; rfl, by rw [HFS.out, HSC.out]; simpa using HO.out, HX5.out⟩
                    case measure => simp [intOf]; omega
                  | true =>
                    rw [hw2] at f2 hsc
                    rw [hsc] at hfb
                    have HSC := Lib.hid hsc
                    have HFB := Lib.hid hfb
                    clear hw1 hw2 hsc hfb
                    generalize (List.range x).filter (fun a => scc N ab a s) = L at *
                    cases hfx : fB N ab s x with
                    | true =>
                      rw [hfx] at HFB
                      clear hfx
                      go_wp2_with (at_builtin; refine wpApp okInts' rfl (.tmp 64) (.tmp 66) rfl S.heap.size _ _ _ #[.int .i64 x] rfl HO.out rfl rfl ?_ (by omega) (by omega) hsz5 ?_)
                      · simp [Value.oneCell']
                      intro v' w2 hown2 hb2
                      rw [← natV_snoc] at hown2
                      have HO3 := Lib.hid hown2
                      have HX6 := Lib.hid (HX5.out.trans hb2)
                      clear hown2 hb2 f1 f2 e1 e2 cT
                      go_wp2
                      go_roundw
                      case rel => exact ⟨x + 1, by omega, by go_num, by rw [HFB.out]; simp, by rw [HFS.out, HSC.out]; simp only [if_true]; rw [List.length_append]; exact HO3.out, HX6.out⟩
                      case measure => simp [intOf]; omega
                    | false =>
                      rw [hfx] at HFB
                      clear hfx
                      go_wp2_with (at_builtin; refine wpApp okInts' rfl (.tmp 64) (.tmp 66) rfl S.heap.size _ _ _ #[.int .i64 x] rfl HO.out rfl rfl ?_ (by omega) (by omega) hsz5 ?_)
                      · simp [Value.oneCell']
                      intro v' w2 hown2 hb2
                      rw [← natV_snoc] at hown2
                      have HO3 := Lib.hid hown2
                      have HX6 := Lib.hid (HX5.out.trans hb2)
                      clear hown2 hb2 f1 f2 e1 e2 cT
                      go_wp2
                      go_roundw
                      case rel => exact ⟨x + 1, by omega, by go_num, by rw [HFB.out]; simp, by rw [HFS.out, HSC.out]; simp only [if_true]; rw [List.length_append]; exact HO3.out, HX6.out⟩
                      case measure => simp [intOf]; omega
              · obtain rfl : N = x := by omega
                have HSH : Hid ((List.range N).filter (fun a => scc N ab a s) = sheet N ab s) := Lib.hid rfl
                have HBW := Lib.hid hbw
                have hOUT5 := HO2.out.below hX5
                obtain ⟨AO, cO, rfl⟩ := hOUT5.form
                have HO5 := Lib.hid hOUT5
                obtain ⟨vs, ho5, hr5⟩ := hOUT5
                have HV5 := Lib.hid ho5; have HR5 := Lib.hid hr5
                have HI5 := Lib.hid (IntRow.of_nats hown)
                obtain ⟨AS, cS, rfl⟩ := own_form hown
                have hszW : base ≤ wr.heap.size := Nat.le_trans hsS hX5.size
                have HFA := Lib.hid (fB_all (ab := ab) hsN)
                rw [HFA.out]
                have hln : (natLL ((hdTo N ab c ++ (List.range s).filter (hdP N ab c)).map (sheet N ab))).length ≤ 1000 := by
                  have h1 := cnt_le N (fun s => isHd N ab s && decide (cov N ab s < c))
                  have h2 := hdTo_len (n := N) (ab := ab) c
                  have h3 := cnt_le s (hdP N ab c)
                  unfold cnt at h3
                  rw [natLL_len, List.length_map, List.length_append, h2]; omega
                clear hown hX5 hbw ho5 hr5 HX5 HO2 HB2
                rw [HSH.out] at HI5 ⊢
                cases hhd : isHd N ab s with
                | false =>
                  have hhp : hp = false := by rw [HHP.out, hhd]
                  have HHF := Lib.hid hhp
                  clear hhp hhd
                  go_wp2
                  go_roundw
                  case rel => exact ⟨s + 1, by omega, by go_num, by rw [HF.out, HHF.out]; simpa using HO5.out, HBW.out⟩
                  case measure => simp [intOf]; omega
                | true =>
                  have hhp : hp = true := by rw [HHP.out, hhd]
                  have HHF := Lib.hid hhp
                  clear hhp hhd
                  generalize hLL : natLL ((hdTo N ab c ++ (List.range s).filter (hdP N ab c)).map (sheet N ab)) = LL at *
                  have HLL := Lib.hid hLL
                  clear hLL
                  obtain ⟨ln, hln2⟩ : ∃ n, LL.length = n := ⟨_, rfl⟩
                  rw [hln2] at hln HV5 ⊢
                  have HLN := Lib.hid hln2
                  clear hln2
                  go_wp2_with (at_builtin; refine wpAppG okLists rfl (.tmp 70) (.tmp 72) rfl base _ _ _ #[.slice AS (sheet N ab s).length cS] wr.heap.size rfl (HV5.out.alloc _) rfl ?_ rfl ?_ (by omega) (by omega) (by rw [World.size_alloc]; omega) ?_)
                  · intro j u hj
                    rw [World.cell?_alloc_new]; exact hj
                  · simp [Value.oneCell']
                  · intro v' w2 hown2 hg2
                    obtain ⟨A2, c2, rfl⟩ := own_form hown2
                    have hal : Below wr.heap.size wr (wr.alloc (.cells #[.slice AS (sheet N ab s).length cS] 23)) := (Below.refl _ _).alloc (Nat.le_refl _) _
                    have HOUTN := Lib.hid (OutL.app (LL := LL) (zs := natI (sheet N ab s)) (by rw [HLN.out]; exact HV5.out) HR5.out HI5.out hal (by rw [HLN.out]; exact hown2) hg2)
                    have HBN := Lib.hid ((HBW.out.trans (hal.mono hszW)).grown hg2 (by rw [World.size_alloc]; omega) (fun k e => (HV5.out.lt k e).1))
                    clear hown2 hg2 hal
                    go_wp2
                    go_roundw
                    case rel => exact ⟨s + 1, by omega, by go_num, by
                      rw [HF.out, HHF.out]
                      simp only [if_true]
                      rw [← List.append_assoc, List.map_append, show natLL (((hdTo N ab c ++ (List.range s).filter (hdP N ab c)).map (sheet N ab)) ++ [s].map (sheet N ab)) = natLL ((hdTo N ab c ++ (List.range s).filter (hdP N ab c)).map (sheet N ab)) ++ [natI (sheet N ab s)] by simp [natLL], HLL.out]
                      exact HOUTN.out, HBN.out⟩
                    case measure => simp [intOf]; omega
          · have hd1 : ((cv : Int) != (c : Int)) = true := by simp; omega
            have hd2 : (cv != c) = true := by simp [hcc]
            rw [decide_eq_false hcc, Bool.false_and] at hhp
            have HHP := Lib.hid hhp
            clear hcc hhp
            go_wp2_with fail
            refine (HAS.out _ HB.out).mono ?_
            rintro r wx ⟨rfl, hb⟩
            have HO2 := Lib.hid (HO.out.below hb)
            have HB2 := Lib.hid (HB.out.trans (hb.mono (Nat.le_trans (by have := HBS.out; omega) HB.out.size)))
            clear hb
            go_wp2
            go_roundw
            case rel => exact ⟨s + 1, by omega, by go_num, by rw [HF.out, HHP.out]; simpa using HO2.out, HB2.out⟩
            case measure => simp [intOf]; omega
        · obtain rfl : N = s := by omega
          go_wp2
          go_roundw
          case rel => exact ⟨c + 1, by omega, by omega, by go_num, HO.out, HB.out⟩
          case measure => simp [intOf]; omega
    · obtain rfl : c = N + 1 := by omega
      have HLE : Hid ((hdTo N ab (N+1)).map (sheet N ab) = layers N ab) := Lib.hid rfl
      rw [HLE.out] at hout
      obtain ⟨AO, cO, rfl, hls⟩ := hout.lists
      rw [natLL_len] at hls
      rw [natLL_len]
      have HLS := Lib.hid hls
      have HBW := Lib.hid (HB0.out.trans (hbel.mono (by have := HBS.out; have := HB0.out.size; omega)))
      clear hout hls hbel
      generalize layers N ab = LY at *
      go_wp2
      go_ret2
      exact ⟨AO, cO, rfl, HLS.out, HBW.out⟩
end Go.Proofs.Ytikddfjickkhhaa
