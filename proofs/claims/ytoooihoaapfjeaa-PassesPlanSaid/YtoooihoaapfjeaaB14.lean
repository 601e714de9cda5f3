/- Lemmas and contracts of functions (what each call returns, and that it changes nothing that was there) that the proof of a law of this seat uses; each lemma states its own conditions. -/
import Derived.Test.YtoooihoaapfjeaaB13
import Derived.Test.YtoooihoaapfjeaaB08
namespace Go.Proofs.Ytoooihoaapfjeaa
open Go.RowKit
set_option linter.unusedVariables false
set_option linter.unusedSimpArgs false
open Ps
set_option maxRecDepth 100000 in
set_option maxHeartbeats 8000000 in
theorem rWrong_any (fa : Option Addr) (fn fc : Nat) (fr : List Int) (ta : Option Addr) (tn tc : Nat) (to : List Int) (sl : Int) (w : World) (hI : IsInts w fa fn fr) (hT : IsInts w ta tn to) (hfn : fn ≤ 9223372036854775807) (htn : tn ≤ 9223372036854775807) (hs : (-9223372036854775808 ≤ sl ∧ sl ≤ 9223372036854775807)) :
    Calls Try.prog 9 #[.slice fa fn fc, .slice ta tn tc, .int .i64 sl] w fun e w' => e = .returned (.int .i64 (wrP fr to sl)) ∧ Below w.heap.size w w' := by
  have HI := Lib.hid hI; have HT := Lib.hid hT
  have HLF := Lib.hid hI.1; have HLT := Lib.hid hT.1
  obtain ⟨R, hR⟩ : ∃ R, wrP fr to sl = R := ⟨_, rfl⟩
  rw [hR]
  have HDF : Hid (R = if fr.length < 1 ∨ 5 < fr.length ∨ fr.length ≠ to.length then 5 else if sl < 1 ∨ 12 ≤ sl then 3 else if twice fr then 8 else if ¬ okS to sl fr ∨ ¬ okS to sl to then 8 else 0) := Lib.hid (by rw [← hR]; rfl)
  have HBW : Hid (Below w.heap.size w w) := Lib.hid (Below.refl _ _)
  clear hI hT hR
  rw [HLF.out, HLT.out] at HDF
  go_enter Try.func9, Try.ntmps9
  by_cases h1 : fn < 1
  · have HD : Hid (R = 5) := Lib.hid (by rw [HDF.out, if_pos (.inl h1)])
    obtain rfl : fn = 0 := by omega
    clear h1
    go_wp2
    go_ret
    exact ⟨by rw [HD.out] <;> rfl, HBW.out⟩
  · have b1 : decide ((fn : Int) < 1) = false := by simp; omega
    have b1' : decide (fn < 1) = false := by simp; omega
    have b1'' : (fn == 0) = false := by simp; omega
    by_cases h5 : 5 < fn
    · have HD : Hid (R = 5) := Lib.hid (by rw [HDF.out, if_pos (.inr (.inl h5))])
      have b2 : decide ((5 : Int) < (fn : Int)) = true := by simp; omega
      have b2' : decide (5 < fn) = true := by simp; omega
      clear h1 h5
      go_wp2
      go_ret
      exact ⟨by rw [HD.out] <;> rfl, HBW.out⟩
    · have b2 : decide ((5 : Int) < (fn : Int)) = false := by simp; omega
      have b2' : decide (5 < fn) = false := by simp; omega
      by_cases hne : fn = tn
      · subst hne
        by_cases hsl : sl < 1
        · have HD : Hid (R = 3) := Lib.hid (by rw [HDF.out, if_neg (by omega), if_pos (.inl hsl)])
          have b4 : decide (sl < 1) = true := by simpa using hsl
          clear h1 h5 hsl
          go_wp2
          go_ret
          exact ⟨by rw [HD.out] <;> rfl, HBW.out⟩
        · have b4 : decide (sl < 1) = false := by simpa using hsl
          by_cases hsl2 : 12 ≤ sl
          · have HD : Hid (R = 3) := Lib.hid (by rw [HDF.out, if_neg (by omega), if_pos (.inr hsl2)])
            have b5 : decide (11 < sl) = true := by simp; omega
            clear h1 h5 hsl hsl2
            go_wp2
            go_ret
            exact ⟨by rw [HD.out] <;> rfl, HBW.out⟩
          · have b5 : decide (11 < sl) = false := by simp; omega
            have HDF2 : Hid (R = if twice fr then 8 else if ¬ okS to sl fr ∨ ¬ okS to sl to then 8 else 0) := Lib.hid (by rw [HDF.out, if_neg (by omega), if_neg (by omega)])
            have bne : ((fn : Int) != (fn : Int)) = false := by simp
            clear HDF
            go_wp2_with fail
            go_loopw [7] (fun iv wr => ∃ k : Nat, k + 1 ≤ fn ∧ iv = .int .i64 ((k : Int) + 1) ∧ Hid (∀ i, i < k + 1 → 0 < i → fr.getD i 0 ≠ fr.getD (i - 1) 0) ∧ Hid (Below w.heap.size w wr)) (fun iv _ => fn - (intOf iv).toNat)
            case atStart => exact ⟨0, by omega, rfl, Lib.hid (fun i h1 h2 => absurd h1 (by omega)), Lib.hid (Below.refl _ _)⟩

            case round =>
              obtain ⟨k, hk, rfl, HK, HBR⟩ := hrel
              have HBW := HBR
              by_cases hkn : k + 1 < fn
              · obtain ⟨b, o, rfl, hbl, hc⟩ := (HI.out.below HBW.out).2 (by omega)
                have c0 := hc k (by omega)
                have c1 := hc (k + 1) hkn
                have lb : LtW b wr := hbl
                have dk : decide ((k : Int) + 1 < (fn : Int)) = true := by simp; omega
                have dk' : decide (k + 1 < fn) = true := by simpa using hkn
                have v2 : IntKind.i64.wrap (k : Int) = (k : Int) := IntWalk.i64_in _ (by omega)
                have v3 : IntKind.i64.wrap ((k : Int) + 1 - 1) = (k : Int) := by rw [Int.add_sub_cancel]; exact v2
                have v4 : IntKind.i64.wrap ((k : Int) + 1 + 1) = (k : Int) + 1 + 1 := IntWalk.i64_in _ (by omega)
                have g1 : (k : Int) < (fn : Int) := by omega
                have g1' : k < fn := by omega
                have g2 : (k : Int) + 1 < (fn : Int) := by omega
                have g3 : (0 : Int) ≤ (k : Int) + 1 := by omega
                have g4 : ((k : Int) + 1).toNat = k + 1 := by omega
                have g5 : ¬ ((k : Int) + 1 < 0) := by omega
                have HEQ : Hid (fr.getD (k + 1) 0 = fr.getD k 0 → R = 8) := Lib.hid (fun h => by
                  rw [HDF2.out, if_pos ⟨k + 1, by rw [HLF.out]; exact hkn, by omega, by rw [Nat.add_sub_cancel]; exact h⟩])
                have HNE : Hid (fr.getD (k + 1) 0 ≠ fr.getD k 0 → ∀ i, i < k + 1 + 1 → 0 < i → fr.getD i 0 ≠ fr.getD (i - 1) 0) := Lib.hid (fun h i hi h0 => by
                  by_cases e : i = k + 1
                  · subst e; rw [Nat.add_sub_cancel]; exact h
                  · exact HK.out i (by omega) h0)
                obtain ⟨x, hx⟩ : ∃ x, fr.getD (k + 1) 0 = x := ⟨_, rfl⟩
                obtain ⟨y, hy⟩ : ∃ y, fr.getD k 0 = y := ⟨_, rfl⟩
                rw [hx] at c1 HEQ HNE
                rw [hy] at c0 HEQ HNE
                clear hx hy hc hbl
                obtain ⟨bb, hbb⟩ : ∃ b, (x == y) = b := ⟨_, rfl⟩
                have HBB := Lib.hid hbb
                go_wp2_with fail
                (refine wp_region_ext (by kernel_rfl) (by kernel_rfl) ?_; (repeat (first | ((with_reducible refine ext_step (fun K hK => ?_)); go_simp; first | (refine hK _ ?_; clear hK K) | (apply Exists.intro; refine ⟨fun _ _ => ?_, hK _ ?_⟩; fail; clear hK K)))); refine wpQuiet_nil ?_; intro E d)
                have HBR2 : Hid (Below w.heap.size w (extW wr E d)) := Lib.hid (bExtW HBR.out HBR.out.size)
                have HBW2 : Hid (Below w.heap.size w (extW wr E d)) := Lib.hid (bExtW HBW.out HBW.out.size)
                clear HBR HBW c0 c1 lb
                have HBR := HBR2
                have HBW := HBW2
                generalize extW wr E d = w5 at *
                cases bb with
                | true =>
                  have HD : Hid (R = 8) := Lib.hid (HEQ.out (by have := HBB.out; simpa using this))
                  clear hbb
                  go_wp2
                  go_ret
                  exact ⟨by rw [HD.out] <;> rfl, HBW.out⟩
                | false =>
                  have HNX := Lib.hid (HNE.out (by have := HBB.out; simpa using this))
                  clear hbb
                  go_wp2
                  go_roundw
                  case rel => exact ⟨k + 1, by omega, by go_num, HNX, HBR⟩
                  case measure => simp [intOf]; omega
              · obtain rfl : k + 1 = fn := by omega
                have dk : decide ((k : Int) + 1 < (k : Int) + 1) = false := by simp
                have HNT : Hid (¬ twice fr) := Lib.hid (by
                  rintro ⟨i, h1, h2, h3⟩
                  exact HK.out i (by rw [HLF.out] at h1; exact h1) h2 h3)
                have HDF3 : Hid (R = if ¬ okS to sl fr ∨ ¬ okS to sl to then 8 else 0) := Lib.hid (by rw [HDF2.out, if_neg HNT.out])
                clear hk hkn HDF2 HK HNT
                go_wp2_with fail
                refine (rStands_any ta (k + 1) tc to sl fa (k + 1) fc fr wr (HT.out.below HBW.out) (HI.out.below HBW.out) rfl (by omega) (by omega)).mono ?_
                rintro r w5 ⟨rfl, hb5⟩
                have HBW5 := Lib.hid (HBW.out.trans (hb5.mono HBW.out.size))
                clear hb5 HBW
                have HBW := HBW5
                by_cases ho : okS to sl fr
                · have e1 : decide (okS to sl fr) = true := by simpa using ho
                  have HO1 := Lib.hid ho
                  rw [e1]
                  clear ho e1
                  go_wp2_with fail
                  refine (rStands_any ta (k + 1) tc to sl ta (k + 1) tc to w5 (HT.out.below HBW.out) (HT.out.below HBW.out) rfl (by omega) (by omega)).mono ?_
                  rintro r w6 ⟨rfl, hb6⟩
                  have HBW6 := Lib.hid (HBW.out.trans (hb6.mono HBW.out.size))
                  clear hb6 HBW
                  have HBW := HBW6
                  by_cases ho2 : okS to sl to
                  · have e1 : decide (okS to sl to) = true := by simpa using ho2
                    have HD : Hid (R = 0) := Lib.hid (by
                      rw [HDF3.out, if_neg]
                      rintro (h | h)
                      · exact h HO1.out
                      · exact h ho2)
                    rw [e1]
                    clear ho2 e1
                    go_wp2
                    go_ret
                    exact ⟨by rw [HD.out] <;> rfl, HBW.out⟩
                  · have e1 : decide (okS to sl to) = false := by simpa using ho2
                    have HD : Hid (R = 8) := Lib.hid (by rw [HDF3.out, if_pos (.inr ho2)])
                    rw [e1]
                    clear ho2 e1
                    go_wp2
                    go_ret
                    exact ⟨by rw [HD.out] <;> rfl, HBW.out⟩
                · have e1 : decide (okS to sl fr) = false := by simpa using ho
                  have HD : Hid (R = 8) := Lib.hid (by rw [HDF3.out, if_pos (.inl ho)])
                  rw [e1]
                  clear ho e1
                  go_wp2
                  go_ret
                  exact ⟨by rw [HD.out] <;> rfl, HBW.out⟩
      · have HD : Hid (R = 5) := Lib.hid (by rw [HDF.out, if_pos (.inr (.inr hne))])
        have b3 : ((fn : Int) == (tn : Int)) = false := by simp; omega
        have b3' : ((fn : Int) != (tn : Int)) = true := by simp; omega
        have b4 : ((tn : Int) != (fn : Int)) = true := by simp; omega
        have b4' : (tn != fn) = true := by simp; omega
        have b3'' : (fn == tn) = false := by simpa using hne
        have b3''' : (fn != tn) = true := by simpa using hne
        clear h1 h5 hne
        go_wp2
        go_ret
        exact ⟨by rw [HD.out] <;> rfl, HBW.out⟩
end Go.Proofs.Ytoooihoaapfjeaa

namespace Go.Proofs.Ytoooihoaapfjeaa
open Go.RowKit
set_option linter.unusedVariables false
set_option linter.unusedSimpArgs false
open Ps
set_option maxRecDepth 100000 in
set_option maxHeartbeats 8000000 in
theorem rpower_any (n : Nat) (hn : n ≤ 40) (w : World) : Calls Try.prog 25 #[.int .i64 (n)] w fun e w' => e = .returned (.int .i64 (((2 ^ n : Nat) : Int))) ∧ w' = w := by
  go_enter Try.func25, Try.ntmps25
  go_wp2_with fail
  go_loopw [0, 3] (fun iv xv wr => ∃ (k : Nat), k ≤ n ∧ iv = .int .i64 (((n - k : Nat) : Int)) ∧ xv = .int .i64 (((2 ^ k : Nat) : Int)) ∧ wr = w) (fun iv _ _ => (intOf iv).toNat)
  case atStart => exact ⟨0, by omega, rfl, rfl, rfl⟩
  case round =>
    obtain ⟨k, hk, rfl, rfl, rfl⟩ := hrel
    by_cases hkn : k < n
    · obtain ⟨j, hj⟩ : ∃ j, n - k = j + 1 := ⟨n - k - 1, by omega⟩
      have hj' : n - (k + 1) = j := by omega
      rw [hj]
      have hp : 2 ^ k ≤ 2 ^ 40 := Nat.pow_le_pow_right (by omega) (by omega)
      have hs : 2 ^ (k + 1) = 2 * 2 ^ k := by rw [Nat.pow_succ, Nat.mul_comm]
      have dz : decide ((0 : Int) < ((j + 1 : Nat) : Int)) = true := by simp
      have hj9 : j ≤ 100 := by omega
      have HJ := Lib.hid hj'; have HS := Lib.hid hs
      generalize 2 ^ k = X at *
      clear hj hs hj'
      have v1 : IntKind.i64.wrap (2 * (X : Int)) = 2 * (X : Int) := IntWalk.i64_in _ (by omega)
      go_wp2
      go_roundw
      case rel => exact ⟨k + 1, by omega, by rw [HJ.out], by rw [HS.out]; push_cast; rfl, by first | rfl | trivial⟩
      case measure => simp [intOf]
    · obtain rfl : k = n := by omega
      rw [Nat.sub_self]
      go_wp2
      go_ret
      exact ⟨rfl, rfl⟩
theorem mv_take {zs : List Int} {b : Int} {wh k : Nat} (h : k < zs.length) : (mv zs b wh).take (k + 1) = (mv zs b wh).take k ++ [if bit wh k then zs.getD k 0 + b else zs.getD k 0] := by
  rw [List.take_add_one, ← mv_get _ _ _ _ h, List.getD_eq_getElem?_getD, List.getElem?_eq_getElem (by rw [mv_len]; exact h)]
  rfl
set_option maxRecDepth 100000 in
set_option maxHeartbeats 8000000 in
theorem rBehind_any (a : Option Addr) (n c : Nat) (zs : List Int) (b : Int) (wh : Nat) (w : World) (hI : IsInts w a n zs) (hn : n ≤ 5) (hb : ∀ x ∈ zs, -50 ≤ x ∧ x ≤ 50) (hbb : -2 ≤ b ∧ b ≤ 2) (hwh : wh < 32) :
    Calls Try.prog 23 #[.slice a n c, .int .i64 (b), .int .i64 (wh)] w (IPost (mv zs b wh) w) := by
  have HI := Lib.hid hI; have HB := Lib.hid hb; have HL := Lib.hid hI.1
  clear hI hb
  go_enter Try.func23, Try.ntmps23
  go_wp2_with fail
  go_loopw [2, 7, 12] (fun qv v iv wr => ∃ (k : Nat), k ≤ n ∧ iv = .int .i64 (k) ∧ qv = .int .i64 (((wh / 2 ^ k : Nat) : Int)) ∧ Hid (wr.ownsRow w.heap.size 3 1 v k (((mv zs b wh).take k).map i64v)) ∧ Hid (Below w.heap.size w wr)) (fun _ _ iv _ => n - (intOf iv).toNat)
  case atStart => exact ⟨0, by omega, rfl, by simp, Lib.hid ⟨rfl, .inl ⟨rfl, rfl⟩⟩, Lib.hid (Below.refl _ _)⟩
  case round =>
    obtain ⟨k, hk, rfl, rfl, HO, HBR⟩ := hrel
    by_cases hkn : k < n
    · obtain ⟨bl, o, rfl, hbl, hc⟩ := (HI.out.below HBR.out).2 (by omega)
      have lb : LtW bl wr := hbl
      have c0 := hc k hkn
      have dk : decide ((k : Int) < (n : Int)) = true := by simp; omega
      have dk' : decide (k < n) = true := by simpa using hkn
      have hx : -50 ≤ zs.getD k 0 ∧ zs.getD k 0 ≤ 50 := by
        rw [List.getD_eq_getElem?_getD, List.getElem?_eq_getElem (by have := HL.out; omega)]
        exact HB.out _ (List.getElem_mem _)
      have HTK := Lib.hid (mv_take (b := b) (wh := wh) (show k < zs.length by rw [HL.out]; exact hkn))
      generalize zs.getD k 0 = x at *
      have v1 : IntKind.i64.wrap (x + b) = x + b := IntWalk.i64_in _ (by omega)
      have hq : wh / 2 ^ k < 64 := Nat.lt_of_le_of_lt (Nat.div_le_self _ _) (by omega)
      have hq2 : wh / 2 ^ (k + 1) = wh / 2 ^ k / 2 := by rw [Nat.pow_succ, Nat.div_div_eq_div_mul]
      have HQB : Hid ((wh / 2 ^ k % 2 == 1) = bit wh k) := Lib.hid rfl
      have HQ2 := Lib.hid hq2
      clear hq2 hbl hc
      generalize wh / 2 ^ k = Q at *
      have hQ2 : Q % 2 = 0 ∨ Q % 2 = 1 := by omega
      rcases hQ2 with h2 | h2
      · have HBT : Hid ((if bit wh k then x + b else x) = x) := Lib.hid (by rw [← HQB.out, h2]; rfl)
        obtain ⟨y, rfl⟩ : ∃ y, Q = 2 * y := ⟨Q / 2, by omega⟩
        have HY : Hid (wh / 2 ^ (k + 1) = y) := Lib.hid (by rw [HQ2.out]; omega)
        go_wp2_with (at_builtin; refine wpApp okI8 rfl (.tmp 24) (.tmp 26) rfl w.heap.size _ _ _ #[.int .i64 (x)] rfl HO.out rfl rfl (by simp [Value.oneCell']) (by omega) (by omega) HBR.out.size ?_)
        intro v' w4 hown4 hb4
        have HO4 : Hid (w4.ownsRow w.heap.size 3 1 v' (k + 1) (((mv zs b wh).take (k + 1)).map i64v)) := Lib.hid (by
          rw [HTK.out, HBT.out, List.map_append, List.map_take]; exact hown4)
        have HB4 : Hid (Below w.heap.size w w4) := Lib.hid (HBR.out.trans hb4)
        clear hown4 hb4
        go_wp2
        go_roundw
        case rel => exact ⟨k + 1, by omega, by go_num, by first | (rw [HY.out]; done) | (rw [HY.out]; congr 1; omega), HO4, HB4⟩
        case measure => simp [intOf]; omega
      · have HBT : Hid ((if bit wh k then x + b else x) = x + b) := Lib.hid (by rw [← HQB.out, h2]; rfl)
        obtain ⟨y, rfl⟩ : ∃ y, Q = 2 * y + 1 := ⟨Q / 2, by omega⟩
        have HY : Hid (wh / 2 ^ (k + 1) = y) := Lib.hid (by rw [HQ2.out]; omega)
        go_wp2_with (at_builtin; refine wpApp okI8 rfl (.tmp 24) (.tmp 26) rfl w.heap.size _ _ _ #[.int .i64 (x + b)] rfl HO.out rfl rfl (by simp [Value.oneCell']) (by omega) (by omega) HBR.out.size ?_)
        intro v' w4 hown4 hb4
        have HO4 : Hid (w4.ownsRow w.heap.size 3 1 v' (k + 1) (((mv zs b wh).take (k + 1)).map i64v)) := Lib.hid (by
          rw [HTK.out, HBT.out, List.map_append, List.map_take]; exact hown4)
        have HB4 : Hid (Below w.heap.size w w4) := Lib.hid (HBR.out.trans hb4)
        clear hown4 hb4
        go_wp2
        go_roundw
        case rel => exact ⟨k + 1, by omega, by go_num, by first | (rw [HY.out]; done) | (rw [HY.out]; congr 1; omega), HO4, HB4⟩
        case measure => simp [intOf]; omega
    · obtain rfl : k = n := by omega
      have dk : decide ((k : Int) < (k : Int)) = false := by simp
      have ho := HO.out
      rw [show (mv zs b wh).take k = mv zs b wh by rw [List.take_of_length_le]; rw [mv_len, HL.out]; exact Nat.le_refl _] at ho
      have hl : (mv zs b wh).length = k := by rw [mv_len]; exact HL.out
      obtain ⟨A, C, e, _⟩ := ints_owns (L := mv zs b wh) (by rw [hl]; exact ho)
      rw [hl] at e
      subst e
      have HO2 := Lib.hid ho; have HL2 := Lib.hid hl
      clear ho hl
      go_wp2
      go_ret
      refine ⟨A, C, by rw [HL2.out]; rfl, ?_, HBR.out⟩
      rw [HL2.out]
      exact HO2.out
end Go.Proofs.Ytoooihoaapfjeaa
