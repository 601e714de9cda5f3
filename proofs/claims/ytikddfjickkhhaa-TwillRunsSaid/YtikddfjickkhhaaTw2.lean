/- Lemmas and contracts of functions (what each call returns, and that it changes nothing that was there) that the proof of a law of this seat uses; each lemma states its own conditions. -/
import Derived.Test.YtikddfjickkhhaaNat
import Derived.Test.YtikddfjickkhhaaTwP
import Derived.Test.YtikddfjickkhhaaFB
namespace Go.Proofs.Ytikddfjickkhhaa
open Go.RowKit
set_option linter.unusedVariables false
set_option linter.unusedSimpArgs false
open Tw
def mF (N H : Int) (v : Value) : Nat → Value := fun j => if j = 0 then .int .i64 N else if j = 1 then .int .i64 H else v
def TwillPost (zs : List Int) (move : Int) (w : World) (r : Ending) (w' : World) : Prop :=
  (twE zs move ≠ 0 ∧ r = .returned (.tuple #[.agg #[.int .i64 0, .int .i64 0, .slice none 0 0], .int .i64 (twE zs move)]) ∧ Below w.heap.size w w') ∨
  (twE zs move = 0 ∧ ∃ (N : Nat) (A : Option Addr) (c : Nat), (N : Int) = sumTo zs zs.length ∧ r = .returned (.tuple #[.agg #[.int .i64 (N), .int .i64 (N), .slice A (N * N) c], .int .i64 (0)]) ∧ OkT w' A (N * N) c (bitsTo (rowTo zs zs.length) N move (N * N)) ∧ Below w.heap.size w w')
theorem OkT.of_owns' {w : World} {base n : Nat} {v : Value} {L : List Bool} (hn : L.length = n) (h : w.ownsRow base 4 1 v n (L.map Value.bool)) : ∃ a c, v = .slice a n c ∧ OkT w a n c L := by
  subst hn
  obtain ⟨a, c, h1, h2, _⟩ := OkT.of_owns h
  exact ⟨a, c, h1, h2⟩
theorem TwillPost.bad {zs : List Int} {move e : Int} {w w' : World} {r : Ending} (he : twE zs move = e) (h0 : e ≠ 0) (hr : r = .returned (.tuple #[.agg #[.int .i64 0, .int .i64 0, .slice none 0 0], .int .i64 (e)])) (hb : Below w.heap.size w w') : TwillPost zs move w r w' := by
  subst he; exact .inl ⟨h0, hr, hb⟩
set_option maxRecDepth 100000 in
set_option maxHeartbeats 8000000 in
theorem Twill_any (a : Option Addr) (n c : Nat) (zs : List Int) (move : Int) (w : World) (hi : IsInts w a n zs) (hn : n ≤ 9223372036854775807) (hm : (-9223372036854775808 ≤ move ∧ move ≤ 9223372036854775807)) :
    Calls Try.prog 32 #[.slice a n c, .int .i64 (move)] w (TwillPost zs move w) := by
  have HI := Lib.hid hi
  have HL := Lib.hid hi.1
  by_cases h1 : n = 0 ∨ n % 2 = 1 ∨ 16 < n
  · have HE : Hid (twE zs move = 5) := Lib.hid (by unfold twE; rw [if_pos (by rw [HL.out]; exact h1)])
    clear hi
    rcases (show n = 0 ∨ (n ≠ 0 ∧ n % 2 = 1) ∨ (n ≠ 0 ∧ n % 2 = 0 ∧ 16 < n) by omega) with rfl | ⟨h0, h2⟩ | ⟨h0, h2, h3⟩
    · clear h1
      go_enter Try.func32, Try.ntmps32
      go_wp2
      refine bodyPost_ret (v := .tuple #[.agg #[.int .i64 0, .int .i64 0, .slice none 0 0], .int .i64 (5)]) (by simp [results, Try.results32, go_sem]) rfl (TwillPost.bad HE.out (by decide) rfl (by repeat (first | exact Below.refl _ _ | refine Below.drew ?_ | refine below_drewN ?_ _ | refine Below.alloc ?_ (by first | exact Nat.le_refl _ | (simp; done) | (simp; omega) | omega) _ | refine Below.setCell ?_ (by first | exact Nat.le_refl _ | (simp; done) | (simp; omega) | omega) _ | refine bExtW ?_ (by first | exact Nat.le_refl _ | (simp; done) | (simp; omega) | omega) | refine Below.trans ?_ (Below.mono (by assumption) (by first | exact Nat.le_refl _ | (simp; done) | (simp; omega) | omega)))))
    · have e0 : ((n : Int) == 0) = false := by simpa using h0
      have e2 : (n : Int) % 2 = 1 := by omega
      clear h1 h0 h2
      go_enter Try.func32, Try.ntmps32
      go_wp2
      refine bodyPost_ret (v := .tuple #[.agg #[.int .i64 0, .int .i64 0, .slice none 0 0], .int .i64 (5)]) (by simp [results, Try.results32, go_sem]) rfl (TwillPost.bad HE.out (by decide) rfl (by repeat (first | exact Below.refl _ _ | refine Below.drew ?_ | refine below_drewN ?_ _ | refine Below.alloc ?_ (by first | exact Nat.le_refl _ | (simp; done) | (simp; omega) | omega) _ | refine Below.setCell ?_ (by first | exact Nat.le_refl _ | (simp; done) | (simp; omega) | omega) _ | refine bExtW ?_ (by first | exact Nat.le_refl _ | (simp; done) | (simp; omega) | omega) | refine Below.trans ?_ (Below.mono (by assumption) (by first | exact Nat.le_refl _ | (simp; done) | (simp; omega) | omega)))))
    · have e0 : ((n : Int) == 0) = false := by simpa using h0
      have e2 : (n : Int) % 2 = 0 := by omega
      clear h1 h0 h2
      go_enter Try.func32, Try.ntmps32
      go_wp2
      refine bodyPost_ret (v := .tuple #[.agg #[.int .i64 0, .int .i64 0, .slice none 0 0], .int .i64 (5)]) (by simp [results, Try.results32, go_sem]) rfl (TwillPost.bad HE.out (by decide) rfl (by repeat (first | exact Below.refl _ _ | refine Below.drew ?_ | refine below_drewN ?_ _ | refine Below.alloc ?_ (by first | exact Nat.le_refl _ | (simp; done) | (simp; omega) | omega) _ | refine Below.setCell ?_ (by first | exact Nat.le_refl _ | (simp; done) | (simp; omega) | omega) _ | refine bExtW ?_ (by first | exact Nat.le_refl _ | (simp; done) | (simp; omega) | omega) | refine Below.trans ?_ (Below.mono (by assumption) (by first | exact Nat.le_refl _ | (simp; done) | (simp; omega) | omega)))))
  · have e0 : ((n : Int) == 0) = false := by simp; omega
    have e2 : (n : Int) % 2 = 0 := by omega
    have hn16 : n ≤ 16 ∧ 2 ≤ n := by omega
    have HE0 := Lib.hid h1
    clear hi h1
    go_enter Try.func32, Try.ntmps32
    go_wp2_with fail
    clear e0 e2
    go_loopw [32, 6] (fun i s wr => ∃ k : Nat, k ≤ n ∧ i = .int .i64 k ∧ s = .int .i64 (sumTo zs k) ∧ Hid (∀ j, j < k → 1 ≤ zs.getD j 0 ∧ zs.getD j 0 ≤ 64) ∧ ((k : Int) ≤ sumTo zs k ∧ sumTo zs k ≤ 64 * k) ∧ wr = w.alloc (.cells #[.int .i64 0, .int .i64 0, .slice none 0 0] 26)) (fun i _ _ => n - (intOf i).toNat)
    case atStart => exact ⟨0, Nat.zero_le _, rfl, rfl, Lib.hid (by omega), by simp [sumTo], rfl⟩
    case round =>
      obtain ⟨k, hk, rfl, rfl, HR, hsb, rfl⟩ := hrel
      by_cases hkn : k < n
      · obtain ⟨b, o, rfl, hbl, hc⟩ := (HI.out.below (show Below w.heap.size w (w.alloc (.cells #[.int .i64 0, .int .i64 0, .slice none 0 0] 26)) from (by repeat (first | exact Below.refl _ _ | refine Below.drew ?_ | refine below_drewN ?_ _ | refine Below.alloc ?_ (by first | exact Nat.le_refl _ | (simp; done) | (simp; omega) | omega) _ | refine Below.setCell ?_ (by first | exact Nat.le_refl _ | (simp; done) | (simp; omega) | omega) _ | refine bExtW ?_ (by first | exact Nat.le_refl _ | (simp; done) | (simp; omega) | omega) | refine Below.trans ?_ (Below.mono (by assumption) (by first | exact Nat.le_refl _ | (simp; done) | (simp; omega) | omega)))))).2 (by omega)
        have c0 := hc k hkn
        have HS : Hid (sumTo zs (k+1) = sumTo zs k + zs.getD k 0) := Lib.hid rfl
        have HB : Hid (¬ (1 ≤ zs.getD k 0 ∧ zs.getD k 0 ≤ 64) → twE zs move = 3) := Lib.hid fun h => twE_3 (by rw [HL.out]; exact HE0.out) fun hh => h (hh k (by rw [HL.out]; exact hkn))
        obtain ⟨z, hz⟩ : ∃ z, z = zs.getD k 0 := ⟨_, rfl⟩
        rw [← hz] at c0 HS HB
        have HZ := Lib.hid hz
        clear hc hz hbl
        generalize sumTo zs k = s at *
        by_cases hz1 : z < 1
        · have HE := Lib.hid (HB.out (by omega))
          go_wp2
          refine bodyPost_ret (v := .tuple #[.agg #[.int .i64 0, .int .i64 0, .slice none 0 0], .int .i64 (3)]) (by simp [results, Try.results32, go_sem]) rfl (TwillPost.bad HE.out (by decide) rfl (by repeat (first | exact Below.refl _ _ | refine Below.drew ?_ | refine below_drewN ?_ _ | refine Below.alloc ?_ (by first | exact Nat.le_refl _ | (simp; done) | (simp; omega) | omega) _ | refine Below.setCell ?_ (by first | exact Nat.le_refl _ | (simp; done) | (simp; omega) | omega) _ | refine bExtW ?_ (by first | exact Nat.le_refl _ | (simp; done) | (simp; omega) | omega) | refine Below.trans ?_ (Below.mono (by assumption) (by first | exact Nat.le_refl _ | (simp; done) | (simp; omega) | omega)))))
        · by_cases hz2 : 64 < z
          · have HE := Lib.hid (HB.out (by omega))
            go_wp2
            refine bodyPost_ret (v := .tuple #[.agg #[.int .i64 0, .int .i64 0, .slice none 0 0], .int .i64 (3)]) (by simp [results, Try.results32, go_sem]) rfl (TwillPost.bad HE.out (by decide) rfl (by repeat (first | exact Below.refl _ _ | refine Below.drew ?_ | refine below_drewN ?_ _ | refine Below.alloc ?_ (by first | exact Nat.le_refl _ | (simp; done) | (simp; omega) | omega) _ | refine Below.setCell ?_ (by first | exact Nat.le_refl _ | (simp; done) | (simp; omega) | omega) _ | refine bExtW ?_ (by first | exact Nat.le_refl _ | (simp; done) | (simp; omega) | omega) | refine Below.trans ?_ (Below.mono (by assumption) (by first | exact Nat.le_refl _ | (simp; done) | (simp; omega) | omega)))))
          · have HR1 : Hid (∀ j, j < k + 1 → 1 ≤ zs.getD j 0 ∧ zs.getD j 0 ≤ 64) := Lib.hid (by
              intro j hj
              by_cases e : j = k
              · subst e; rw [← HZ.out]; omega
              · exact HR.out j (by omega))
            go_wp2
            go_roundw
            case rel => exact ⟨k + 1, by omega, by go_num, by rw [HS.out], HR1, by rw [HS.out]; omega, by trivial⟩
            case measure => simp [intOf]; omega
      · obtain rfl : k = n := by omega
        have hok : runsOk zs := by intro j hj; exact HR.out j (by rw [← HL.out]; exact hj)
        have HT := Lib.hid (twE_rest (move := move) (by rw [HL.out]; exact HE0.out) hok)
        have HOK := Lib.hid hok
        have HSL : Hid (sumTo zs zs.length = sumTo zs k) := Lib.hid (by rw [HL.out])
        clear hok hkn
        generalize hs : sumTo zs k = s at *
        have HS := Lib.hid hs
        clear hs
        by_cases hs64 : 64 < s
        · have HE : Hid (twE zs move = 4) := Lib.hid (by rw [HT.out, HSL.out, if_pos hs64])
          go_wp2
          refine bodyPost_ret (v := .tuple #[.agg #[.int .i64 0, .int .i64 0, .slice none 0 0], .int .i64 (4)]) (by simp [results, Try.results32, go_sem]) rfl (TwillPost.bad HE.out (by decide) rfl (by repeat (first | exact Below.refl _ _ | refine Below.drew ?_ | refine below_drewN ?_ _ | refine Below.alloc ?_ (by first | exact Nat.le_refl _ | (simp; done) | (simp; omega) | omega) _ | refine Below.setCell ?_ (by first | exact Nat.le_refl _ | (simp; done) | (simp; omega) | omega) _ | refine bExtW ?_ (by first | exact Nat.le_refl _ | (simp; done) | (simp; omega) | omega) | refine Below.trans ?_ (Below.mono (by assumption) (by first | exact Nat.le_refl _ | (simp; done) | (simp; omega) | omega)))))
        · by_cases hm1 : move < 1
          · have HE : Hid (twE zs move = 3) := Lib.hid (by rw [HT.out, HSL.out, if_neg hs64, if_pos (.inl hm1)])
            go_wp2
            refine bodyPost_ret (v := .tuple #[.agg #[.int .i64 0, .int .i64 0, .slice none 0 0], .int .i64 (3)]) (by simp [results, Try.results32, go_sem]) rfl (TwillPost.bad HE.out (by decide) rfl (by repeat (first | exact Below.refl _ _ | refine Below.drew ?_ | refine below_drewN ?_ _ | refine Below.alloc ?_ (by first | exact Nat.le_refl _ | (simp; done) | (simp; omega) | omega) _ | refine Below.setCell ?_ (by first | exact Nat.le_refl _ | (simp; done) | (simp; omega) | omega) _ | refine bExtW ?_ (by first | exact Nat.le_refl _ | (simp; done) | (simp; omega) | omega) | refine Below.trans ?_ (Below.mono (by assumption) (by first | exact Nat.le_refl _ | (simp; done) | (simp; omega) | omega)))))
          · by_cases hm2 : s ≤ move
            · have HE : Hid (twE zs move = 3) := Lib.hid (by rw [HT.out, HSL.out, if_neg hs64, if_pos (.inr hm2)])
              go_wp2
              refine bodyPost_ret (v := .tuple #[.agg #[.int .i64 0, .int .i64 0, .slice none 0 0], .int .i64 (3)]) (by simp [results, Try.results32, go_sem]) rfl (TwillPost.bad HE.out (by decide) rfl (by repeat (first | exact Below.refl _ _ | refine Below.drew ?_ | refine below_drewN ?_ _ | refine Below.alloc ?_ (by first | exact Nat.le_refl _ | (simp; done) | (simp; omega) | omega) _ | refine Below.setCell ?_ (by first | exact Nat.le_refl _ | (simp; done) | (simp; omega) | omega) _ | refine bExtW ?_ (by first | exact Nat.le_refl _ | (simp; done) | (simp; omega) | omega) | refine Below.trans ?_ (Below.mono (by assumption) (by first | exact Nat.le_refl _ | (simp; done) | (simp; omega) | omega)))))
            · have HE : Hid (twE zs move = 0) := Lib.hid (by rw [HT.out, HSL.out, if_neg hs64, if_neg (by omega)])
              go_wp2_with fail
              have hq : (w.alloc (.cells #[.int .i64 0, .int .i64 0, .slice none 0 0] 26)).rowIs w.heap.size 26 3 (fun j => if j = 2 then .slice none 0 0 else .int .i64 0) := World.rowIs_alloc w #[.int .i64 0, .int .i64 0, .slice none 0 0] 26 (fun j => if j = 2 then .slice none 0 0 else .int .i64 0) (by
                intro j hj
                have hj3 : j = 0 ∨ j = 1 ∨ j = 2 := by simp at hj; omega
                rcases hj3 with rfl | rfl | rfl <;> rfl)
              have hB0 : Below w.heap.size w (w.alloc (.cells #[.int .i64 0, .int .i64 0, .slice none 0 0] 26)) := (by repeat (first | exact Below.refl _ _ | refine Below.drew ?_ | refine below_drewN ?_ _ | refine Below.alloc ?_ (by first | exact Nat.le_refl _ | (simp; done) | (simp; omega) | omega) _ | refine Below.setCell ?_ (by first | exact Nat.le_refl _ | (simp; done) | (simp; omega) | omega) _ | refine bExtW ?_ (by first | exact Nat.le_refl _ | (simp; done) | (simp; omega) | omega) | refine Below.trans ?_ (Below.mono (by assumption) (by first | exact Nat.le_refl _ | (simp; done) | (simp; omega) | omega))))
              have hsz0 : (w.alloc (.cells #[.int .i64 0, .int .i64 0, .slice none 0 0] 26)).heap.size = w.heap.size + 1 := by simp
              generalize w.alloc (.cells #[.int .i64 0, .int .i64 0, .slice none 0 0] 26) = W0 at *
              obtain ⟨q, hqe⟩ : ∃ q, q = w.heap.size := ⟨_, rfl⟩
              rw [← hqe] at hq hsz0
              rw [← hqe]
              have HQE := Lib.hid hqe
              have HQ := Lib.hid hq
              have HB0 := Lib.hid hB0
              have HSZ := Lib.hid hsz0
              clear hqe hq hB0 hsz0
              go_loopw [60, 9] (fun i v wr => ∃ j : Nat, j ≤ k ∧ i = .int .i64 j ∧ wr.ownsRow (q+1) 4 1 v (rowTo zs j).length ((rowTo zs j).map Value.bool) ∧ Below (q+1) W0 wr ∧ q + 1 ≤ wr.heap.size) (fun i _ _ => k - (intOf i).toNat)
              case atStart => exact ⟨0, Nat.zero_le _, rfl, World.ownsRow_nil _ _ _ _, Below.refl _ _, by rw [HSZ.out]; exact Nat.le_refl _⟩
              case round =>
                obtain ⟨j, hj, rfl, hown, hbel, hgl⟩ := hrel
                by_cases hjk : j < k
                · have hBw : Below w.heap.size w wr := HB0.out.trans (hbel.mono (by have := HQE.out; omega))
                  obtain ⟨b, o, rfl, hbl, hc⟩ := (HI.out.below hBw).2 (by omega)
                  have c0 := hc j hjk
                  obtain ⟨hz1, hz2⟩ := HR.out j hjk
                  have hrl := rowTo_len HOK.out j (by rw [HL.out]; omega)
                  have hsj := sumTo_bd HOK.out j (by rw [HL.out]; omega)
                  have hrb : (rowTo zs j).length ≤ 1024 := by omega
                  have HRS : Hid (rowTo zs (j+1) = rowTo zs j ++ List.replicate (zs.getD j 0).toNat (j % 2 == 0)) := Lib.hid rfl
                  obtain ⟨z, hz⟩ : ∃ z : Nat, zs.getD j 0 = z := ⟨(zs.getD j 0).toNat, by omega⟩
                  rw [hz] at c0 hz1 hz2 HRS
                  simp only [Int.toNat_natCast] at HRS
                  have HO := Lib.hid hown
                  have HB := Lib.hid hbel
                  clear hc hz hbl hown hbel hBw hrl hsj
                  generalize rowTo zs j = R at *
                  rcases Nat.mod_two_eq_zero_or_one j with hp | hp
                  · have hp2 : (j : Int) % 2 = 0 := by omega
                    have HRS : Hid (rowTo zs (j+1) = R ++ List.replicate z true) := Lib.hid (by have := HRS.out; rw [hp] at this; exact this)
                    clear hp
                    go_wp2_with fail
                    go_loopw [66, 9] (fun i v wr => ∃ x : Nat, x ≤ z ∧ i = .int .i64 x ∧ wr.ownsRow (q+1) 4 1 v (R ++ List.replicate x true).length ((R ++ List.replicate x true).map Value.bool) ∧ Below (q+1) W0 wr ∧ q + 1 ≤ wr.heap.size) (fun i _ _ => z - (intOf i).toNat)
                    case atStart => exact ⟨0, Nat.zero_le _, rfl, by simpa using HO.out, HB.out, hgl⟩
                    case round =>
                      clear c0
                      obtain ⟨x, hx, rfl, hown, hbel, hgl'⟩ := hrel
                      have hRx : (R ++ List.replicate x true).length ≤ 2000 := by simp; omega
                      have HRX : Hid (R ++ List.replicate (x+1) true = (R ++ List.replicate x true) ++ [true]) := Lib.hid (by rw [List.replicate_succ', List.append_assoc])
                      have HOx := Lib.hid hown
                      have HBx := Lib.hid hbel
                      clear hown hbel
                      by_cases hxz : x < z
                      · generalize R ++ List.replicate x true = RX at *
                        go_wp2_with (at_builtin; refine wpApp okBools rfl (.tmp 68) (.tmp 72) rfl (q+1) _ _ _ #[.bool true] rfl HOx.out rfl rfl ?_ (by omega) (by omega) hgl' ?_)
                        · simp [Value.oneCell']
                        intro v' w2 hown2 hb2
                        have HO2 : Hid (w2.ownsRow (q+1) 4 1 v' (RX ++ [true]).length ((RX ++ [true]).map Value.bool)) := Lib.hid (by rw [List.length_append, List.map_append]; exact hown2)
                        have HB2 := Lib.hid (HBx.out.trans hb2)
                        have hg2 := Nat.le_trans hgl' hb2.size
                        clear hown2 hb2
                        go_wp2
                        go_roundw
                        case rel => exact ⟨x + 1, by omega, by go_num, by rw [HRX.out]; exact HO2.out, HB2.out, hg2⟩
                        case measure => simp [intOf]; omega
                      · obtain rfl : x = z := by omega
                        rw [← HRS.out] at HOx
                        go_wp2
                        go_roundw
                        case rel => exact ⟨j + 1, by omega, by go_num, HOx.out, HBx.out, hgl'⟩
                        case measure => simp [intOf]; omega
                  · have hp2 : (j : Int) % 2 = 1 := by omega
                    have HRS : Hid (rowTo zs (j+1) = R ++ List.replicate z false) := Lib.hid (by have := HRS.out; rw [hp] at this; exact this)
                    clear hp
                    go_wp2_with fail
                    go_loopw [66, 9] (fun i v wr => ∃ x : Nat, x ≤ z ∧ i = .int .i64 x ∧ wr.ownsRow (q+1) 4 1 v (R ++ List.replicate x false).length ((R ++ List.replicate x false).map Value.bool) ∧ Below (q+1) W0 wr ∧ q + 1 ≤ wr.heap.size) (fun i _ _ => z - (intOf i).toNat)
                    case atStart => exact ⟨0, Nat.zero_le _, rfl, by simpa using HO.out, HB.out, hgl⟩
                    case round =>
                      clear c0
                      obtain ⟨x, hx, rfl, hown, hbel, hgl'⟩ := hrel
                      have hRx : (R ++ List.replicate x false).length ≤ 2000 := by simp; omega
                      have HRX : Hid (R ++ List.replicate (x+1) false = (R ++ List.replicate x false) ++ [false]) := Lib.hid (by rw [List.replicate_succ', List.append_assoc])
                      have HOx := Lib.hid hown
                      have HBx := Lib.hid hbel
                      clear hown hbel
                      by_cases hxz : x < z
                      · generalize R ++ List.replicate x false = RX at *
                        go_wp2_with (at_builtin; refine wpApp okBools rfl (.tmp 68) (.tmp 72) rfl (q+1) _ _ _ #[.bool false] rfl HOx.out rfl rfl ?_ (by omega) (by omega) hgl' ?_)
                        · simp [Value.oneCell']
                        intro v' w2 hown2 hb2
                        have HO2 : Hid (w2.ownsRow (q+1) 4 1 v' (RX ++ [false]).length ((RX ++ [false]).map Value.bool)) := Lib.hid (by rw [List.length_append, List.map_append]; exact hown2)
                        have HB2 := Lib.hid (HBx.out.trans hb2)
                        have hg2 := Nat.le_trans hgl' hb2.size
                        clear hown2 hb2
                        go_wp2
                        go_roundw
                        case rel => exact ⟨x + 1, by omega, by go_num, by rw [HRX.out]; exact HO2.out, HB2.out, hg2⟩
                        case measure => simp [intOf]; omega
                      · obtain rfl : x = z := by omega
                        rw [← HRS.out] at HOx
                        go_wp2
                        go_roundw
                        case rel => exact ⟨j + 1, by omega, by go_num, HOx.out, HBx.out, hgl'⟩
                        case measure => simp [intOf]; omega
                · obtain rfl : j = k := by omega
                  obtain ⟨RA, rc, rfl, hR⟩ := IsBools.of_owns (bs := rowTo zs j) rfl hown
                  have hrl := rowTo_len HOK.out j (by rw [HL.out]; exact Nat.le_refl _)
                  rw [HS.out] at hrl
                  generalize hRR : rowTo zs j = R at *
                  have HRR := Lib.hid hRR
                  obtain ⟨N, hN⟩ : ∃ N : Nat, R.length = N := ⟨_, rfl⟩
                  rw [hN] at hR hrl ⊢
                  obtain rfl : s = (N : Int) := by omega
                  have HRb := Lib.hid hR
                  have HRN := Lib.hid hN
                  have HB := Lib.hid hbel
                  clear hRR hN hR hrl hown hbel
                  go_wp2_with fail
                  obtain ⟨mb, hmb⟩ : ∃ m, m = wr.heap.size := ⟨_, rfl⟩
                  have hrow := World.rowIs_alloc wr #[.int .i64 (N), .int .i64 (N), .slice none 0 0] 26 (mF N N (.slice none 0 0)) (by
                    intro j hj
                    have hj3 : j = 0 ∨ j = 1 ∨ j = 2 := by simp at hj; omega
                    rcases hj3 with rfl | rfl | rfl <;> rfl)
                  have hB1 : Below mb wr (wr.alloc (.cells #[.int .i64 (N), .int .i64 (N), .slice none 0 0] 26)) := by rw [hmb]; exact (by repeat (first | exact Below.refl _ _ | refine Below.drew ?_ | refine below_drewN ?_ _ | refine Below.alloc ?_ (by first | exact Nat.le_refl _ | (simp; done) | (simp; omega) | omega) _ | refine Below.setCell ?_ (by first | exact Nat.le_refl _ | (simp; done) | (simp; omega) | omega) _ | refine bExtW ?_ (by first | exact Nat.le_refl _ | (simp; done) | (simp; omega) | omega) | refine Below.trans ?_ (Below.mono (by assumption) (by first | exact Nat.le_refl _ | (simp; done) | (simp; omega) | omega))))
                  rw [← hmb] at hrow
                  rw [← hmb]
                  have hsz1 : (wr.alloc (.cells #[.int .i64 (N), .int .i64 (N), .slice none 0 0] 26)).heap.size = mb + 1 := by simp [hmb]
                  generalize wr.alloc (.cells #[.int .i64 (N), .int .i64 (N), .slice none 0 0] 26) = W2 at *
                  generalize wr = W1 at *
                  have HMB := Lib.hid hmb
                  clear hmb
                  go_loopw [80] (fun i wr' => ∃ (y : Nat) (v : Value), y ≤ N ∧ i = .int .i64 y ∧ wr'.rowIs mb 26 3 (mF N N v) ∧ wr'.ownsRow (mb+1) 4 1 v (y * N) ((bitsTo R N move (y * N)).map Value.bool) ∧ Below mb W1 wr' ∧ mb + 1 ≤ wr'.heap.size) (fun i _ => N - (intOf i).toNat)
                  case atStart => exact ⟨0, _, Nat.zero_le _, rfl, hrow, by rw [Nat.zero_mul]; exact World.ownsRow_nil _ _ _ _, hB1, by omega⟩
                  case round =>
                    clear hrow hB1 hsz1
                    obtain ⟨y, v, hy, rfl, hrow, hown, hbel, hgl2⟩ := hrel
                    by_cases hyN : y < N
                    · have HRW := Lib.hid hrow
                      have HOW := Lib.hid hown
                      have HBE := Lib.hid hbel
                      clear hrow hown hbel
                      go_wp2_with fail
                      go_loopw [84] (fun i wr' => ∃ (x : Nat) (v : Value), x ≤ N ∧ i = .int .i64 x ∧ wr'.rowIs mb 26 3 (mF N N v) ∧ wr'.ownsRow (mb+1) 4 1 v (y * N + x) ((bitsTo R N move (y * N + x)).map Value.bool) ∧ Below mb W1 wr' ∧ mb + 1 ≤ wr'.heap.size) (fun i _ => N - (intOf i).toNat)
                      case atStart => exact ⟨0, v, Nat.zero_le _, rfl, HRW.out, HOW.out, HBE.out, hgl2⟩
                      case round =>
                        clear HRW HOW HBE
                        obtain ⟨x, v, hx, rfl, hrow, hown, hbel, hgl3⟩ := hrel
                        by_cases hxN : x < N
                        · have hpl := plc_lt (n := N) (move := move) (x := x) (y := y) (by omega)
                          have hgo := plc_go (n := N) (move := move) (x := x) (y := y) (by omega)
                          have HBS := Lib.hid (bitsTo_succ R N move y x hxN)
                          have hNN : y * N ≤ 4096 := Nat.le_trans (Nat.mul_le_mul (show y ≤ 64 by omega) (show N ≤ 64 by omega)) (by omega)
                          generalize plc N move x y = p at *
                          obtain ⟨m, hm⟩ : ∃ m : Int, (y : Int) * move = m := ⟨_, rfl⟩
                          have hmb2 : 0 ≤ m ∧ m ≤ 4096 := by
                            rw [← hm]
                            exact ⟨Int.mul_nonneg (by omega) (by omega), Int.le_trans (Int.mul_le_mul (show (y : Int) ≤ 64 by omega) (show move ≤ 64 by omega) (by omega) (by omega)) (by omega)⟩
                          rw [hm] at hgo
                          obtain ⟨b2, o2, rfl, hb2, hc2⟩ := (IsBools.below HRb.out (w' := wr) (by have h := hbel; rw [HMB.out] at h; exact h)).2 (by omega)
                          have cR := hc2 p (by omega)
                          obtain ⟨bit, hbit⟩ : ∃ bit, R.getD p false = bit := ⟨_, rfl⟩
                          rw [hbit] at cR HBS
                          have cM : wr.cell? ⟨mb, 2, none⟩ = some v := hrow.cell (i := 2) (by omega)
                          have fM := hrow.frozen 2
                          have HO := Lib.hid hown
                          have HRW := Lib.hid hrow
                          have HBE := Lib.hid hbel
                          clear hrow hown hbel hc2 hbit
                          obtain ⟨i0, hi0, hz0, hz1, hz2⟩ := info_parts okBools.2.1
                          have lm : LtW mb wr := by unfold LtW; omega
                          have lb2 : LtW b2 wr := hb2
                          obtain ⟨r, hr⟩ : ∃ r : Int, ((x : Int) - m).tmod N = r := ⟨_, rfl⟩
                          have hrb : -(N : Int) < r ∧ r < N := by rw [← hr]; exact ⟨Int.lt_tmod_of_pos _ (by omega), Int.tmod_lt_of_pos _ (by omega)⟩
                          rw [hr] at hgo
                          have hN0 : ((N : Int) == 0) = false := by simp; omega
                          have hN1 : (N : Int) ≠ 0 := by omega
                          have g0 : (0 : Int) ≤ (p : Int) := by omega
                          have g1 : (p : Int) < (N : Int) := by omega
                          have k1 : y * N + x + 1 ≤ maxLen := by unfold maxLen; omega
                          have k2 : (y * N + x + 1) * 1 ≤ 140737488355328 := by omega
                          have v1 : IntKind.i64.wrap m = m := IntWalk.i64_in _ (by omega)
                          have hN3 : ¬ N = 0 := by omega
                          have v2 : IntKind.i64.wrap ((x : Int) - m) = (x : Int) - m := IntWalk.i64_in _ (by omega)
                          have v3 : IntKind.i64.wrap (r + (N : Int)) = r + (N : Int) := IntWalk.i64_in _ (by omega)
                          go_wp2_with fail
                          (refine wp_region_ext_build 16 _ mkOne (.cells #[.bool bit] 4) (by kernel_rfl) (by kernel_rfl) rfl rfl ?_; simp only [List.take_succ_cons, List.take_zero, List.drop_succ_cons, List.drop_zero]; (repeat (first | ((with_reducible refine wpV_step (fun K hK => ?_)); go_simp; first | (refine hK _ ?_; clear hK K) | (apply Exists.intro; refine ⟨fun _ _ => ?_, hK _ ?_⟩; fail; clear hK K)))); refine wpV_nil ?_; refine ⟨fun W => by go_simp; rfl, fun E d E' d' => ?_⟩)
                          clear v1 v2 v3 hN0 hN1 hN3 g0 g1 hgo hr hm
                          have hbE := built_below wr E d (.cells #[.bool bit] 4) E' d'
                          have hcs := built_cell wr E d #[.bool bit] 4 E' d'
                          have HOE := Lib.hid (ownBelow HO.out hbE)
                          have hgE := Nat.le_trans hgl3 hbE.size
                          have cME := bCs hbE cM
                          have fME := (hbE.frozen (p := ⟨mb, 2, none⟩) lm.lt).trans fM
                          have HBX : Hid (Below mb W1 _) := Lib.hid (HBE.out.trans (hbE.mono (Nat.le_trans (Nat.le_succ _) hgl3)))
                          have HRX := Lib.hid (rowBelow HRW.out hbE lm.lt)
                          clear hbE cR cM fM lb2 lm
                          generalize bitsTo R N move (y * N + x) = BT at *
                          generalize extW ((extW wr E d).alloc (.cells #[.bool bit] 4)) E' d' = WE at *
                          generalize (extW wr E d).heap.size = B at *
                          have HCS := Lib.hid hcs
                          clear hcs
                          go_wp2_with (at_builtin; refine wpAppB okBools rfl (.tmp 88) (.tmp 103) rfl (mb+1) _ _ _ #[.bool bit] B rfl HOE.out rfl HCS.out rfl ?_ (by omega) (by omega) hgE ?_)
                          · simp [Value.oneCell']
                          intro v' w2 hown2 hb2
                          obtain ⟨A', cp', rfl⟩ := own_form hown2
                          have cM2 : w2.cell? ⟨mb, 2, none⟩ = some v := (hb2.cell (p := ⟨mb, 2, none⟩) (by simp)).trans cME
                          have fM2 : w2.frozen? ⟨mb, 2, none⟩ = false := (hb2.frozen (p := ⟨mb, 2, none⟩) (by simp)).trans fME
                          have hbw : Below mb W1 w2 := HBX.out.trans (hb2.mono (by omega))
                          have HR3 : Hid ((w2.setCell ⟨mb, 2, none⟩ (.slice A' (y * N + x + 1) cp')).rowIs mb 26 3 (mF N N (.slice A' (y * N + x + 1) cp'))) := Lib.hid (by
                            refine ((rowBelow HRX.out hb2 (by omega)).set 2 _).congr fun i hi => ?_
                            have hi3 : i = 0 ∨ i = 1 ∨ i = 2 := by omega
                            rcases hi3 with rfl | rfl | rfl <;> rfl)
                          have HO3 : Hid ((w2.setCell ⟨mb, 2, none⟩ (.slice A' (y * N + x + 1) cp')).ownsRow (mb+1) 4 1 (.slice A' (y * N + x + 1) cp') (y * N + x + 1) ((BT ++ [bit]).map Value.bool)) := Lib.hid (by
                            rw [List.map_append]
                            exact ownsRow_setCell_below hown2 (a := ⟨mb, 2, none⟩) (by simp) _)
                          have HB3 : Hid (Below mb W1 (w2.setCell ⟨mb, 2, none⟩ (.slice A' (y * N + x + 1) cp'))) := Lib.hid (hbw.setCell (by simp) _)
                          have hs3 : mb + 1 ≤ (w2.setCell ⟨mb, 2, none⟩ (.slice A' (y * N + x + 1) cp')).heap.size := by rw [World.size_setCell]; exact Nat.le_trans hgE hb2.size
                          clear hown2 hb2 hbw cME fME
                          go_wp2
                          go_roundw
                          case rel => exact ⟨x + 1, _, by omega, by go_num, HR3.out, by rw [show y * N + (x + 1) = y * N + x + 1 by omega, HBS.out]; exact HO3.out, HB3.out, hs3⟩
                          case measure => simp [intOf]; omega
                        · obtain rfl : x = N := by omega
                          have HRW := Lib.hid hrow
                          have HOW : Hid (wr.ownsRow (mb+1) 4 1 v ((y + 1) * x) ((bitsTo R x move ((y + 1) * x)).map Value.bool)) := Lib.hid (by rw [Nat.add_mul, Nat.one_mul]; exact hown)
                          have HBE := Lib.hid hbel
                          clear hrow hown hbel
                          go_wp2
                          go_roundw
                          case rel => exact ⟨y + 1, v, by omega, by go_num, HRW.out, HOW.out, HBE.out, hgl3⟩
                          case measure => simp [intOf]; omega
                    · obtain rfl : y = N := by omega
                      have m0 : wr.cell? ⟨mb, 0, none⟩ = some (.int .i64 (y)) := hrow.cell (i := 0) (by omega)
                      have m1 : wr.cell? ⟨mb, 1, none⟩ = some (.int .i64 (y)) := hrow.cell (i := 1) (by omega)
                      have m2 : wr.cell? ⟨mb, 2, none⟩ = some v := hrow.cell (i := 2) (by omega)
                      have hqm : q < mb := by rw [HMB.out]; omega
                      have rq := rowBelow (rowBelow HQ.out HB.out (by omega)) hbel hqm
                      have q0 : wr.cell? ⟨q, 0, none⟩ = some (.int .i64 0) := rq.cell (i := 0) (by omega)
                      have q1 : wr.cell? ⟨q, 1, none⟩ = some (.int .i64 0) := rq.cell (i := 1) (by omega)
                      have q2 : wr.cell? ⟨q, 2, none⟩ = some (.slice none 0 0) := rq.cell (i := 2) (by omega)
                      have f0 := rq.frozen 0; have f1 := rq.frozen 1; have f2 := rq.frozen 2
                      obtain ⟨A, cp, rfl⟩ := own_form hown
                      have hbw : Below w.heap.size w wr := HB0.out.trans ((HB.out.mono (by have := HQE.out; omega)).trans (hbel.mono (by have := HQE.out; omega)))
                      have HBW := Lib.hid hbw
                      have HO := Lib.hid hown
                      clear hrow hbel rq hbw hown
                      have ho3 := ownsRow_setCell_below (ownsRow_setCell_below (ownsRow_setCell_below HO.out (a := ⟨q, 0, none⟩) (by simp; omega) (.int .i64 (y))) (a := ⟨q, 1, none⟩) (by simp; omega) (.int .i64 (y))) (a := ⟨q, 2, none⟩) (by simp; omega) (.slice A (y * y) cp)
                      obtain ⟨A2, c2, e2, hIB⟩ := OkT.of_owns' (bitsTo_len _ _ _ _) ho3
                      injection e2 with e3 _ e4
                      subst e3 e4
                      have HIB := Lib.hid hIB
                      clear hIB ho3
                      go_wp2
                      refine bodyPost_ret (v := .tuple #[.agg #[.int .i64 (y), .int .i64 (y), .slice A (y * y) cp], .int .i64 (0)]) (by simp [results, Try.results32, go_sem, q0, q1, q2]) rfl (.inr ⟨HE.out, y, A, cp, HSL.out.symm, rfl, ?_, ?_⟩)
                      · have hl := HL.out
                        rw [hl, HRR.out]
                        exact HIB.out
                      · exact ((HBW.out.setCell (by simp; have := HQE.out; omega) _).setCell (by simp; have := HQE.out; omega) _).setCell (by simp; have := HQE.out; omega) _
end Go.Proofs.Ytikddfjickkhhaa
