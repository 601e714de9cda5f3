/- Lemmas and contracts of functions (what each call returns, and that it changes nothing that was there) that the proof of a law of this seat uses; each lemma states its own conditions. -/
import Derived.Test.YtdaacjaibfcacaaB27
namespace Go.Proofs.Ytdaacjaibfcacaa
open Go.RowKit
set_option linter.unusedVariables false
set_option linter.unusedSimpArgs false
open Z (torN place pnt Mv To lin okT nrm keepB colP idm)
set_option maxRecDepth 100000 in
set_option maxHeartbeats 8000000 in
theorem rAll_ok (G W H n m : Nat) (a : Option Addr) (c : Nat) (cs : List Int) (w : World) (hI : IsInts w a n cs) (h : ChOk G W H n cs) (hm : m ≤ 24) :
    Calls Try.prog 89 #[.agg #[.int .i64 (G), .int .i64 (W), .int .i64 (H), .slice a n c], .int .i64 (m)] w fun r w' => (∃ A C, r = .returned (.slice A (Z.movesL W H cs G m).length C) ∧ OwnM w' w.heap.size A (Z.movesL W H cs G m).length C (Z.movesL W H cs G m)) ∧ Below w.heap.size w w' := by
  have hG6 : G ≤ 6 := by have := h.g; omega
  have HKP := Lib.hid (fun t f (x y : Int) w hI ht hx hy => Kept_ok G W H n m t f x y a c cs w hI h hm ht hx hy)
  have HALL := Lib.hid (P1_all W H cs G m)
  have HI := Lib.hid hI
  obtain ⟨K, hK⟩ : ∃ K, keepB W H cs (G : Int) m = K := ⟨_, rfl⟩
  rw [hK] at HALL HKP
  generalize Z.movesL W H cs G m = ML at *
  clear hI hK h
  go_enter Try.func89, Try.ntmps89
  go_wp2_with fail
  have hG0 := GL.nil (w.alloc (.cells #[.int .i64 (G : Int), .int .i64 (W : Int), .int .i64 (H : Int), .slice a n c] 36)) 53 4
  obtain ⟨W1, hW1⟩ : ∃ W1, W1 = w.alloc (.cells #[.int .i64 (G : Int), .int .i64 (W : Int), .int .i64 (H : Int), .slice a n c] 36) := ⟨_, rfl⟩
  have HB1 : Hid (Below w.heap.size w W1) := Lib.hid (by rw [hW1]; exact (by repeat (first | exact Below.refl _ _ | refine Below.drew ?_ | refine below_drewN ?_ _ | refine Below.alloc ?_ (by first | exact Nat.le_refl _ | (simp; done) | (simp; omega) | omega) _ | refine Below.setCell ?_ (by first | exact Nat.le_refl _ | (simp; done) | (simp; omega) | omega) _ | refine bExtW ?_ (by first | exact Nat.le_refl _ | (simp; done) | (simp; omega) | omega) | refine Below.trans ?_ (Below.mono (by assumption) (by first | exact Nat.le_refl _ | (simp; done) | (simp; omega) | omega)))))
  have hsz : W1.heap.size = w.heap.size + 1 := by rw [hW1, World.size_alloc]
  have hs0 : w.heap.size < W1.heap.size := by omega
  have cb0 : W1.cell? ⟨w.heap.size, 0, none⟩ = some (.int .i64 (G)) := by rw [hW1]; simp [go_sem]
  have cb1 : W1.cell? ⟨w.heap.size, 1, none⟩ = some (.int .i64 (W)) := by rw [hW1]; simp [go_sem]
  have cb2 : W1.cell? ⟨w.heap.size, 2, none⟩ = some (.int .i64 (H)) := by rw [hW1]; simp [go_sem]
  have cb3 : W1.cell? ⟨w.heap.size, 3, none⟩ = some (.slice a n c) := by rw [hW1]; simp [go_sem]
  have HW1 := Lib.hid hW1
  have HG0 := Lib.hid hG0
  clear hW1 hG0 hsz
  go_loopw [5, 6] (fun ov iv wr => ∃ (i : Nat) (L : List Mv), i ≤ 2 ∧ iv = .int .i64 i ∧ Hid (GL 53 4 (mvsK L) L.length W1 ov wr) ∧ Hid (L = P1 K m G i) ∧ L.length ≤ i * 6 * 576) (fun _ iv _ => 2 - (intOf iv).toNat)
  case atStart => exact ⟨0, [], by omega, rfl, Lib.hid (by rw [HW1.out]; exact HG0.out), Lib.hid rfl, by simp⟩
  case round =>
    obtain ⟨i, L, hi, rfl, HG, HL, hlen⟩ := hrel
    have k0 := bCs (HG.out).bel cb0
    have k1 := bCs (HG.out).bel cb1
    have k2 := bCs (HG.out).bel cb2
    have k3 := bCs (HG.out).bel cb3
    have lk : LtW w.heap.size wr := Nat.lt_of_lt_of_le hs0 (HG.out).bel.size
    have hsw : W1.heap.size ≤ (wr).heap.size := (HG.out).bel.size
    by_cases hi2 : i < 2
    · have di : decide (i < 2) = true := by simpa using hi2
      have di2 : decide ((i : Int) < 2) = true := by simp; omega
      have vi : IntKind.i64.wrap ((i : Int) + 1) = (i : Int) + 1 := IntWalk.i64_in _ (by omega)
      have HPS := Lib.hid (P1_succ K m G i hi2)
      have hf0 : ((i : Int) == 1) = decide (i = 1) := by
        obtain rfl | rfl : i = 0 ∨ i = 1 := by omega
        · rfl
        · rfl
      obtain ⟨f, hf⟩ : ∃ f, decide (i = 1) = f := ⟨_, rfl⟩
      rw [hf] at hf0 HPS
      clear hf
      go_wp2_with fail
      obtain ⟨wo, rfl⟩ : ∃ wo : World, wo = wr := ⟨_, rfl⟩
      go_loopw [5, 7] (fun ov tv wr => ∃ (t : Nat) (L : List Mv), t ≤ G ∧ tv = .int .i64 t ∧ Hid (GL 53 4 (mvsK L) L.length W1 ov wr) ∧ Hid (L = P1 K m G i ++ P2 K m f t) ∧ L.length ≤ (i * 6 + t) * 576) (fun _ tv _ => G - (intOf tv).toNat)
      case atStart => exact ⟨0, L, by omega, rfl, HG, Lib.hid (by rw [HL.out, P2_zero, List.append_nil]), by omega⟩
      case round =>
        clear k0 k1 k2 k3 lk hsw
        clear HG HL hlen
        obtain ⟨t, L, ht, rfl, HG, HL, hlen⟩ := hrel
        have k0 := bCs (HG.out).bel cb0
        have k1 := bCs (HG.out).bel cb1
        have k2 := bCs (HG.out).bel cb2
        have k3 := bCs (HG.out).bel cb3
        have lk : LtW w.heap.size wr := Nat.lt_of_lt_of_le hs0 (HG.out).bel.size
        have hsw : W1.heap.size ≤ (wr).heap.size := (HG.out).bel.size
        by_cases htG : t < G
        · have dt : decide ((t : Int) < (G : Int)) = true := by simpa using htG
          have vt : IntKind.i64.wrap ((t : Int) + 1) = (t : Int) + 1 := IntWalk.i64_in _ (by omega)
          go_wp2_with fail
          obtain ⟨wp, rfl⟩ : ∃ wp : World, wp = wr := ⟨_, rfl⟩
          go_loopw [5, 8] (fun ov yv wr => ∃ (y : Nat) (L : List Mv), y ≤ m ∧ yv = .int .i64 y ∧ Hid (GL 53 4 (mvsK L) L.length W1 ov wr) ∧ Hid (L = (P1 K m G i ++ P2 K m f t) ++ P3 K m t f (y * m)) ∧ L.length ≤ (i * 6 + t) * 576 + y * 24) (fun _ yv _ => m - (intOf yv).toNat)
          case atStart => exact ⟨0, L, by omega, rfl, HG, Lib.hid (by rw [HL.out, Nat.zero_mul, P3_zero, List.append_nil]), by omega⟩
          case round =>
            clear k0 k1 k2 k3 lk hsw
            clear HG HL hlen
            obtain ⟨y, L, hy, rfl, HG, HL, hlen⟩ := hrel
            have k0 := bCs (HG.out).bel cb0
            have k1 := bCs (HG.out).bel cb1
            have k2 := bCs (HG.out).bel cb2
            have k3 := bCs (HG.out).bel cb3
            have lk : LtW w.heap.size wr := Nat.lt_of_lt_of_le hs0 (HG.out).bel.size
            have hsw : W1.heap.size ≤ (wr).heap.size := (HG.out).bel.size
            by_cases hym : y < m
            · have dy : decide ((y : Int) < (m : Int)) = true := by simpa using hym
              have vy : IntKind.i64.wrap ((y : Int) + 1) = (y : Int) + 1 := IntWalk.i64_in _ (by omega)
              go_wp2_with fail
              obtain ⟨wq, rfl⟩ : ∃ wq : World, wq = wr := ⟨_, rfl⟩
              go_loopw [5, 9] (fun ov xv wr => ∃ (x : Nat) (L : List Mv), x ≤ m ∧ xv = .int .i64 x ∧ Hid (GL 53 4 (mvsK L) L.length W1 ov wr) ∧ Hid (L = (P1 K m G i ++ P2 K m f t) ++ P3 K m t f (y * m + x)) ∧ L.length ≤ (i * 6 + t) * 576 + y * 24 + x) (fun _ xv _ => m - (intOf xv).toNat)
              case atStart => exact ⟨0, L, by omega, rfl, HG, HL, by omega⟩
              case round =>
                clear k0 k1 k2 k3 lk hsw
                clear HG HL hlen
                obtain ⟨x, L, hx, rfl, HG, HL, hlen⟩ := hrel
                have k0 := bCs (HG.out).bel cb0
                have k1 := bCs (HG.out).bel cb1
                have k2 := bCs (HG.out).bel cb2
                have k3 := bCs (HG.out).bel cb3
                have lk : LtW w.heap.size wr := Nat.lt_of_lt_of_le hs0 (HG.out).bel.size
                have hsw : W1.heap.size ≤ (wr).heap.size := (HG.out).bel.size
                by_cases hxm : x < m
                · have dx : decide ((x : Int) < (m : Int)) = true := by simpa using hxm
                  have vx : IntKind.i64.wrap ((x : Int) + 1) = (x : Int) + 1 := IntWalk.i64_in _ (by omega)
                  have HPS3 := Lib.hid (P3_succ K m t f (y * m + x))
                  rw [pnt_at hxm] at HPS3
                  have HKP1 := Lib.hid (fun w hI => HKP.out t f (x : Int) (y : Int) w hI htG (by omega) (by omega))
                  have hbL : Below wr.heap.size wr (wr.alloc (.cells #[.int .i64 (t : Int), .bool f, .int .i64 (x : Int), .int .i64 (y : Int)] 53)) := (Below.refl _ _).alloc (Nat.le_refl _) _
                  have HIW := Lib.hid (HI.out.below ((HB1.out.trans (HG.out.bel.mono (Nat.le_of_lt hs0))).trans (hbL.mono (Nat.le_trans (Nat.le_of_lt hs0) hsw))))
                  clear HALL
                  cases hkb : K ⟨t, f, ((x : Int), (y : Int))⟩ with
                  | true =>
                    rw [hkb] at HKP1 HPS3
                    have HPT : Hid (P3 K m t f (y * m + (x + 1)) = P3 K m t f (y * m + x) ++ [⟨t, f, ((x : Int), (y : Int))⟩]) := Lib.hid (by have := HPS3.out; rw [← Nat.add_assoc]; simpa using this)
                    go_wp2_with fail
                    refine (HKP1.out _ HIW.out).mono ?_
                    rintro r w3 ⟨rfl, hb3⟩
                    have p0 : w3.cell? ⟨wr.heap.size, 0, none⟩ = some (.int .i64 (t)) := bCs hb3 (by simp [go_sem])
                    have p1 : w3.cell? ⟨wr.heap.size, 1, none⟩ = some (.bool f) := bCs hb3 (by simp [go_sem])
                    have p2 : w3.cell? ⟨wr.heap.size, 2, none⟩ = some (.int .i64 (x)) := bCs hb3 (by simp [go_sem])
                    have p3 : w3.cell? ⟨wr.heap.size, 3, none⟩ = some (.int .i64 (y)) := bCs hb3 (by simp [go_sem])
                    have lp : LtW wr.heap.size w3 := World.block_lt_of_cell? _ _ p0
                    have HG3 := Lib.hid ((HG.out.below hbL).below hb3)
                    clear k0 k1 k2 k3 lk hsw
                    clear HG HIW hb3 hbL HPS3
                    go_wp2_with (at_builtin; refine wpAppM okMv rfl (.tmp 42) (.tmp 44) rfl W1.heap.size _ _ _ #[.int .i64 (t : Int), .bool f, .int .i64 (x : Int), .int .i64 (y : Int)] rfl HG3.out.own rfl rfl ?_ (by omega) (by omega) HG3.out.bel.size ?_)
                    · simp [Value.oneCell']
                    intro v' w4 hown4 hg4 hb4
                    obtain ⟨A', cp', rfl⟩ := own_form hown4
                    have HG4 : Hid (GL 53 4 (mvsK (L ++ [⟨t, f, ((x : Int), (y : Int))⟩])) (L ++ [(⟨t, f, ((x : Int), (y : Int))⟩ : Mv)]).length W1 (.slice A' (L.length + 1) cp') w4) := Lib.hid ⟨by rw [mvsK_app, List.length_append]; exact hown4, HG3.out.bel.trans hb4⟩
                    clear hown4 hg4 hb4 HG3 p0 p1 p2 p3 lp
                    go_wp2
                    go_roundw
                    case rel => exact ⟨x + 1, L ++ [⟨t, f, ((x : Int), (y : Int))⟩], by omega, by go_num, HG4, Lib.hid (by rw [HPT.out, ← List.append_assoc, ← HL.out]), by simp; omega⟩
                    case measure => simp [intOf]; omega
                  | false =>
                    rw [hkb] at HKP1 HPS3
                    have HPT : Hid (P3 K m t f (y * m + (x + 1)) = P3 K m t f (y * m + x)) := Lib.hid (by have := HPS3.out; rw [← Nat.add_assoc]; simpa using this)
                    go_wp2_with fail
                    refine (HKP1.out _ HIW.out).mono ?_
                    rintro r w3 ⟨rfl, hb3⟩
                    have HG3 := Lib.hid ((HG.out.below hbL).below hb3)
                    clear k0 k1 k2 k3 lk hsw
                    clear HG HIW hb3 hbL HPS3
                    go_wp2
                    go_roundw
                    case rel => exact ⟨x + 1, L, by omega, by go_num, HG3, Lib.hid (by rw [HPT.out]; exact HL.out), by omega⟩
                    case measure => simp [intOf]; omega
                · obtain rfl : x = m := by omega
                  have dx : decide ((x : Int) < (x : Int)) = false := by simp
                  rw [← Nat.succ_mul] at HL
                  go_wp2
                  go_roundw
                  case rel => exact ⟨y + 1, L, by omega, by go_num, HG, HL, by omega⟩
                  case measure => simp [intOf]; omega
            · obtain rfl : y = m := by omega
              have dy : decide ((y : Int) < (y : Int)) = false := by simp
              have HL2 : Hid (L = P1 K y G i ++ P2 K y f (t + 1)) := Lib.hid (by rw [P2_succ, ← List.append_assoc]; exact HL.out)
              go_wp2
              go_roundw
              case rel => exact ⟨t + 1, L, by omega, by go_num, HG, HL2, by omega⟩
              case measure => simp [intOf]; omega
        · obtain rfl : t = G := by omega
          have dt : decide ((t : Int) < (t : Int)) = false := by simp
          have HL2 : Hid (L = P1 K m t (i + 1)) := Lib.hid (by rw [HPS.out]; exact HL.out)
          go_wp2
          go_roundw
          case rel => exact ⟨i + 1, L, by omega, by go_num, HG, HL2, by omega⟩
          case measure => simp [intOf]; omega
    · obtain rfl : i = 2 := by omega
      obtain rfl : L = ML := HL.out.trans HALL.out
      obtain ⟨A, C, rfl⟩ := own_form HG.out.own
      have HO : Hid (OwnM wr w.heap.size A L.length C L) := Lib.hid ⟨rfl, own_baseV HG.out.own (Nat.le_of_lt hs0)⟩
      have HBL := Lib.hid (HB1.out.trans (HG.out.bel.mono (Nat.le_of_lt hs0)))
      clear HG HL HALL HKP
      go_wp2
      go_ret
      exact ⟨⟨A, C, rfl, HO.out⟩, HBL.out⟩
end Go.Proofs.Ytdaacjaibfcacaa
