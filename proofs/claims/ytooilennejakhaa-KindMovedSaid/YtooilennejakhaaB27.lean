/- Lemmas and contracts of functions (what each call returns, and that it changes nothing that was there) that the proof of a law of this seat uses; each lemma states its own conditions. -/
import Derived.Test.YtooilennejakhaaB26
namespace Go.Proofs.Ytooilennejakhaa
open Go.RowKit
set_option linter.unusedVariables false
set_option linter.unusedSimpArgs false
open Z (torN place pnt Mv To lin okT nrm keepB colP idm)
set_option maxRecDepth 100000 in
set_option maxHeartbeats 8000000 in
theorem rAll_ok (G W H n m : Nat) (a : Option Addr) (c : Nat) (cs : List Int) (w : World) (hI : IsInts w a n cs) (h : ChOk G W H n cs) (hm : m ≤ 24) :
    Calls Try.prog 32 #[.agg #[.int .i64 (G), .int .i64 (W), .int .i64 (H), .slice a n c], .int .i64 (m)] w fun r w' => (∃ A C, r = .returned (.slice A (Z.movesL W H cs G m).length C) ∧ OwnM w' w.heap.size A (Z.movesL W H cs G m).length C (Z.movesL W H cs G m)) ∧ Below w.heap.size w w' := by
  have hG6 : G ≤ 6 := by have := h.g; omega
  have HKP := Lib.hid (fun t f (x y : Int) w hI ht hx hy => Kept_ok G W H n m t f x y a c cs w hI h hm ht hx hy)
  have HALL := Lib.hid (P1_all W H cs G m)
  have HI := Lib.hid hI
  obtain ⟨K, hK⟩ : ∃ K, keepB W H cs (G : Int) m = K := ⟨_, rfl⟩
  rw [hK] at HALL HKP
  generalize Z.movesL W H cs G m = ML at *
  clear hI hK h
  go_enter Try.func32, Try.ntmps32
  go_wp2_with fail
  have hG0 := GL.nil (w.alloc (.cells #[.int .i64 (G : Int), .int .i64 (W : Int), .int .i64 (H : Int), .slice a n c] 24)) 39 4
  obtain ⟨W1, hW1⟩ : ∃ W1, W1 = w.alloc (.cells #[.int .i64 (G : Int), .int .i64 (W : Int), .int .i64 (H : Int), .slice a n c] 24) := ⟨_, rfl⟩
  have HB1 : Hid (Below w.heap.size w W1) := Lib.hid (by rw [hW1]; exact (by repeat (first | exact Below.refl _ _ | refine Below.drew ?_ | refine below_drewN ?_ _ | refine Below.alloc ?_ (by first | exact Nat.le_refl _ | (simp; done) | (simp; omega) | omega) _ | refine Below.setCell ?_ (by first | exact Nat.le_refl _ | (simp; done) | (simp; omega) | omega) _ | refine bExtW ?_ (by first | exact Nat.le_refl _ | (simp; done) | (simp; omega) | omega) | refine Below.trans ?_ (Below.mono (by assumption) (by first | exact Nat.le_refl _ | (simp; done) | (simp; omega) | omega)))))
  have hsz : W1.heap.size = w.heap.size + 1 := by rw [hW1, World.size_alloc]
  have hs0 : w.heap.size < W1.heap.size := by omega
  have cb0 : W1.cell? ⟨w.heap.size, 0, none⟩ = some (.int .i64 (G)) := by rw [hW1]; simp [go_sem]
  have cb1 : W1.cell? ⟨w.heap.size, 1, none⟩ = some (.int .i64 (W)) := by rw [hW1]; simp [go_sem]
  have cb2 : W1.cell? ⟨w.heap.size, 2, none⟩ = some (.int .i64 (H)) := by rw [hW1]; simp [go_sem]
  have cb3 : W1.cell? ⟨w.heap.size, 3, none⟩ = some (.slice a n c) := by rw [hW1]; simp [go_sem]
  have HW1 := Lib.hid hW1
  have HG0 := Lib.hid hG0
  clear hW1 hG0 hsz
  go_loopw [5, 6] (fun ov iv wr => ∃ (i : Nat) (L : List Mv), i ≤ 2 ∧ iv = .int .i64 i ∧ Hid (GL 39 4 (mvsK L) L.length W1 ov wr) ∧ Hid (L = P1 K m G i) ∧ L.length ≤ i * 6 * 576) (fun _ iv _ => 2 - (intOf iv).toNat)
  case atStart => exact ⟨0, [], by omega, rfl, Lib.hid (by rw [HW1.out]; exact HG0.out), Lib.hid rfl, by simp⟩
  case round =>
    obtain ⟨i, L, hi, rfl, HG, HL, hlen⟩ := hrel
    have k0 := bCs (HG.out).bel cb0
    have k1 := bCs (HG.out).bel cb1
    have k2 := bCs (HG.out).bel cb2
    have k3 := bCs (HG.out).bel cb3
    have lk : LtW w.heap.size wr := Nat.lt_of_lt_of_le hs0 (HG.out).bel.size
    have hsw : W1.heap.size ≤ (wr).heap.size := (HG.out).bel.size
    by_cases hi2 : i < 2
    · have di : decide (i < 2) = true := by simpa using hi2
      have di2 : decide ((i : Int) < 2) = true := by simp; omega
      have vi : IntKind.i64.wrap ((i : Int) + 1) = (i : Int) + 1 := IntWalk.i64_in _ (by omega)
      have HPS := Lib.hid (P1_succ K m G i hi2)
      have hf0 : ((i : Int) == 1) = decide (i = 1) := by
        obtain rfl | rfl : i = 0 ∨ i = 1 := by omega
        · rfl
        · rfl
      obtain ⟨f, hf⟩ : ∃ f, decide (i = 1) = f := ⟨_, rfl⟩
      rw [hf] at hf0 HPS
      clear hf
      go_wp2_with fail
      obtain ⟨wo, rfl⟩ : ∃ wo : World, wo = wr := ⟨_, rfl⟩
      go_loopw [5, 7] (fun ov tv wr => ∃ (t : Nat) (L : List Mv), t ≤ G ∧ tv = .int .i64 t ∧ Hid (GL 39 4 (mvsK L) L.length W1 ov wr) ∧ Hid (L = P1 K m G i ++ P2 K m f t) ∧ L.length ≤ (i * 6 + t) * 576) (fun _ tv _ => G - (intOf tv).toNat)
      case atStart => exact ⟨0, L, by omega, rfl, HG, Lib.hid (by rw [HL.out, P2_zero, List.append_nil]), by omega⟩
      case round =>
        clear k0 k1 k2 k3 lk hsw
        clear HG HL hlen
        obtain ⟨t, L, ht, rfl, HG, HL, hlen⟩ := hrel
        have k0 := bCs (HG.out).bel cb0
        have k1 := bCs (HG.out).bel cb1
        have k2 := bCs (HG.out).bel cb2
        have k3 := bCs (HG.out).bel cb3
        have lk : LtW w.heap.size wr := Nat.lt_of_lt_of_le hs0 (HG.out).bel.size
        have hsw : W1.heap.size ≤ (wr).heap.size := (HG.out).bel.size
        by_cases htG : t < G
        · have dt : decide ((t : Int) < (G : Int)) = true := by simpa using htG
          have vt : IntKind.i64.wrap ((t : Int) + 1) = (t : Int) + 1 := IntWalk.i64_in _ (by omega)
          go_wp2_with fail
          obtain ⟨wp, rfl⟩ : ∃ wp : World, wp = wr := ⟨_, rfl⟩
          go_loopw [5, 8] (fun ov yv wr => ∃ (y : Nat) (L : List Mv), y ≤ m ∧ yv = .int .i64 y ∧ Hid (GL 39 4 (mvsK L) L.length W1 ov wr) ∧ Hid (L = (P1 K m G i ++ P2 K m f t) ++ P3 K m t f (y * m)) ∧ L.length ≤ (i * 6 + t) * 576 + y * 24) (fun _ yv _ => m - (intOf yv).toNat)
          case atStart => exact ⟨0, L, by omega, rfl, HG, Lib.hid (by rw [HL.out, Nat.zero_mul, P3_zero, List.append_nil]), by omega⟩
          case round =>
            clear k0 k1 k2 k3 lk hsw
            clear HG HL hlen
            obtain ⟨y, L, hy, rfl, HG, HL, hlen⟩ := hrel
            have k0 := bCs (HG.out).bel cb0
            have k1 := bCs (HG.out).bel cb1
            have k2 := bCs (HG.out).bel cb2
            have k3 := bCs (HG.out).bel cb3
            have lk : LtW w.heap.size wr := Nat.lt_of_lt_of_le hs0 (HG.out).bel.size
            have hsw : W1.heap.size ≤ (wr).heap.size := (HG.out).bel.size
            by_cases hym : y < m
            · have dy : decide ((y : Int) < (m : Int)) = true := by simpa using hym
              have vy : IntKind.i64.wrap ((y : Int) + 1) = (y : Int) + 1 := IntWalk.i64_in _ (by omega)
              go_wp2_with fail
              obtain ⟨wq, rfl⟩ : ∃ wq : World, wq = wr := ⟨_, rfl⟩
              go_loopw [5, 9] (fun ov xv wr => ∃ (x : Nat) (L : List Mv), x ≤ m ∧ xv = .int .i64 x ∧ Hid (GL 39 4 (mvsK L) L.length W1 ov wr) ∧ Hid (L = (P1 K m G i ++ P2 K m f t) ++ P3 K m t f (y * m + x)) ∧ L.length ≤ (i * 6 + t) * 576 + y * 24 + x) (fun _ xv _ => m - (intOf xv).toNat)
              case atStart => exact ⟨0, L, by omega, rfl, HG, HL, by omega⟩
              case round =>
                clear k0 k1 k2 k3 lk hsw
                clear HG HL hlen
                obtain ⟨x, L, hx, rfl, HG, HL, hlen⟩ := hrel
                have k0 := bCs (HG.out).bel cb0
                have k1 := bCs (HG.out).bel cb1
                have k2 := bCs (HG.out).bel cb2
                have k3 := bCs (HG.out).bel cb3
                have lk : LtW w.heap.size wr := Nat.lt_of_lt_of_le hs0 (HG.out).bel.size
                have hsw : W1.heap.size ≤ (wr).heap.size := (HG.out).bel.size
                by_cases hxm : x < m
                · have dx : decide ((x : Int) < (m : Int)) = true := by simpa using hxm
                  have vx : IntKind.i64.wrap ((x : Int) + 1) = (x : Int) + 1 := IntWalk.i64_in _ (by omega)
                  have HPS3 := Lib.hid (P3_succ K m t f (y * m + x))
                  rw [pnt_at hxm] at HPS3
                  have HKP1 := Lib.hid (fun w hI => HKP.out t f (x : Int) (y : Int) w hI htG (by omega) (by omega))
                  have hbL : Below wr.heap.size wr (wr.alloc (.cells #[.int .i64 (t : Int), .bool f, .int .i64 (x : Int), .int .i64 (y : Int)] 39)) := (Below.refl _ _).alloc (Nat.le_refl _) _
                  have HIW := Lib.hid (HI.out.below ((HB1.out.trans (HG.out.bel.mono (Nat.le_of_lt hs0))).trans (hbL.mono (Nat.le_trans (Nat.le_of_lt hs0) hsw))))
                  clear HALL
                  cases hkb : K ⟨t, f, ((x : Int), (y : Int))⟩ with
                  | true =>
                    rw [hkb] at HKP1 HPS3
                    have HPT : Hid (P3 K m t f (y * m + (x + 1)) = P3 K m t f (y * m + x) ++ [⟨t, f, ((x : Int), (y : Int))⟩]) := Lib.hid (by have := HPS3.out; rw [← Nat.add_assoc]; simpa using this)
                    go_wp2_with fail
                    refine (HKP1.out _ HIW.out).mono ?_
                    rintro r w3 ⟨rfl, hb3⟩
                    have p0 : w3.cell? ⟨wr.heap.size, 0, none⟩ = some (.int .i64 (t)) := bCs hb3 (by simp [go_sem])
                    have p1 : w3.cell? ⟨wr.heap.size, 1, none⟩ = some (.bool f) := bCs hb3 (by simp [go_sem])
                    have p2 : w3.cell? ⟨wr.heap.size, 2, none⟩ = some (.int .i64 (x)) := bCs hb3 (by simp [go_sem])
                    have p3 : w3.cell? ⟨wr.heap.size, 3, none⟩ = some (.int .i64 (y)) := bCs hb3 (by simp [go_sem])
                    have lp : LtW wr.heap.size w3 := World.block_lt_of_cell? _ _ p0
                    have HG3 := Lib.hid ((HG.out.below hbL).below hb3)
                    clear k0 k1 k2 k3 lk hsw
                    clear HG HIW hb3 hbL HPS3
                    go_wp2_with (at_builtin; refine wpAppM okMv rfl (.tmp 42) (.tmp 44) rfl W1.heap.size _ _ _ #[.int .i64 (t : Int), .bool f, .int .i64 (x : Int), .int .i64 (y : Int)] rfl HG3.out.own rfl rfl ?_ (by omega) (by omega) HG3.out.bel.size ?_)
                    · simp [Value.oneCell']
                    intro v' w4 hown4 hg4 hb4
                    obtain ⟨A', cp', rfl⟩ := own_form hown4
                    have HG4 : Hid (GL 39 4 (mvsK (L ++ [⟨t, f, ((x : Int), (y : Int))⟩])) (L ++ [(⟨t, f, ((x : Int), (y : Int))⟩ : Mv)]).length W1 (.slice A' (L.length + 1) cp') w4) := Lib.hid ⟨by rw [mvsK_app, List.length_append]; exact hown4, HG3.out.bel.trans hb4⟩
                    clear hown4 hg4 hb4 HG3 p0 p1 p2 p3 lp
                    go_wp2
                    go_roundw
                    case rel => exact ⟨x + 1, L ++ [⟨t, f, ((x : Int), (y : Int))⟩], by omega, by go_num, HG4, Lib.hid (by rw [HPT.out, ← List.append_assoc, ← HL.out]), by simp; omega⟩
                    case measure => simp [intOf]; omega
                  | false =>
                    rw [hkb] at HKP1 HPS3
                    have HPT : Hid (P3 K m t f (y * m + (x + 1)) = P3 K m t f (y * m + x)) := Lib.hid (by have := HPS3.out; rw [← Nat.add_assoc]; simpa using this)
                    go_wp2_with fail
                    refine (HKP1.out _ HIW.out).mono ?_
                    rintro r w3 ⟨rfl, hb3⟩
                    have HG3 := Lib.hid ((HG.out.below hbL).below hb3)
                    clear k0 k1 k2 k3 lk hsw
                    clear HG HIW hb3 hbL HPS3
                    go_wp2
                    go_roundw
                    case rel => exact ⟨x + 1, L, by omega, by go_num, HG3, Lib.hid (by rw [HPT.out]; exact HL.out), by omega⟩
                    case measure => simp [intOf]; omega
                · obtain rfl : x = m := by omega
                  have dx : decide ((x : Int) < (x : Int)) = false := by simp
                  rw [← Nat.succ_mul] at HL
                  go_wp2
                  go_roundw
                  case rel => exact ⟨y + 1, L, by omega, by go_num, HG, HL, by omega⟩
                  case measure => simp [intOf]; omega
            · obtain rfl : y = m := by omega
              have dy : decide ((y : Int) < (y : Int)) = false := by simp
              have HL2 : Hid (L = P1 K y G i ++ P2 K y f (t + 1)) := Lib.hid (by rw [P2_succ, ← List.append_assoc]; exact HL.out)
              go_wp2
              go_roundw
              case rel => exact ⟨t + 1, L, by omega, by go_num, HG, HL2, by omega⟩
              case measure => simp [intOf]; omega
        · obtain rfl : t = G := by omega
          have dt : decide ((t : Int) < (t : Int)) = false := by simp
          have HL2 : Hid (L = P1 K m t (i + 1)) := Lib.hid (by rw [HPS.out]; exact HL.out)
          go_wp2
          go_roundw
          case rel => exact ⟨i + 1, L, by omega, by go_num, HG, HL2, by omega⟩
          case measure => simp [intOf]; omega
    · obtain rfl : i = 2 := by omega
      obtain rfl : L = ML := HL.out.trans HALL.out
      obtain ⟨A, C, rfl⟩ := own_form HG.out.own
      have HO : Hid (OwnM wr w.heap.size A L.length C L) := Lib.hid ⟨rfl, own_baseV HG.out.own (Nat.le_of_lt hs0)⟩
      have HBL := Lib.hid (HB1.out.trans (HG.out.bel.mono (Nat.le_of_lt hs0)))
      clear HG HL HALL HKP
      go_wp2
      go_ret
      exact ⟨⟨A, C, rfl, HO.out⟩, HBL.out⟩
end Go.Proofs.Ytooilennejakhaa

namespace Go.Proofs.Ytooilennejakhaa
open Go.RowKit
set_option linter.unusedVariables false
set_option linter.unusedSimpArgs false
open Z (torN place pnt Mv To lin okT nrm keepB colP idm)
/-- What is wrong, both ways. -/
def TorBad (e : Int) (V : Value) (a : Option Addr) (n : Nat) (cs : List Int) : Prop :=
  e ≠ 0 ∧ (∀ w, IsInts w a n cs → Calls Try.prog 10 #[V] w fun r w' => r = .returned (.tuple #[.int .i64 (0), .int .i64 (e)]) ∧ Below w.heap.size w w') ∧ (∀ w, IsInts w a n cs → Calls Try.prog 31 #[V] w fun r w' => r = .returned (.tuple #[.int .i64 (0), .int .i64 (e)]) ∧ Below w.heap.size w w')
theorem chart_cases (G W H : Int) (a : Option Addr) (n c : Nat) (cs : List Int) (h0 : (-9223372036854775808 ≤ G ∧ G ≤ 9223372036854775807)) (h1 : (-9223372036854775808 ≤ W ∧ W ≤ 9223372036854775807)) (h2 : (-9223372036854775808 ≤ H ∧ H ≤ 9223372036854775807)) (h3 : n ≤ 9223372036854775807) :
    (∃ e : Int, TorBad e (.agg #[.int .i64 (G), .int .i64 (W), .int .i64 (H), .slice a n c]) a n cs) ∨ (∃ G' W' H' N : Nat, G = G' ∧ W = W' ∧ H = H' ∧ ChOk G' W' H' n cs ∧ torN W' H' = N ∧ 0 < N ∧ N ≤ 24) := by
  by_cases he : chE G W H n cs = 0
  · obtain ⟨G', W', H', rfl, rfl, rfl, h⟩ := ChOk.of he
    by_cases hN : 24 < torN W' H'
    · have hv : torV (torN W' H') = .tuple #[.int .i64 (0), .int .i64 (4)] := by unfold torV; rw [if_pos hN]
      exact .inl ⟨4, by omega, fun w hI => by rw [← hv]; exact Torus_ok G' W' H' n a c cs w hI h, fun w hI => by rw [← hv]; exact rTorus_ok G' W' H' n a c cs w hI h⟩
    · exact .inr ⟨G', W', H', _, rfl, rfl, rfl, h, rfl, h.tpos, by omega⟩
  · exact .inl ⟨_, he, fun w hI => Torus_bad G W H a n c cs w hI h0 h1 h2 h3 he, fun w hI => rTorus_bad G W H a n c cs w hI h0 h1 h2 h3 he⟩
theorem torOk {G W H n N : Nat} {a : Option Addr} {c : Nat} {cs : List Int} (h : ChOk G W H n cs) (hN : torN W H = N) (h24 : N ≤ 24) :
    (∀ w, IsInts w a n cs → Calls Try.prog 10 #[.agg #[.int .i64 (G), .int .i64 (W), .int .i64 (H), .slice a n c]] w fun r w' => r = .returned (.tuple #[.int .i64 (N), .int .i64 (0)]) ∧ Below w.heap.size w w') ∧
    (∀ w, IsInts w a n cs → Calls Try.prog 31 #[.agg #[.int .i64 (G), .int .i64 (W), .int .i64 (H), .slice a n c]] w fun r w' => r = .returned (.tuple #[.int .i64 (N), .int .i64 (0)]) ∧ Below w.heap.size w w') := by
  have hv : torV (torN W H) = .tuple #[.int .i64 (N), .int .i64 (0)] := by unfold torV; rw [hN, if_neg (by omega)]
  exact ⟨fun w hI => by rw [← hv]; exact Torus_ok G W H n a c cs w hI h, fun w hI => by rw [← hv]; exact rTorus_ok G W H n a c cs w hI h⟩
/-- A list of moves and what is wrong. -/
def MvPost (L : List Mv) (e : Int) (w : World) (r : Ending) (w' : World) : Prop := (∃ A C, r = .returned (.tuple #[.slice A L.length C, .int .i64 (e)]) ∧ OwnM w' w.heap.size A L.length C L) ∧ Below w.heap.size w w'
theorem OwnM.none (w : World) (b : Nat) : OwnM w b none 0 0 [] := ⟨rfl, World.ownsRow_nil _ _ _ _⟩
set_option maxRecDepth 100000 in
set_option maxHeartbeats 8000000 in
theorem Moves_bad (G W H : Int) (a : Option Addr) (n c : Nat) (cs : List Int) (w : World) (hI : IsInts w a n cs) (e : Int) (hT : TorBad e (.agg #[.int .i64 (G), .int .i64 (W), .int .i64 (H), .slice a n c]) a n cs) :
    Calls Try.prog 9 #[.agg #[.int .i64 (G), .int .i64 (W), .int .i64 (H), .slice a n c]] w (MvPost [] e w) := by
  have hb : (e != 0) = true := by simpa using hT.1
  have HL := Lib.hid (fun w hI => laid_bad G W H a n c cs w hI e hT.1 hT.2.1)
  have HI := Lib.hid hI
  clear hI hT
  go_enter Try.func9, Try.ntmps9
  (go_wp2_with fail; refine (HL.out _ (HI.out.below (by repeat (first | exact Below.refl _ _ | refine Below.drew ?_ | refine below_drewN ?_ _ | refine Below.alloc ?_ (by first | exact Nat.le_refl _ | (simp; done) | (simp; omega) | omega) _ | refine Below.setCell ?_ (by first | exact Nat.le_refl _ | (simp; done) | (simp; omega) | omega) _ | refine bExtW ?_ (by first | exact Nat.le_refl _ | (simp; done) | (simp; omega) | omega) | refine Below.trans ?_ (Below.mono (by assumption) (by first | exact Nat.le_refl _ | (simp; done) | (simp; omega) | omega)))))).mono ?_; rintro r w1 ⟨rfl, hb⟩; obtain ⟨E, d, rfl⟩ := bExt hb; clear hb)
  go_wp2
  go_ret2
  exact ⟨⟨none, 0, rfl, OwnM.none _ _⟩, (by repeat (first | exact Below.refl _ _ | refine Below.drew ?_ | refine below_drewN ?_ _ | refine Below.alloc ?_ (by first | exact Nat.le_refl _ | (simp; done) | (simp; omega) | omega) _ | refine Below.setCell ?_ (by first | exact Nat.le_refl _ | (simp; done) | (simp; omega) | omega) _ | refine bExtW ?_ (by first | exact Nat.le_refl _ | (simp; done) | (simp; omega) | omega) | refine Below.trans ?_ (Below.mono (by assumption) (by first | exact Nat.le_refl _ | (simp; done) | (simp; omega) | omega))))⟩
theorem OwnM.base {w : World} {base base' n C : Nat} {A : Option Addr} {L : List Mv} (h : OwnM w base A n C L) (hb : base' ≤ base) : OwnM w base' A n C L := ⟨h.1, own_baseV h.2 hb⟩
set_option maxRecDepth 100000 in
set_option maxHeartbeats 8000000 in
theorem Moves_ok (G W H n N : Nat) (a : Option Addr) (c : Nat) (cs : List Int) (w : World) (hI : IsInts w a n cs) (h : ChOk G W H n cs) (hN : torN W H = N) (h24 : N ≤ 24) (h0 : 0 < N) :
    Calls Try.prog 9 #[.agg #[.int .i64 (G), .int .i64 (W), .int .i64 (H), .slice a n c]] w (MvPost (Z.movesL W H cs G N) 0 w) := by
  obtain ⟨M, hM⟩ : ∃ M, N * N = M := ⟨_, rfl⟩
  have HL := Lib.hid (fun w hI => laid_ok G W H n N M a c cs w hI h hN h24 hM)
  have hd := Z.torN_dvd W H
  rw [hN] at hd
  have HA := Lib.hid (fun a c w hI => all_ok G W H N M a c cs w hI h.g h0 h24 hM hd.1 hd.2)
  have HI := Lib.hid hI
  clear hI hN hM h hd
  go_enter Try.func9, Try.ntmps9
  go_wp2_with fail
  refine (HL.out _ (HI.out.below (by repeat (first | exact Below.refl _ _ | refine Below.drew ?_ | refine below_drewN ?_ _ | refine Below.alloc ?_ (by first | exact Nat.le_refl _ | (simp; done) | (simp; omega) | omega) _ | refine Below.setCell ?_ (by first | exact Nat.le_refl _ | (simp; done) | (simp; omega) | omega) _ | refine bExtW ?_ (by first | exact Nat.le_refl _ | (simp; done) | (simp; omega) | omega) | refine Below.trans ?_ (Below.mono (by assumption) (by first | exact Nat.le_refl _ | (simp; done) | (simp; omega) | omega)))))).mono ?_
  rintro r w2 ⟨⟨A, C, rfl, hA⟩, hb2⟩
  have HB2 : Hid (Below w.heap.size w w2) := Lib.hid (((Below.refl _ _).alloc (Nat.le_refl _) _).trans (hb2.mono (by simp)))
  have HA2 := Lib.hid hA.ints
  have hs2 : w.heap.size < w2.heap.size := by have := hb2.size; simp at this; omega
  clear hA hb2
  go_wp2_with fail
  refine (HA.out A C _ (HA2.out.below ((Below.refl _ _).alloc (Nat.le_refl _) _))).mono ?_
  rintro r w3 ⟨⟨B, D, rfl, hB⟩, hb3⟩
  have HB3 : Hid (Below w.heap.size w w3) := Lib.hid ((HB2.out.alloc (Nat.le_of_lt hs2) _).trans (hb3.mono (by simp; omega)))
  have HM := Lib.hid (hB.base (base' := w.heap.size) (by simp; omega))
  clear hB hb3
  go_wp2
  go_ret2
  exact ⟨⟨B, D, rfl, HM.out⟩, HB3.out⟩
end Go.Proofs.Ytooilennejakhaa

namespace Go.Proofs.Ytooilennejakhaa
open Go.RowKit
set_option linter.unusedVariables false
set_option linter.unusedSimpArgs false
open Z (torN place pnt Mv To lin okT nrm keepB colP idm md redM)
theorem alive_len : (Z.movesL 1 1 [0] 4 1).length = 8 := by decide +kernel
set_option maxRecDepth 100000 in
set_option maxHeartbeats 8000000 in
theorem On_ok (n : Nat) (x y : Int) (w : World) (hn : 0 < n) (h24 : n ≤ 64) (hx : (-9223372036854775808 ≤ x ∧ x ≤ 9223372036854775807)) (hy : (-9223372036854775808 ≤ y ∧ y ≤ 9223372036854775807)) :
    Calls Try.prog 62 #[.int .i64 (n), .agg #[.int .i64 (x), .int .i64 (y)]] w fun e w' => e = .returned (.agg #[.int .i64 (x % (n : Int)), .int .i64 (y % (n : Int))]) ∧ Below w.heap.size w w' := by
  have HX := Lib.hid (fun w => Rest_ok x n w hn h24 hx)
  have HY := Lib.hid (fun w => Rest_ok y n w hn h24 hy)
  generalize x % (n : Int) = p at *
  generalize y % (n : Int) = q at *
  clear hx hy hn
  go_enter Try.func62, Try.ntmps62
  go_wp2_with fail
  (refine wp_region_ext_tail 8 (by kernel_rfl) (by kernel_rfl) ?_; simp only [List.take_succ_cons, List.take_zero, List.drop_succ_cons, List.drop_zero]; (repeat (first | ((with_reducible refine ext_step (fun K hK => ?_)); go_simp; first | (refine hK _ ?_; clear hK K) | (apply Exists.intro; refine ⟨fun _ _ => ?_, hK _ ?_⟩; (go_at_call 66; first | (with_reducible exact extOf (HX.out _)) | (with_reducible exact extOf (HY.out _))); clear hK K)))); refine wpQuiet_nil ?_; intro E d)
  go_wp2
  refine bodyPost_ret (v := .agg #[.int .i64 (p), .int .i64 (q)]) (by simp [results, Try.results62, go_sem]) rfl ⟨rfl, (by repeat (first | exact Below.refl _ _ | refine Below.drew ?_ | refine below_drewN ?_ _ | refine Below.alloc ?_ (by first | exact Nat.le_refl _ | (simp; done) | (simp; omega) | omega) _ | refine Below.setCell ?_ (by first | exact Nat.le_refl _ | (simp; done) | (simp; omega) | omega) _ | refine bExtW ?_ (by first | exact Nat.le_refl _ | (simp; done) | (simp; omega) | omega) | refine Below.trans ?_ (Below.mono (by assumption) (by first | exact Nat.le_refl _ | (simp; done) | (simp; omega) | omega))))⟩
/-- Is it among them? -/
def hasB (L : List Mv) (m : Mv) : Bool := decide (m ∈ L)
end Go.Proofs.Ytooilennejakhaa
