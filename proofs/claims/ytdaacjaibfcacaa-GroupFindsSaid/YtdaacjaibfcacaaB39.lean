/- Lemmas and contracts of functions (what each call returns, and that it changes nothing that was there) that the proof of a law of this seat uses; each lemma states its own conditions. -/
import Derived.Test.YtdaacjaibfcacaaB37
namespace Go.Proofs.Ytdaacjaibfcacaa
open Go.RowKit
set_option linter.unusedVariables false
set_option linter.unusedSimpArgs false
open Z (torN place pnt Mv To lin okT nrm keepB colP idm md redM firstB rankP act stK Sid Upw)
set_option maxRecDepth 100000 in
set_option maxHeartbeats 8000000 in
theorem rFinest_ok (G W H n N sa uc ub : Nat) (a : Option Addr) (c : Nat) (cs : List Int) (w : World) (hI : IsInts w a n cs) (h : ChOk G W H n cs) (h24 : N ≤ 24) (hS : Sid (stK W H cs G N) N sa) (hU : Upw (stK W H cs G N) N sa uc ub) :
    Calls Try.prog 41 #[.agg #[.int .i64 (G), .int .i64 (W), .int .i64 (H), .slice a n c], .int .i64 (N)] w fun r w' => r = .returned (.tuple #[.agg #[.int .i64 (sa), .int .i64 (0)], .agg #[.int .i64 (uc), .int .i64 (ub)]]) ∧ Below w.heap.size w w' := by
  have HK := Lib.hid (fun (x y : Nat) w (hx : x ≤ 24) (hy : y ≤ 24) hI => Kept_ok G W H n N 0 false x y a c cs w hI h h24 (by have := h.g; omega) (by omega) (by omega))
  have HSid := Lib.hid hS; have HUp := Lib.hid hU
  have a1 := hS.a1; have an := hS.an; have b1 := hU.b1; have bn := hU.bn; have ca := hU.ca
  have HI := Lib.hid hI
  obtain ⟨P, hP⟩ : ∃ P, stK W H cs G N = P := ⟨_, rfl⟩
  have hKE : ∀ x y : Nat, keepB W H cs G N ⟨0, false, ((x : Int), (y : Int))⟩ = P x y := fun x y => by rw [← hP]; rfl
  rw [hP] at HSid HUp
  simp only [hKE] at HK
  clear hI h hS hU hKE hP
  go_enter Try.func41, Try.ntmps41
  go_wp2_with fail
  go_loopw [6] (fun kv wr => ∃ (k : Nat) (E : Array Obj) (d : Nat), 1 ≤ k ∧ k ≤ sa ∧ kv = .int .i64 k ∧ wr = extW (((w.alloc (.cells #[.int .i64 (G : Int), .int .i64 (W : Int), .int .i64 (H : Int), .slice a n c] 36)).alloc (.cells #[.int .i64 0, .int .i64 0] 38)).alloc (.cells #[.int .i64 0, .int .i64 0] 38)) E d) (fun kv _ => sa - (intOf kv).toNat)
  case atStart => exact ⟨1, #[], _, by omega, a1, rfl, extW_zero _⟩
  case round =>
    obtain ⟨k, E1, d1, hk1, hk, rfl, rfl⟩ := hrel
    have HK1 := Lib.hid (fun w hI => HK.out k 0 w (by omega) (by omega) hI)
    have vk : IntKind.i64.wrap ((k : Int) + 1) = (k : Int) + 1 := IntWalk.i64_in _ (by omega)
    by_cases hks : k < sa
    · have hpk := HSid.out.mn k hk1 hks
      rw [hpk] at HK1
      clear hpk
      (go_wp2_with fail; refine (HK1.out _ (HI.out.below (by repeat (first | exact Below.refl _ _ | refine Below.drew ?_ | refine below_drewN ?_ _ | refine Below.alloc ?_ (by first | exact Nat.le_refl _ | (simp; done) | (simp; omega) | omega) _ | refine Below.setCell ?_ (by first | exact Nat.le_refl _ | (simp; done) | (simp; omega) | omega) _ | refine bExtW ?_ (by first | exact Nat.le_refl _ | (simp; done) | (simp; omega) | omega) | refine Below.trans ?_ (Below.mono (by assumption) (by first | exact Nat.le_refl _ | (simp; done) | (simp; omega) | omega)))))).mono ?_; rintro r w1 ⟨rfl, hb⟩; obtain ⟨E, d, rfl⟩ := bExt hb; clear hb)
      go_wp2
      go_roundw
      case rel => exact ⟨k + 1, _, _, by omega, by omega, by go_num, by simp only [extW_extW]; rfl⟩
      case measure => simp [intOf]; omega
    · obtain rfl : k = sa := by omega
      have hpk := HSid.out.ka
      rw [hpk] at HK1
      clear hpk
      (go_wp2_with fail; refine (HK1.out _ (HI.out.below (by repeat (first | exact Below.refl _ _ | refine Below.drew ?_ | refine below_drewN ?_ _ | refine Below.alloc ?_ (by first | exact Nat.le_refl _ | (simp; done) | (simp; omega) | omega) _ | refine Below.setCell ?_ (by first | exact Nat.le_refl _ | (simp; done) | (simp; omega) | omega) _ | refine bExtW ?_ (by first | exact Nat.le_refl _ | (simp; done) | (simp; omega) | omega) | refine Below.trans ?_ (Below.mono (by assumption) (by first | exact Nat.le_refl _ | (simp; done) | (simp; omega) | omega)))))).mono ?_; rintro r w1 ⟨rfl, hb⟩; obtain ⟨E, d, rfl⟩ := bExt hb; clear hb)
      go_wp2_with fail
      rw [extW_extW]
      go_loopw [7] (fun yv wr => ∃ (y : Nat) (E : Array Obj) (d : Nat), 1 ≤ y ∧ y ≤ ub ∧ yv = .int .i64 y ∧ wr = extW (((w.alloc (.cells #[.int .i64 (G : Int), .int .i64 (W : Int), .int .i64 (H : Int), .slice a n c] 36)).alloc (.cells #[.int .i64 0, .int .i64 0] 38)).alloc (.cells #[.int .i64 0, .int .i64 0] 38)) E d) (fun yv _ => ub + 1 - (intOf yv).toNat)
      case atStart => exact ⟨1, _, _, by omega, b1, rfl, rfl⟩
      case round =>
        obtain ⟨y, E2, d2, hy1, hy, rfl, rfl⟩ := hrel
        have vy : IntKind.i64.wrap ((y : Int) + 1) = (y : Int) + 1 := IntWalk.i64_in _ (by omega)
        have dy : decide ((y : Int) ≤ (N : Int)) = true := by simp; omega
        have dy2 : decide (y ≤ N) = true := by simp; omega
        go_wp2_with fail
        go_loopw [8] (fun xv wr => ∃ (x : Nat) (E : Array Obj) (d : Nat), x ≤ k ∧ (y = ub → x ≤ uc) ∧ xv = .int .i64 x ∧ wr = extW (((w.alloc (.cells #[.int .i64 (G : Int), .int .i64 (W : Int), .int .i64 (H : Int), .slice a n c] 36)).alloc (.cells #[.int .i64 0, .int .i64 0] 38)).alloc (.cells #[.int .i64 0, .int .i64 0] 38)) E d) (fun xv _ => k + 1 - (intOf xv).toNat)
        case atStart => exact ⟨0, E2, d2, by omega, fun _ => by omega, rfl, rfl⟩
        case round =>
          obtain ⟨x, E3, d3, hx, hxy, rfl, rfl⟩ := hrel
          have vx : IntKind.i64.wrap ((x : Int) + 1) = (x : Int) + 1 := IntWalk.i64_in _ (by omega)
          by_cases hxk : x < k
          · have dx : decide ((x : Int) < (k : Int)) = true := by simpa using hxk
            have HK2 := Lib.hid (fun w hI => HK.out x y w (by omega) (by omega) hI)
            by_cases hend : x = uc ∧ y = ub
            · obtain ⟨rfl, rfl⟩ := hend
              have hpk := HUp.out.kb
              rw [hpk] at HK2
              clear hpk HSid HUp HK hxy
              (go_wp2_with fail; refine (HK2.out _ (HI.out.below (by repeat (first | exact Below.refl _ _ | refine Below.drew ?_ | refine below_drewN ?_ _ | refine Below.alloc ?_ (by first | exact Nat.le_refl _ | (simp; done) | (simp; omega) | omega) _ | refine Below.setCell ?_ (by first | exact Nat.le_refl _ | (simp; done) | (simp; omega) | omega) _ | refine bExtW ?_ (by first | exact Nat.le_refl _ | (simp; done) | (simp; omega) | omega) | refine Below.trans ?_ (Below.mono (by assumption) (by first | exact Nat.le_refl _ | (simp; done) | (simp; omega) | omega)))))).mono ?_; rintro r w1 ⟨rfl, hb⟩; obtain ⟨E, d, rfl⟩ := bExt hb; clear hb)
              go_wp2
              refine bodyPost_ret (v := .tuple #[.agg #[.int .i64 (k), .int .i64 (0)], .agg #[.int .i64 (x), .int .i64 (y)]]) (by simp [results, Try.results41, go_sem]) rfl ⟨rfl, (by repeat (first | exact Below.refl _ _ | refine Below.drew ?_ | refine below_drewN ?_ _ | refine Below.alloc ?_ (by first | exact Nat.le_refl _ | (simp; done) | (simp; omega) | omega) _ | refine Below.setCell ?_ (by first | exact Nat.le_refl _ | (simp; done) | (simp; omega) | omega) _ | refine bExtW ?_ (by first | exact Nat.le_refl _ | (simp; done) | (simp; omega) | omega) | refine Below.trans ?_ (Below.mono (by assumption) (by first | exact Nat.le_refl _ | (simp; done) | (simp; omega) | omega))))⟩
            · have hpk : P x y = false := by
                by_cases hyb : y < ub
                · exact HUp.out.mn y x hy1 hyb hxk
                · obtain rfl : y = ub := by omega
                  exact HUp.out.mx x (by have := hxy rfl; omega)
              rw [hpk] at HK2
              have HXY : Hid (y = ub → x + 1 ≤ uc) := Lib.hid fun e => by have := hxy e; omega
              clear hpk hend hxy
              (go_wp2_with fail; refine (HK2.out _ (HI.out.below (by repeat (first | exact Below.refl _ _ | refine Below.drew ?_ | refine below_drewN ?_ _ | refine Below.alloc ?_ (by first | exact Nat.le_refl _ | (simp; done) | (simp; omega) | omega) _ | refine Below.setCell ?_ (by first | exact Nat.le_refl _ | (simp; done) | (simp; omega) | omega) _ | refine bExtW ?_ (by first | exact Nat.le_refl _ | (simp; done) | (simp; omega) | omega) | refine Below.trans ?_ (Below.mono (by assumption) (by first | exact Nat.le_refl _ | (simp; done) | (simp; omega) | omega)))))).mono ?_; rintro r w1 ⟨rfl, hb⟩; obtain ⟨E, d, rfl⟩ := bExt hb; clear hb)
              go_wp2
              go_roundw
              case rel => exact ⟨x + 1, _, _, by omega, HXY.out, by go_num, by simp only [extW_extW]; rfl⟩
              case measure => simp [intOf]; omega
          · obtain rfl : x = k := by omega
            have dx : decide ((x : Int) < (x : Int)) = false := by simp
            have hyb : y < ub := by
              by_cases e : y = ub
              · have := hxy e; omega
              · omega
            clear hxy
            go_wp2
            go_roundw
            case rel => exact ⟨y + 1, _, _, by omega, by omega, by go_num, rfl⟩
            case measure => simp [intOf]; omega
set_option maxRecDepth 100000 in
set_option maxHeartbeats 8000000 in
theorem SameMoves_ok (L : List Mv) (k : Nat) (a a' : Option Addr) (c c' : Nat) (w : World) (h1 : IsMoves w a k L) (h2 : IsMoves w a' k L) (hk : k ≤ 100000000) :
    Calls Try.prog 40 #[.slice a k c, .slice a' k c'] w fun r w' => r = .returned (.bool true) ∧ Below w.heap.size w w' := by
  have H1 := Lib.hid h1; have H2 := Lib.hid h2
  clear h1 h2
  go_enter Try.func40, Try.ntmps40
  go_wp2_with fail
  go_loopw [13] (fun iv wr => ∃ (i : Nat) (E : Array Obj) (d : Nat), i ≤ k ∧ iv = .int .i64 i ∧ wr = extW w E d) (fun iv _ => k - (intOf iv).toNat)
  case atStart => exact ⟨0, #[], _, by omega, rfl, extW_zero _⟩
  case round =>
    obtain ⟨i, E, d, hi, rfl, rfl⟩ := hrel
    by_cases hik : i < k
    · have di : decide ((i : Int) < (k : Int)) = true := by simpa using hik
      have vi : IntKind.i64.wrap ((i : Int) + 1) = (i : Int) + 1 := IntWalk.i64_in _ (by omega)
      obtain ⟨b, o, rfl, hb, hc⟩ := H1.out.2 (by omega)
      obtain ⟨b', o', rfl, hb', hc'⟩ := H2.out.2 (by omega)
      obtain ⟨c0, c1, c2, c3⟩ := hc i hik
      obtain ⟨e0, e1, e2, e3⟩ := hc' i hik
      have lb : LtW b w := hb
      have lb' : LtW b' w := hb'
      generalize L.getD i idm = m at *
      obtain ⟨t, f, x, y⟩ := m
      simp only at c0 c1 c2 c3 e0 e1 e2 e3
      clear hb hb' hc hc'
      go_wp2_with fail
      (refine wp_region_ext (by kernel_rfl) (by kernel_rfl) ?_; (repeat (first | ((with_reducible refine ext_step (fun K hK => ?_)); go_simp; first | (refine hK _ ?_; clear hK K) | (apply Exists.intro; refine ⟨fun _ _ => ?_, hK _ ?_⟩; fail; clear hK K)))); refine wpQuiet_nil ?_; intro E d)
      go_wp2
      go_roundw
      case rel => exact ⟨i + 1, _, _, by omega, by go_num, by simp only [extW_extW]; rfl⟩
      case measure => simp [intOf]; omega
    · obtain rfl : i = k := by omega
      have di : decide ((i : Int) < (i : Int)) = false := by simp
      go_wp2
      go_ret
      exact ⟨rfl, (by repeat (first | exact Below.refl _ _ | refine Below.drew ?_ | refine below_drewN ?_ _ | refine Below.alloc ?_ (by first | exact Nat.le_refl _ | (simp; done) | (simp; omega) | omega) _ | refine Below.setCell ?_ (by first | exact Nat.le_refl _ | (simp; done) | (simp; omega) | omega) _ | refine bExtW ?_ (by first | exact Nat.le_refl _ | (simp; done) | (simp; omega) | omega) | refine Below.trans ?_ (Below.mono (by assumption) (by first | exact Nat.le_refl _ | (simp; done) | (simp; omega) | omega))))⟩
set_option maxRecDepth 100000 in
set_option maxHeartbeats 8000000 in
theorem SamePoints_ok (L : List Z.Pt) (k : Nat) (a a' : Option Addr) (c c' : Nat) (w : World) (h1 : IsPts w a k L) (h2 : IsPts w a' k L) (hk : k ≤ 100000000) :
    Calls Try.prog 42 #[.slice a k c, .slice a' k c'] w fun r w' => r = .returned (.bool true) ∧ Below w.heap.size w w' := by
  have H1 := Lib.hid h1; have H2 := Lib.hid h2
  clear h1 h2
  go_enter Try.func42, Try.ntmps42
  go_wp2_with fail
  go_loopw [13] (fun iv wr => ∃ (i : Nat) (E : Array Obj) (d : Nat), i ≤ k ∧ iv = .int .i64 i ∧ wr = extW w E d) (fun iv _ => k - (intOf iv).toNat)
  case atStart => exact ⟨0, #[], _, by omega, rfl, extW_zero _⟩
  case round =>
    obtain ⟨i, E, d, hi, rfl, rfl⟩ := hrel
    by_cases hik : i < k
    · have di : decide ((i : Int) < (k : Int)) = true := by simpa using hik
      have vi : IntKind.i64.wrap ((i : Int) + 1) = (i : Int) + 1 := IntWalk.i64_in _ (by omega)
      obtain ⟨b, o, rfl, hb, hc⟩ := H1.out.2 (by omega)
      obtain ⟨b', o', rfl, hb', hc'⟩ := H2.out.2 (by omega)
      obtain ⟨c0, c1⟩ := hc i hik
      obtain ⟨e0, e1⟩ := hc' i hik
      have lb : LtW b w := hb
      have lb' : LtW b' w := hb'
      generalize L.getD i (0, 0) = m at *
      obtain ⟨x, y⟩ := m
      simp only at c0 c1 e0 e1
      clear hb hb' hc hc'
      go_wp2_with fail
      (refine wp_region_ext (by kernel_rfl) (by kernel_rfl) ?_; (repeat (first | ((with_reducible refine ext_step (fun K hK => ?_)); go_simp; first | (refine hK _ ?_; clear hK K) | (apply Exists.intro; refine ⟨fun _ _ => ?_, hK _ ?_⟩; fail; clear hK K)))); refine wpQuiet_nil ?_; intro E d)
      go_wp2
      go_roundw
      case rel => exact ⟨i + 1, _, _, by omega, by go_num, by simp only [extW_extW]; rfl⟩
      case measure => simp [intOf]; omega
    · obtain rfl : i = k := by omega
      have di : decide ((i : Int) < (i : Int)) = false := by simp
      go_wp2
      go_ret
      exact ⟨rfl, (by repeat (first | exact Below.refl _ _ | refine Below.drew ?_ | refine below_drewN ?_ _ | refine Below.alloc ?_ (by first | exact Nat.le_refl _ | (simp; done) | (simp; omega) | omega) _ | refine Below.setCell ?_ (by first | exact Nat.le_refl _ | (simp; done) | (simp; omega) | omega) _ | refine bExtW ?_ (by first | exact Nat.le_refl _ | (simp; done) | (simp; omega) | omega) | refine Below.trans ?_ (Below.mono (by assumption) (by first | exact Nat.le_refl _ | (simp; done) | (simp; omega) | omega))))⟩
end Go.Proofs.Ytdaacjaibfcacaa
