/- Lemmas and contracts of functions (what each call returns, and that it changes nothing that was there) that the proof of a law of this seat uses; each lemma states its own conditions. -/
import Derived.Test.YtikddfjickkhhaaTw4
import Derived.IntWalk
namespace Go.Proofs.Ytikddfjickkhhaa
open Go.RowKit
set_option linter.unusedVariables false
set_option linter.unusedSimpArgs false
open Tw
set_option maxRecDepth 100000 in
set_option maxHeartbeats 8000000 in
theorem satin_walk (n move : Int) (w : World) (h1 : (-9223372036854775808 ≤ n ∧ n ≤ 9223372036854775807)) (h2 : (-9223372036854775808 ≤ move ∧ move ≤ 9223372036854775807)) :
    Calls Try.prog 3 #[.int .i64 (n), .int .i64 (move)] w fun e w' => e = .returned (.bool true) ∧ Below w.heap.size w w' := by
  by_cases hr : n < 1 ∨ 64 < n ∨ move < 0 ∨ n ≤ move
  · rcases (show n < 1 ∨ (1 ≤ n ∧ 64 < n) ∨ (1 ≤ n ∧ n ≤ 64 ∧ move < 0) ∨ (1 ≤ n ∧ n ≤ 64 ∧ 0 ≤ move ∧ n ≤ move) by omega) with h | ⟨h, h'⟩ | ⟨h, h', h''⟩ | ⟨h, h', h'', h3⟩
    all_goals
      clear hr
      go_enter Try.func3, Try.ntmps3
      (go_wp2_with fail; refine (alive7_any _).mono ?_; rintro r w1 ⟨rfl, hb⟩; obtain ⟨E, d, rfl⟩ := bExt hb; clear hb)
      go_wp2
      go_ret
      exact ⟨rfl, (by repeat (first | exact Below.refl _ _ | refine Below.drew ?_ | refine below_drewN ?_ _ | refine Below.alloc ?_ (by first | exact Nat.le_refl _ | (simp; done) | (simp; omega) | omega) _ | refine Below.setCell ?_ (by first | exact Nat.le_refl _ | (simp; done) | (simp; omega) | omega) _ | refine bExtW ?_ (by first | exact Nat.le_refl _ | (simp; done) | (simp; omega) | omega) | refine Below.trans ?_ (Below.mono (by assumption) (by first | exact Nat.le_refl _ | (simp; done) | (simp; omega) | omega))))⟩
  · obtain ⟨N, rfl⟩ : ∃ N : Nat, n = N := ⟨n.toNat, by omega⟩
    obtain ⟨k, rfl⟩ : ∃ k : Nat, move = k := ⟨move.toNat, by omega⟩
    have hN1 : 1 ≤ N := by omega
    have hN : N ≤ 64 := by omega
    have hk : k < N := by omega
    have hd1 : decide ((N:Int) < 1) = false := by simp; omega
    have hd2 : decide (64 < (N:Int)) = false := by simp; omega
    have hd3 : decide ((k:Int) < 0) = false := by simp
    have hd4 : decide (N ≤ k) = false := by simp; omega
    have HS := Lib.hid (fun w => Satin_any N k w hN1 hN (by omega))
    clear hr h1 h2
    have hmk := makeRow okInts' rfl N (by omega) (by omega)
    go_enter Try.func3, Try.ntmps3
    go_wp2_with fail
    refine (alive7_any _).mono ?_
    rintro r w1 ⟨rfl, hb⟩
    have HB1 := Lib.hid hb
    clear hb
    go_wp2_with fail
    have hrow : (w1.alloc (.cells (madeCells #[Value.int .i64 0] N) 3)).rowIs w1.heap.size 3 N (fun x => .int .i64 (if x < 0 then atV N k x else 0)) :=
      (World.rowIs_made w1 (.int .i64 0) N 3).congr fun i hi => by simp
    have hB0 : Below w1.heap.size w1 (w1.alloc (.cells (madeCells #[Value.int .i64 0] N) 3)) := (by repeat (first | exact Below.refl _ _ | refine Below.drew ?_ | refine below_drewN ?_ _ | refine Below.alloc ?_ (by first | exact Nat.le_refl _ | (simp; done) | (simp; omega) | omega) _ | refine Below.setCell ?_ (by first | exact Nat.le_refl _ | (simp; done) | (simp; omega) | omega) _ | refine bExtW ?_ (by first | exact Nat.le_refl _ | (simp; done) | (simp; omega) | omega) | refine Below.trans ?_ (Below.mono (by assumption) (by first | exact Nat.le_refl _ | (simp; done) | (simp; omega) | omega))))
    have hsz : (w1.alloc (.cells (madeCells #[Value.int .i64 0] N) 3)).heap.size = w1.heap.size + 1 := by simp
    generalize w1.alloc (.cells (madeCells #[Value.int .i64 0] N) 3) = W0 at *
    obtain ⟨g, hg⟩ : ∃ g, g = w1.heap.size := ⟨_, rfl⟩
    rw [← hg] at hrow hB0 hsz ⊢
    have HB2 : Hid (Below w.heap.size w W0) := Lib.hid (HB1.out.trans (hB0.mono (by rw [hg]; exact HB1.out.size)))
    have HG : Hid (w.heap.size ≤ g) := Lib.hid (by rw [hg]; exact HB1.out.size)
    clear hg hB0 hmk HB1 hd1 hd2 hd3 hd4
    have hG0 : decide (1 < (N : Int)) = G1 N k 0 := by simp [G1]; omega
    rw [hG0]
    clear hG0
    go_loopw [7, 6] (fun y gd wr => ∃ j : Nat, j ≤ N ∧ y = .int .i64 j ∧ gd = .bool (G1 N k j) ∧ wr.rowIs g 3 N (fun x => .int .i64 (if x < j then atV N k x else 0)) ∧ Below g W0 wr ∧ g + 1 ≤ wr.heap.size) (fun y _ _ => N - (intOf y).toNat)
    case atStart => exact ⟨0, Nat.zero_le _, rfl, rfl, hrow, Below.refl _ _, by omega⟩
    case round =>
      clear hrow hsz
      obtain ⟨j, hj, rfl, rfl, hrow, hbel, hgl⟩ := hrel
      by_cases hjN : j < N
      · obtain ⟨m, hm⟩ : ∃ m : Nat, j * k = m := ⟨_, rfl⟩
        have hm4 : m ≤ 4096 := by rw [← hm]; exact Nat.le_trans (Nat.mul_le_mul (show j ≤ 64 by omega) (show k ≤ 64 by omega)) (by omega)
        have hmul : (j : Int) * (k : Int) = (m : Int) := by rw [← Int.natCast_mul, hm]
        have hat : (m : Int) % (N : Int) = atV N k j := by unfold atV; rw [hm, Int.natCast_emod]
        have c0 := hrow.cell (i := j) hjN
        have f0 := hrow.frozen j
        have HRW := Lib.hid hrow
        have HBE := Lib.hid hbel
        have HBD := Lib.hid (atV_bd (n := N) (k := k) (y := j) (by omega))
        clear hrow hbel hm
        have hNe : (N : Int) ≠ 0 := by omega
        generalize hGG : G1 N k j = gg at *
        have HGG := Lib.hid hGG
        clear hGG
        go_wp2_with fail
        have HR1 : Hid ((wr.setCell ⟨g, j, none⟩ (.int .i64 (atV N k j))).rowIs g 3 N (fun x => .int .i64 (if x < j + 1 then atV N k x else 0))) := Lib.hid ((HRW.out.set j _).congr fun i hi => by
          by_cases e : i = j
          · subst e; simp
          · rw [if_neg e]
            by_cases e2 : i < j
            · rw [if_pos e2, if_pos (by omega)]
            · rw [if_neg e2, if_neg (by omega)])
        have HB3 : Hid (Below g W0 (wr.setCell ⟨g, j, none⟩ (.int .i64 (atV N k j)))) := Lib.hid (HBE.out.setCell (by simp) _)
        have hs3 : g + 1 ≤ (wr.setCell ⟨g, j, none⟩ (.int .i64 (atV N k j))).heap.size := by rw [World.size_setCell]; exact hgl
        generalize wr.setCell ⟨g, j, none⟩ (.int .i64 (atV N k j)) = wi at *
        clear c0 f0 hmul hat HRW HBE hgl
        go_loopw [8, 6] (fun z gd wr' => ∃ i : Nat, i ≤ j ∧ z = .int .i64 i ∧ gd = .bool (G2 N k j i) ∧ ∃ E d, wr' = extW wi E d) (fun z _ _ => j - (intOf z).toNat)
        case atStart => exact ⟨0, Nat.zero_le _, rfl, by rw [G2_zero, HGG.out], _, _, extW_zero _⟩
        case round =>
          obtain ⟨i, hi, rfl, rfl, E, d, rfl⟩ := hrel
          by_cases hij : i < j
          · have ci := HR1.out.cell (i := i) (by omega)
            have cj := HR1.out.cell (i := j) (by omega)
            rw [if_pos (by omega)] at ci cj
            have lg : LtW g wi := by unfold LtW; omega
            have hiN : i < N := by omega
            have HGS := Lib.hid (G2_succ N k j i)
            generalize atV N k i = p at *
            generalize atV N k j = q at *
            generalize G2 N k j i = b at *
            cases b with
            | false =>
              go_wp2_with fail
              (refine wp_region_ext (by kernel_rfl) (by kernel_rfl) ?_; (repeat (first | ((with_reducible refine ext_step (fun K hK => ?_)); go_simp; first | (refine hK _ ?_; clear hK K) | (apply Exists.intro; refine ⟨fun _ _ => ?_, hK _ ?_⟩; fail; clear hK K)))); refine wpQuiet_nil ?_; intro E d)
              go_wp2
              go_roundw
              case rel => exact ⟨i + 1, by omega, by go_num, by rw [HGS.out]; rfl, _, _, extW_extW _ _ _ _ _⟩
              case measure => simp [intOf]; omega
            | true =>
              go_wp2_with fail
              (refine wp_region_ext (by kernel_rfl) (by kernel_rfl) ?_; (repeat (first | ((with_reducible refine ext_step (fun K hK => ?_)); go_simp; first | (refine hK _ ?_; clear hK K) | (apply Exists.intro; refine ⟨fun _ _ => ?_, hK _ ?_⟩; fail; clear hK K)))); refine wpQuiet_nil ?_; intro E d)
              go_wp2
              go_roundw
              case rel => exact ⟨i + 1, by omega, by go_num, by rw [HGS.out]; simp, _, _, extW_extW _ _ _ _ _⟩
              case measure => simp [intOf]; omega
          · obtain rfl : i = j := by omega
            have HGS := Lib.hid (G1_succ N k i)
            have HBL := Lib.hid (HB3.out.trans ((bExtW (E := E) (d := d) (Below.refl wi.heap.size wi) (Nat.le_refl _)).mono (by omega)))
            have HRL := Lib.hid (rowBelow HR1.out (bExtW (E := E) (d := d) (Below.refl wi.heap.size wi) (Nat.le_refl _)) (by omega))
            generalize G2 N k i i = b at *
            go_wp2
            go_roundw
            case rel => exact ⟨i + 1, by omega, by go_num, by rw [HGS.out], HRL.out, HBL.out, by simp; omega⟩
            case measure => simp [intOf]; omega
      · obtain rfl : j = N := by omega
        have HRW : Hid (wr.rowIs g 3 j (fun x => .int .i64 (atV j k x))) := Lib.hid (hrow.congr fun i hi => by rw [if_pos hi])
        have HB3 : Hid (Below w.heap.size w wr) := Lib.hid (HB2.out.trans (hbel.mono HG.out))
        clear hrow hbel HB2
        have HNM := Lib.hid (fun b j' => good_fin (n := j) (k := k) (j := j') (b := b) hN1)
        generalize hGG : G1 j k j = gg at *
        have HGG := Lib.hid hGG
        clear hGG
        go_wp2_with fail
        generalize wr = W1 at *
        go_loopw [9, 6] (fun y gd wr => ∃ (i : Nat) (b : Bool), i ≤ j ∧ y = .int .i64 i ∧ gd = .bool b ∧ Hid ((i = 0 ∧ b = gg) ∨ (0 < i ∧ gg = true ∧ b = kOk j k)) ∧ ∃ E d, wr = extW W1 E d) (fun y _ _ => j - (intOf y).toNat)
        case atStart => exact ⟨0, gg, Nat.zero_le _, rfl, rfl, Lib.hid (.inl ⟨rfl, rfl⟩), _, _, extW_zero _⟩
        case round =>
          obtain ⟨i, b, hi, rfl, rfl, HO, E, d, rfl⟩ := hrel
          cases b with
          | false =>
            have HF := Lib.hid (HNM.out false i HO.out (.inl rfl))
            by_cases hij : i < j
            all_goals
              go_wp2_with fail
              refine (HS.out _).mono ?_
              rintro r w2 (⟨_, rfl, hb⟩ | ⟨k', e, hok, _⟩)
              · have HB4 := Lib.hid (HB3.out.trans ((bExtW (E := E) (d := d) (Below.refl W1.heap.size W1) (Nat.le_refl _)).mono HB3.out.size))
                have HB5 := Lib.hid (HB4.out.trans (hb.mono HB4.out.size))
                clear hb
                go_wp2
                go_ret
                exact ⟨rfl, HB5.out.alloc HB5.out.size _⟩
              · exfalso
                obtain rfl : k = k' := by omega
                have := HF.out
                rw [decide_eq_true hok] at this
                cases this
          | true =>
            have lg : LtW g W1 := by unfold LtW; omega
            by_cases hij : i < j
            · have hgg : gg = true := by rcases HO.out with ⟨_, e⟩ | ⟨_, e, _⟩ <;> simp_all
              have HGT := Lib.hid hgg
              obtain ⟨r, hr⟩ : ∃ r : Nat, (i + 1) % j = r := ⟨_, rfl⟩
              have hrj : r < j := by rw [← hr]; exact Nat.mod_lt _ (by omega)
              have hri : ((i : Int) + 1).tmod (j : Int) = (r : Int) := by rw [← hr, Int.tmod_eq_emod_of_nonneg (by omega)]; rfl
              have cr := HRW.out.cell (i := r) hrj
              have ci := HRW.out.cell (i := i) hij
              have hst := atV_step (n := j) (k := k) (y := i) hk hij
              rw [hr] at hst
              have b1 := atV_bd (n := j) (k := k) (y := r) (by omega)
              have b2 := atV_bd (n := j) (k := k) (y := i) (by omega)
              have HK := Lib.hid (show kOk j k = decide (1 < k ∧ k + 1 < j) from rfl)
              generalize atV j k r = p at *
              generalize atV j k i = q at *
              have hst2 : (p - q + (j : Int)).tmod (j : Int) = (k : Int) := by rw [Int.tmod_eq_emod_of_nonneg (by omega)]; exact hst
              have hrr : (0 : Int) ≤ (r : Int) := by omega
              have hrn : (r : Int) < (j : Int) := by omega
              have hN0 : ((j : Int) == 0) = false := by simp; omega
              have hN3 : ¬ j = 0 := by omega
              have v1 : IntKind.i64.wrap ((i : Int) + 1) = (i : Int) + 1 := IntWalk.i64_in _ (by omega)
              have v2 : IntKind.i64.wrap (p - q) = p - q := IntWalk.i64_in _ (by omega)
              have v3 : IntKind.i64.wrap (p - q + (j : Int)) = p - q + (j : Int) := IntWalk.i64_in _ (by omega)
              clear hst hr hgg
              go_wp2_with fail
              (refine wp_region_ext (by kernel_rfl) (by kernel_rfl) ?_; (repeat (first | ((with_reducible refine ext_step (fun K hK => ?_)); go_simp; first | (refine hK _ ?_; clear hK K) | (apply Exists.intro; refine ⟨fun _ _ => ?_, hK _ ?_⟩; fail; clear hK K)))); refine wpQuiet_nil ?_; intro E d)
              clear v1 v2 v3 hst2 hri cr ci
              by_cases hk1 : 1 < k
              · by_cases hk2 : k + 1 < j
                · have HK2 : Hid (kOk j k = true) := Lib.hid (by rw [HK.out]; simp [hk1, hk2])
                  go_wp2
                  go_roundw
                  case rel => exact ⟨i + 1, _, by omega, by go_num, rfl, Lib.hid (.inr ⟨by omega, HGT.out, by first | exact HK2.out.symm | (rw [HK2.out]; simp; done) | (rw [HK2.out]; simp; omega)⟩), _, _, extW_extW _ _ _ _ _⟩
                  case measure => simp [intOf]; omega
                · have HK2 : Hid (kOk j k = false) := Lib.hid (by rw [HK.out]; simp [hk2])
                  go_wp2
                  go_roundw
                  case rel => exact ⟨i + 1, _, by omega, by go_num, rfl, Lib.hid (.inr ⟨by omega, HGT.out, by first | exact HK2.out.symm | (rw [HK2.out]; simp; done) | (rw [HK2.out]; simp; omega)⟩), _, _, extW_extW _ _ _ _ _⟩
                  case measure => simp [intOf]; omega
              · have HK2 : Hid (kOk j k = false) := Lib.hid (by rw [HK.out]; simp [hk1])
                go_wp2
                go_roundw
                case rel => exact ⟨i + 1, _, by omega, by go_num, rfl, Lib.hid (.inr ⟨by omega, HGT.out, by first | exact HK2.out.symm | (rw [HK2.out]; simp; done) | (rw [HK2.out]; simp; omega)⟩), _, _, extW_extW _ _ _ _ _⟩
                case measure => simp [intOf]; omega
            · obtain rfl : i = j := by omega
              have HF := Lib.hid (HNM.out true i HO.out (.inr rfl))
              have HRE : Hid ((extW W1 E d).rowIs g 3 i (fun x => .int .i64 (atV i k x))) := Lib.hid (rowBelow HRW.out (bExtW (E := E) (d := d) (Below.refl W1.heap.size W1) (Nat.le_refl _)) (by omega))
              have HB4 := Lib.hid (HB3.out.trans ((bExtW (E := E) (d := d) (Below.refl W1.heap.size W1) (Nat.le_refl _)).mono HB3.out.size))
              have hgl4 : g + 1 ≤ (extW W1 E d).heap.size := by simp; omega
              generalize extW W1 E d = W2 at *
              go_wp2_with fail
              refine (HS.out _).mono ?_
              rintro r w2 (⟨hno, _, _⟩ | ⟨k', e, hok, A, c, rfl, hI, hb⟩)
              · exfalso
                have := HF.out
                rw [decide_eq_false (hno k rfl)] at this
                cases this
              · obtain rfl : k = k' := by omega
                have hrow2 := rowBelow HRE.out hb (by omega)
                have hg2 := Nat.le_trans hgl4 hb.size
                have HB5 := Lib.hid (HB4.out.trans (hb.mono HB4.out.size))
                have hii : i * i ≤ 4096 := Nat.le_trans (Nat.mul_le_mul hN hN) (by omega)
                clear hb e
                generalize hK2 : i * i = K2 at *
                have HK2 := Lib.hid hK2
                clear hK2
                go_wp2_with fail
                have HR3 : Hid ((w2.alloc (.cells #[.int .i64 (i), .int .i64 (i), .slice A K2 c] 26)).rowIs g 3 i (fun x => .int .i64 (atV i k x))) := Lib.hid (hrow2.alloc _)
                have HI3 : Hid (IsBools (w2.alloc (.cells #[.int .i64 (i), .int .i64 (i), .slice A K2 c] 26)) A K2 (satL i k)) := Lib.hid (hI.below (by repeat (first | exact Below.refl _ _ | refine Below.drew ?_ | refine below_drewN ?_ _ | refine Below.alloc ?_ (by first | exact Nat.le_refl _ | (simp; done) | (simp; omega) | omega) _ | refine Below.setCell ?_ (by first | exact Nat.le_refl _ | (simp; done) | (simp; omega) | omega) _ | refine bExtW ?_ (by first | exact Nat.le_refl _ | (simp; done) | (simp; omega) | omega) | refine Below.trans ?_ (Below.mono (by assumption) (by first | exact Nat.le_refl _ | (simp; done) | (simp; omega) | omega)))))
                have HB6 : Hid (Below w.heap.size w (w2.alloc (.cells #[.int .i64 (i), .int .i64 (i), .slice A K2 c] 26))) := Lib.hid (HB5.out.alloc HB5.out.size _)
                have m2 : (w2.alloc (.cells #[.int .i64 (i), .int .i64 (i), .slice A K2 c] 26)).cell? ⟨w2.heap.size, 2, none⟩ = some (.slice A K2 c) := by simp [go_sem]
                have lq : LtW w2.heap.size (w2.alloc (.cells #[.int .i64 (i), .int .i64 (i), .slice A K2 c] 26)) := by unfold LtW; simp
                have lg3 : LtW g (w2.alloc (.cells #[.int .i64 (i), .int .i64 (i), .slice A K2 c] 26)) := by unfold LtW; simp; omega
                generalize w2.alloc (.cells #[.int .i64 (i), .int .i64 (i), .slice A K2 c] 26) = W3 at *
                generalize w2.heap.size = q at *
                clear hrow2 hI
                go_loopw [13] (fun y wr => ∃ y' : Nat, y' ≤ i ∧ y = .int .i64 y' ∧ ∃ E d, wr = extW W3 E d) (fun y _ => i - (intOf y).toNat)
                case atStart => exact ⟨0, Nat.zero_le _, rfl, _, _, extW_zero _⟩
                case round =>
                  obtain ⟨y, hy, rfl, E, d, rfl⟩ := hrel
                  by_cases hyi : y < i
                  · go_wp2_with fail
                    go_loopw [14] (fun x wr => ∃ x' : Nat, x' ≤ i ∧ x = .int .i64 x' ∧ ∃ E d, wr = extW W3 E d) (fun x _ => i - (intOf x).toNat)
                    case atStart => exact ⟨0, Nat.zero_le _, rfl, _, _, rfl⟩
                    case round =>
                      obtain ⟨x, hx, rfl, E, d, rfl⟩ := hrel
                      by_cases hxi : x < i
                      · have hbit := satL_get (n := i) (k := k) (x := x) (y := y) hxi hyi
                        have hlt : y * i + x < K2 := by
                          rw [← HK2.out]
                          have : (y + 1) * i ≤ i * i := Nat.mul_le_mul_right i hyi
                          rw [Nat.add_mul, Nat.one_mul] at this; omega
                        obtain ⟨b, o, rfl, hbl, hc⟩ := HI3.out.2 (by omega)
                        have c3 := hc _ hlt
                        have cy := HR3.out.cell (i := y) hyi
                        obtain ⟨M, hM⟩ : ∃ M, y * i = M := ⟨_, rfl⟩
                        have hmul : (y : Int) * (i : Int) = (M : Int) := by rw [← Int.natCast_mul, hM]
                        rw [hM] at hbit c3 hlt
                        rw [hbit] at c3
                        generalize atV i k y = p at *
                        obtain ⟨bb, hbb⟩ : ∃ bb, ((x : Int) == p) = bb := ⟨_, rfl⟩
                        have e2 : decide ((x : Int) = p) = bb := by rw [← hbb]; exact Bool.eq_iff_iff.2 (by simp)
                        rw [e2] at c3
                        have lb : LtW b W3 := hbl
                        have hMx : (M : Int) + (x : Int) < (K2 : Int) := by omega
                        have hM0 : (0 : Int) ≤ (M : Int) + (x : Int) := by omega
                        have hMt : ((M : Int) + (x : Int)).toNat = M + x := by omega
                        have v1 : IntKind.i64.wrap (M : Int) = (M : Int) := IntWalk.i64_in _ (by omega)
                        have v2 : IntKind.i64.wrap ((M : Int) + (x : Int)) = (M : Int) + (x : Int) := IntWalk.i64_in _ (by omega)
                        clear hc hbit e2 hM hbl
                        go_wp2_with fail
                        (refine wp_region_ext (by kernel_rfl) (by kernel_rfl) ?_; (repeat (first | ((with_reducible refine ext_step (fun K hK => ?_)); go_simp; first | (refine hK _ ?_; clear hK K) | (apply Exists.intro; refine ⟨fun _ _ => ?_, hK _ ?_⟩; fail; clear hK K)))); refine wpQuiet_nil ?_; intro E d)
                        clear v1 v2 hMt
                        go_wp2
                        go_roundw
                        case rel => exact ⟨x + 1, by omega, by go_num, _, _, extW_extW _ _ _ _ _⟩
                        case measure => simp [intOf]; omega
                      · obtain rfl : x = i := by omega
                        go_wp2
                        go_roundw
                        case rel => exact ⟨y + 1, by omega, by go_num, _, _, rfl⟩
                        case measure => simp [intOf]; omega
                  · obtain rfl : y = i := by omega
                    go_wp2
                    go_ret
                    exact ⟨rfl, bExtW HB6.out HB6.out.size⟩
end Go.Proofs.Ytikddfjickkhhaa
