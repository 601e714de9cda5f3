/- Lemmas and contracts of functions (what each call returns, and that it changes nothing that was there) that the proof of a law of this seat uses; each lemma states its own conditions. -/
import Derived.Test.YticplgjpflaelaaEf11
import Derived.Test.YticplgjpflaelaaEf3
namespace Go.Proofs.Yticplgjpflaelaa
open Go.RowKit
set_option linter.unusedVariables false
set_option linter.unusedSimpArgs false
open Ef
set_option maxRecDepth 100000 in
set_option maxHeartbeats 8000000 in
theorem rStr_bad (G W H : Int) (a : Option Addr) (n c : Nat) (cs : List Int) (w : World) (hI : IsInts w a n cs) (h0 : (-9223372036854775808 ≤ G ∧ G ≤ 9223372036854775807)) (h1 : (-9223372036854775808 ≤ W ∧ W ≤ 9223372036854775807)) (h2 : (-9223372036854775808 ≤ H ∧ H ≤ 9223372036854775807)) (h3 : n ≤ 9223372036854775807) (he : chE G W H n cs ≠ 0) :
    Calls Try.prog 33 #[.agg #[.int .i64 (G), .int .i64 (W), .int .i64 (H), .slice a n c]] w fun e w' => e = .returned (.tuple #[.agg #[.slice none 0 0, .slice none 0 0], .int .i64 (chE G W H n cs)]) ∧ Below w.heap.size w w' := by
  have hb : (chE G W H n cs != 0) = true := by simpa using he
  have HT := Lib.hid (fun w hI => r2Wrong_any G W H a n c cs w hI h0 h1 h2 h3)
  have HI := Lib.hid hI
  clear he hI
  generalize chE G W H n cs = q at *
  go_enter Try.func33, Try.ntmps33
  (go_wp2_with fail; refine (HT.out _ (HI.out.below (by repeat (first | exact Below.refl _ _ | refine Below.drew ?_ | refine below_drewN ?_ _ | refine Below.alloc ?_ (by first | exact Nat.le_refl _ | (simp; done) | (simp; omega) | omega) _ | refine Below.setCell ?_ (by first | exact Nat.le_refl _ | (simp; done) | (simp; omega) | omega) _ | refine bExtW ?_ (by first | exact Nat.le_refl _ | (simp; done) | (simp; omega) | omega) | refine Below.trans ?_ (Below.mono (by assumption) (by first | exact Nat.le_refl _ | (simp; done) | (simp; omega) | omega)))))).mono ?_; rintro r w1 ⟨rfl, hb⟩; obtain ⟨E, d, rfl⟩ := bExt hb; clear hb)
  go_wp2
  refine bodyPost_ret (v := .tuple #[.agg #[.slice none 0 0, .slice none 0 0], .int .i64 (q)]) (by simp [results, Try.results33, go_sem]) rfl ⟨rfl, (by repeat (first | exact Below.refl _ _ | refine Below.drew ?_ | refine below_drewN ?_ _ | refine Below.alloc ?_ (by first | exact Nat.le_refl _ | (simp; done) | (simp; omega) | omega) _ | refine Below.setCell ?_ (by first | exact Nat.le_refl _ | (simp; done) | (simp; omega) | omega) _ | refine bExtW ?_ (by first | exact Nat.le_refl _ | (simp; done) | (simp; omega) | omega) | refine Below.trans ?_ (Below.mono (by assumption) (by first | exact Nat.le_refl _ | (simp; done) | (simp; omega) | omega))))⟩
set_option maxRecDepth 100000 in
set_option maxHeartbeats 8000000 in
theorem rStr_hex (W H : Int) (a : Option Addr) (n c : Nat) (cs : List Int) (w : World) (hI : IsInts w a n cs) (h1 : (-9223372036854775808 ≤ W ∧ W ≤ 9223372036854775807)) (h2 : (-9223372036854775808 ≤ H ∧ H ≤ 9223372036854775807)) (h3 : n ≤ 9223372036854775807) (he : chE 6 W H n cs = 0) :
    Calls Try.prog 33 #[.agg #[.int .i64 (6), .int .i64 (W), .int .i64 (H), .slice a n c]] w fun e w' => e = .returned (.tuple #[.agg #[.slice none 0 0, .slice none 0 0], .int .i64 (8)]) ∧ Below w.heap.size w w' := by
  have HT := Lib.hid (fun w hI => r2Wrong_any 6 W H a n c cs w hI (by omega) h1 h2 h3)
  rw [he] at HT
  have HI := Lib.hid hI
  clear he hI
  go_enter Try.func33, Try.ntmps33
  (go_wp2_with fail; refine (HT.out _ (HI.out.below (by repeat (first | exact Below.refl _ _ | refine Below.drew ?_ | refine below_drewN ?_ _ | refine Below.alloc ?_ (by first | exact Nat.le_refl _ | (simp; done) | (simp; omega) | omega) _ | refine Below.setCell ?_ (by first | exact Nat.le_refl _ | (simp; done) | (simp; omega) | omega) _ | refine bExtW ?_ (by first | exact Nat.le_refl _ | (simp; done) | (simp; omega) | omega) | refine Below.trans ?_ (Below.mono (by assumption) (by first | exact Nat.le_refl _ | (simp; done) | (simp; omega) | omega)))))).mono ?_; rintro r w1 ⟨rfl, hb⟩; obtain ⟨E, d, rfl⟩ := bExt hb; clear hb)
  go_wp2
  refine bodyPost_ret (v := .tuple #[.agg #[.slice none 0 0, .slice none 0 0], .int .i64 (8)]) (by simp [results, Try.results33, go_sem]) rfl ⟨rfl, (by repeat (first | exact Below.refl _ _ | refine Below.drew ?_ | refine below_drewN ?_ _ | refine Below.alloc ?_ (by first | exact Nat.le_refl _ | (simp; done) | (simp; omega) | omega) _ | refine Below.setCell ?_ (by first | exact Nat.le_refl _ | (simp; done) | (simp; omega) | omega) _ | refine bExtW ?_ (by first | exact Nat.le_refl _ | (simp; done) | (simp; omega) | omega) | refine Below.trans ?_ (Below.mono (by assumption) (by first | exact Nat.le_refl _ | (simp; done) | (simp; omega) | omega))))⟩
theorem rep_map (x : Nat) : (List.replicate x (-1 : Int)).map i64v = List.replicate x (.int .i64 (-1)) := by rw [List.map_replicate]; rfl
theorem rep_len (x : Nat) : (List.replicate x (-1 : Int)).length = x := by simp
theorem row_out {w : World} {b t n i : Nat} {f : Nat → Value} (h : w.rowIs b t n f) (hi : n ≤ i) : w.cell? ⟨b, i, none⟩ = none := by
  obtain ⟨c, h1, h2, _⟩ := h
  simp [World.cell?, h1, h2, hi]
theorem ints_not_row {w : World} {a : Option Addr} {n r : Nat} {l : List Int} {t : Nat} (h : IsInts w a n l) (hn : 1 ≤ n) (hr : w.rowIs r t 2 (sF (.slice none 0 0) (.slice none 0 0))) : ∀ b o, a = some ⟨b, o, none⟩ → b ≠ r := by
  rintro b o rfl rfl
  obtain ⟨b', o', e, _, hc⟩ := h.2 (by omega)
  injection e with e
  injection e with e1 e2
  subst e1 e2
  have h1 := hc 0 (by omega)
  rw [Nat.add_zero] at h1
  by_cases ho : o < 2
  · have h2 := hr.cell (i := o) ho
    rw [h1] at h2
    unfold sF at h2
    split at h2 <;> cases h2
  · rw [row_out hr (by omega)] at h1
    cases h1
theorem g_ge {E P : List Int} {W k : Nat} (hW : E.length = W) (h : W ≤ k) (hk : k < W + P.length) : g (E ++ P) k = P.getD (k - W) 0 := by
  obtain ⟨y, rfl⟩ : ∃ y, k = W + y := ⟨k - W, by omega⟩
  rw [g_right hW (by omega), Nat.add_sub_cancel_left]
theorem good_set {p : List Int} {k : Nat} {v : Int} (h : Ef.Good p) (hk : k < p.length) (h0 : 0 ≤ v) (h1 : v < 62) : Ef.Good (p.set k v) := fun i hi => by
  rw [set_len] at hi
  rw [g_set p k i v hk]
  split
  · omega
  · exact h i hi
set_option maxRecDepth 100000 in
set_option maxHeartbeats 8000000 in
theorem rStr_ok (W H n : Nat) (a : Option Addr) (c : Nat) (cs : List Int) (w : World) (hI : IsInts w a n cs) (hW : W ≤ 64) (hH : H ≤ 64) (hW1 : 1 ≤ W) (hH1 : 1 ≤ H) (hn : n = W * H) (hCR : CR cs) :
    Calls Try.prog 33 #[.agg #[.int .i64 (4), .int .i64 (W), .int .i64 (H), .slice a n c]] w (StrPostE W H (W + H) cs w) := by
  have hn4 : n ≤ 4096 := by rw [hn]; exact Nat.mul_le_mul hW hH
  have he : chE 4 W H n cs = 0 := chE_ok (.inl rfl) hW1 hW hH1 hH hn hCR
  have HT := Lib.hid (fun w hI => r2Wrong_any 4 W H a n c cs w hI (by omega) (by omega) (by omega) (by omega))
  rw [he] at HT
  have HFO := Lib.hid (fun ea ec E pa pc P w h1 h2 h3 hg => Follows_any W H n a c cs ea ec E pa pc P w h1 h2 h3 hW hH hW1 hH1 hn hCR hg)
  have HI := Lib.hid hI; have HN := Lib.hid hn; have HCR := Lib.hid hCR
  clear he hI hn hCR
  go_enter Try.func33, Try.ntmps33
  (go_wp2_with fail; refine (HT.out _ (HI.out.below (by repeat (first | exact Below.refl _ _ | refine Below.drew ?_ | refine below_drewN ?_ _ | refine Below.alloc ?_ (by first | exact Nat.le_refl _ | (simp; done) | (simp; omega) | omega) _ | refine Below.setCell ?_ (by first | exact Nat.le_refl _ | (simp; done) | (simp; omega) | omega) _ | refine bExtW ?_ (by first | exact Nat.le_refl _ | (simp; done) | (simp; omega) | omega) | refine Below.trans ?_ (Below.mono (by assumption) (by first | exact Nat.le_refl _ | (simp; done) | (simp; omega) | omega)))))).mono ?_; rintro r w1 ⟨rfl, hb⟩; obtain ⟨E, d, rfl⟩ := bExt hb; clear hb)
  go_upto_region 8 with fail
  have hq2 := (((chG_alloc w 4 W H (.slice a n c)).alloc (.cells #[.slice none 0 0, .slice none 0 0] 48)))
  have hr2 := sF_alloc (w.alloc (.cells #[.int .i64 (4), .int .i64 (W), .int .i64 (H), .slice a n c] 50)) (.slice none 0 0) (.slice none 0 0)
  rw [World.size_alloc] at hr2
  have hbx := bExtW (Below.refl _ _) (Nat.le_refl _) (E := E) (d := d) (W := (w.alloc (.cells #[.int .i64 (4), .int .i64 (W), .int .i64 (H), .slice a n c] 50)).alloc (.cells #[.slice none 0 0, .slice none 0 0] 48))
  have HQ := Lib.hid (rowBelow hq2 hbx hq2.lt)
  have HR := Lib.hid (rowBelow hr2 hbx hr2.lt)
  have hbw : Below w.heap.size w (extW ((w.alloc (.cells #[.int .i64 (4), .int .i64 (W), .int .i64 (H), .slice a n c] 50)).alloc (.cells #[.slice none 0 0, .slice none 0 0] 48)) E d) := (by repeat (first | exact Below.refl _ _ | refine Below.drew ?_ | refine below_drewN ?_ _ | refine Below.alloc ?_ (by first | exact Nat.le_refl _ | (simp; done) | (simp; omega) | omega) _ | refine Below.setCell ?_ (by first | exact Nat.le_refl _ | (simp; done) | (simp; omega) | omega) _ | refine bExtW ?_ (by first | exact Nat.le_refl _ | (simp; done) | (simp; omega) | omega) | refine Below.trans ?_ (Below.mono (by assumption) (by first | exact Nat.le_refl _ | (simp; done) | (simp; omega) | omega))))
  have HBW := Lib.hid hbw
  have HI2 := Lib.hid (HI.out.below hbw)
  have hqr0 : w.heap.size < w.heap.size + 1 := by omega
  clear hq2 hr2 hbx hbw HI
  generalize extW ((w.alloc (.cells #[.int .i64 (4), .int .i64 (W), .int .i64 (H), .slice a n c] 50)).alloc (.cells #[.slice none 0 0, .slice none 0 0] 48)) E d = W2 at *
  generalize w.heap.size + 1 = r at *
  generalize hqe : w.heap.size = q at *
  have HQE := Lib.hid hqe
  obtain ⟨base, hbase⟩ : ∃ base, W2.heap.size = base := ⟨_, rfl⟩
  have hrb : r < base := by rw [← hbase]; exact HR.out.lt
  have hqb : q < base := by omega
  have HBA := Lib.hid hbase
  clear hqe
  go_loopw [5, 7] (fun ev xv wr => ∃ (x : Nat) (v : Value), x ≤ W ∧ xv = .int .i64 x ∧ ev = v ∧ wr.ownsRow base 3 1 v x (List.replicate x (.int .i64 (-1))) ∧ Below base W2 wr) (fun _ xv _ => W - (intOf xv).toNat)
  case atStart => exact ⟨0, _, by omega, rfl, rfl, World.ownsRow_nil _ _ _ _, Below.refl _ _⟩
  case round =>
    obtain ⟨x, v, hx, rfl, rfl, hown, hbel⟩ := hrel
    have hqr := rowBelow HQ.out hbel hqb
    have c0 : (wr).cell? ⟨q, 0, none⟩ = some (.int .i64 (4)) := hqr.cell (i := 0) (by omega)
    have c1 : (wr).cell? ⟨q, 1, none⟩ = some (.int .i64 (W)) := hqr.cell (i := 1) (by omega)
    have c2 : (wr).cell? ⟨q, 2, none⟩ = some (.int .i64 (H)) := hqr.cell (i := 2) (by omega)
    have c3 : (wr).cell? ⟨q, 3, none⟩ = some (.slice a n c) := hqr.cell (i := 3) (by omega)
    have lq : LtW q wr := hqr.lt
    have HO := Lib.hid hown; have HB := Lib.hid hbel
    have hsw := hbel.size
    clear hqr hown hbel
    by_cases hxW : x < W
    · have hsw : base ≤ wr.heap.size := by omega
      go_wp2_with (at_builtin; go_loud (refine wpAppV okI8 rfl (.tmp 33) (.tmp 34) rfl base _ x _ (some ⟨wr.heap.size, 0, none⟩) 1 1 [.int .i64 (-1)] rfl (ownBelow HO.out (Below.alloc (Below.refl _ _) (Nat.le_refl _) (.cells #[.int .i64 (-1)] 3))) rfl (fun e => by cases e) rfl (fun _ => ⟨wr.heap.size, 0, rfl, fun j u hju => ?_⟩) (fun u hu => by simp at hu; subst hu; rfl) (by omega) (by omega) (by have := World.size_alloc wr (.cells #[.int .i64 (-1)] 3); omega) ?_))
      · have hj0 : j = 0 := by
          have := (List.getElem?_eq_some_iff.1 hju).1
          simpa using this
        subst hj0
        simp at hju
        subst hju
        simp
      intro v' w2 hown2 hg2 hat2
      have hb2 : Below base wr w2 := Below.trans (Below.alloc (Below.refl _ _) hsw (.cells #[.int .i64 (-1)] 3)) (belowGrown hg2 (by have := World.size_alloc wr (.cells #[.int .i64 (-1)] 3); omega) (fun k hk => (HO.out.lt k hk).1))
      have HO2 : Hid (w2.ownsRow base 3 1 v' (x + 1) (List.replicate (x + 1) (.int .i64 (-1)))) := Lib.hid (by rw [List.replicate_succ']; exact hown2)
      have HB2 := Lib.hid (HB.out.trans hb2)
      clear hown2 hg2 hat2 hb2
      go_wp2
      go_roundw
      case rel => exact ⟨x + 1, _, by omega, by go_num, rfl, HO2.out, HB2.out⟩
      case measure => simp [intOf]; omega
    · obtain rfl : W = x := by omega
      obtain ⟨A0, C0, rfl, hIE, zE0, _⟩ := ints_owns (L := List.replicate W (-1)) (by rw [rep_len, rep_map]; exact HO.out)
      rw [rep_len] at hIE ⊢
      have HIE1 := Lib.hid hIE
      clear hIE HO
      go_upto_region 12 with fail
      clear c0 c1 c2 c3 lq
      obtain ⟨w1, hw1⟩ : ∃ w1 : World, w1 = wr := ⟨_, rfl⟩
      subst hw1
      obtain ⟨base1, hbase1⟩ : ∃ base1, w1.heap.size = base1 := ⟨_, rfl⟩
      have HBA1 := Lib.hid hbase1
      have HBL1 := HB
      have hsb : base ≤ base1 := by omega
      clear HB
      go_loopw [6, 8] (fun ev xv wr => ∃ (y : Nat) (v : Value), y ≤ H ∧ xv = .int .i64 y ∧ ev = v ∧ wr.ownsRow base1 3 1 v y (List.replicate y (.int .i64 (-1))) ∧ Below base1 w1 wr) (fun _ xv _ => H - (intOf xv).toNat)
      case atStart => exact ⟨0, _, by omega, rfl, rfl, World.ownsRow_nil _ _ _ _, Below.refl _ _⟩
      case round =>
        obtain ⟨y, v, hy, rfl, rfl, hown, hbel⟩ := hrel
        have hqr := rowBelow HQ.out (HBL1.out.trans (hbel.mono (by omega))) hqb
        have c0 : (wr).cell? ⟨q, 0, none⟩ = some (.int .i64 (4)) := hqr.cell (i := 0) (by omega)
        have c1 : (wr).cell? ⟨q, 1, none⟩ = some (.int .i64 (W)) := hqr.cell (i := 1) (by omega)
        have c2 : (wr).cell? ⟨q, 2, none⟩ = some (.int .i64 (H)) := hqr.cell (i := 2) (by omega)
        have c3 : (wr).cell? ⟨q, 3, none⟩ = some (.slice a n c) := hqr.cell (i := 3) (by omega)
        have lq : LtW q wr := hqr.lt
        have HO := Lib.hid hown; have HB := Lib.hid hbel
        have hsw := hbel.size
        clear hqr hown hbel
        by_cases hyH : y < H
        · have hsw : base1 ≤ wr.heap.size := by omega
          go_wp2_with (at_builtin; go_loud (refine wpAppV okI8 rfl (.tmp 42) (.tmp 43) rfl base1 _ y _ (some ⟨wr.heap.size, 0, none⟩) 1 1 [.int .i64 (-1)] rfl (ownBelow HO.out (Below.alloc (Below.refl _ _) (Nat.le_refl _) (.cells #[.int .i64 (-1)] 3))) rfl (fun e => by cases e) rfl (fun _ => ⟨wr.heap.size, 0, rfl, fun j u hju => ?_⟩) (fun u hu => by simp at hu; subst hu; rfl) (by omega) (by omega) (by have := World.size_alloc wr (.cells #[.int .i64 (-1)] 3); omega) ?_))
          · have hj0 : j = 0 := by
              have := (List.getElem?_eq_some_iff.1 hju).1
              simpa using this
            subst hj0
            simp at hju
            subst hju
            simp
          intro v' w2 hown2 hg2 hat2
          have hb2 : Below base1 wr w2 := Below.trans (Below.alloc (Below.refl _ _) hsw (.cells #[.int .i64 (-1)] 3)) (belowGrown hg2 (by have := World.size_alloc wr (.cells #[.int .i64 (-1)] 3); omega) (fun k hk => (HO.out.lt k hk).1))
          have HO2 : Hid (w2.ownsRow base1 3 1 v' (y + 1) (List.replicate (y + 1) (.int .i64 (-1)))) := Lib.hid (by rw [List.replicate_succ']; exact hown2)
          have HB2 := Lib.hid (HB.out.trans hb2)
          clear hown2 hg2 hat2 hb2
          go_wp2
          go_roundw
          case rel => exact ⟨y + 1, _, by omega, by go_num, rfl, HO2.out, HB2.out⟩
          case measure => simp [intOf]; omega
        · obtain rfl : H = y := by omega
          obtain ⟨B0, D0, rfl, hIP, zP0, _⟩ := ints_owns (L := List.replicate H (-1)) (by rw [rep_len, rep_map]; exact HO.out)
          rw [rep_len] at hIP ⊢
          have HIP1 := Lib.hid hIP
          have HIE2 := Lib.hid (HIE1.out.below (by rw [hbase1]; exact HB.out))
          have HB2 := Lib.hid (HBL1.out.trans (HB.out.mono (by omega)))
          clear hIP HO HB HIE1 HBL1
          go_upto_region 16 with fail
          clear c0 c1 c2 c3 lq
          have hz : Str W cs (W + H) 0 (List.replicate W (-1) ++ List.replicate H (-1)) := by
            rw [List.replicate_append_replicate]; exact .zero
          have HZ := Lib.hid hz
          clear hz
          go_loopw [5, 6, 9] (fun ev pv kv wr => ∃ (k : Nat) (E P : List Int) (A : Option Addr) (C : Nat) (B : Option Addr) (D : Nat), k ≤ W + H ∧ kv = .int .i64 k ∧ ev = .slice A W C ∧ pv = .slice B H D ∧ IsInts wr A W E ∧ IsInts wr B H P ∧ Below base W2 wr ∧ Hid (Str W cs (W + H) k (E ++ P))) (fun _ _ kv _ => 200 - (intOf kv).toNat)
          case atStart => exact ⟨0, _, _, A0, C0, B0, D0, by omega, rfl, rfl, rfl, HIE2.out, HIP1.out, HB2.out, HZ⟩
          case round =>
            obtain ⟨k, E, P, A, C, B, D, hk, rfl, rfl, rfl, hie, hip, hbel, HS⟩ := hrel
            have hqr := rowBelow HQ.out hbel hqb
            have hrr := rowBelow HR.out hbel hrb
            have c0 : (wr).cell? ⟨q, 0, none⟩ = some (.int .i64 (4)) := hqr.cell (i := 0) (by omega)
            have c1 : (wr).cell? ⟨q, 1, none⟩ = some (.int .i64 (W)) := hqr.cell (i := 1) (by omega)
            have c2 : (wr).cell? ⟨q, 2, none⟩ = some (.int .i64 (H)) := hqr.cell (i := 2) (by omega)
            have c3 : (wr).cell? ⟨q, 3, none⟩ = some (.slice a n c) := hqr.cell (i := 3) (by omega)
            have lq : LtW q wr := hqr.lt
            have lr : LtW r wr := hrr.lt
            have r0 : wr.cell? ⟨r, 0, none⟩ = some (.slice none 0 0) := hrr.cell (i := 0) (by omega)
            have r1 : wr.cell? ⟨r, 1, none⟩ = some (.slice none 0 0) := hrr.cell (i := 1) (by omega)
            have fr0 := hrr.frozen 0; have fr1 := hrr.frozen 1
            have HIE0 := Lib.hid hie; have HIP0 := Lib.hid hip; have HB := Lib.hid hbel
            have hEl : E.length = W := hie.1
            have hPl : P.length = H := hip.1
            have HRR := Lib.hid hrr
            clear hqr hrr hbel
            by_cases hkN : k < W + H
            · by_cases hkW : k < W
              · obtain ⟨be, oe, rfl, hlbe, hce⟩ := hie.2 (by omega)
                have e1 := hce k hkW
                have lbe : LtW be wr := hlbe
                have hgk := g_left (E := E) (P := P) (x := k) (by omega)
                obtain ⟨ek, hek⟩ : ∃ ek, E.getD k 0 = ek := ⟨_, rfl⟩
                rw [hek] at e1 hgk
                clear hie hip hce hlbe hek
                by_cases h0 : 0 ≤ ek
                · have t1 : decide (0 ≤ ek) = true := by simpa using h0
                  have HSX := Lib.hid (Str.keep HS.out hkN (by rw [hgk]; exact h0))
                  clear hgk h0
                  go_wp2
                  go_roundw
                  case rel => exact ⟨k + 1, E, P, _, C, B, D, by omega, by go_num, rfl, rfl, HIE0.out, HIP0.out, HB.out, HSX⟩
                  case measure => simp [intOf]; omega
                · have t1 : decide (0 ≤ ek) = false := by simpa using h0
                  have HNEG : Hid (g (E ++ P) k < 0) := Lib.hid (by rw [hgk]; omega)
                  clear hgk h0
                  go_upto_region 21 with fail
                  obtain ⟨wo, hwo⟩ : ∃ wo : World, wo = wr := ⟨_, rfl⟩
                  subst hwo
                  clear c0 c1 c2 c3 lq e1 lbe t1
                  go_loopw [5, 6, 10, 11] (fun ev pv fv nv wr => ∃ (fnd : Bool) (nn : Nat) (E' P' : List Int) (A' : Option Addr) (C' : Nat) (B' : Option Addr) (D' : Nat), fv = .bool fnd ∧ nv = .int .i64 nn ∧ ev = .slice A' W C' ∧ pv = .slice B' H D' ∧ IsInts wr A' W E' ∧ IsInts wr B' H P' ∧ Below base W2 wr ∧ nn ≤ 62 ∧ Hid ((fnd = true → Str W cs (W + H) (k + 1) (E' ++ P')) ∧ (fnd = false → E' = E ∧ P' = P ∧ ∀ j : Nat, j < nn → Never W cs ((E ++ P).set k j)))) (fun _ _ _ nv _ => 63 - (intOf nv).toNat)
                  case atStart => exact ⟨false, 0, E, P, _, C, _, D, rfl, rfl, rfl, rfl, HIE0.out, HIP0.out, HB.out, by omega, Lib.hid ⟨fun h => (by cases h), fun _ => ⟨rfl, rfl, fun j h => absurd h (by omega)⟩⟩⟩
                  case round =>
                    obtain ⟨fnd, nn, E', P', A', C', B', D', rfl, rfl, rfl, rfl, hie, hip, hbel, hnn, HK⟩ := hrel
                    have hqr := rowBelow HQ.out hbel hqb
                    have hrr := rowBelow HR.out hbel hrb
                    have c0 : (wr).cell? ⟨q, 0, none⟩ = some (.int .i64 (4)) := hqr.cell (i := 0) (by omega)
                    have c1 : (wr).cell? ⟨q, 1, none⟩ = some (.int .i64 (W)) := hqr.cell (i := 1) (by omega)
                    have c2 : (wr).cell? ⟨q, 2, none⟩ = some (.int .i64 (H)) := hqr.cell (i := 2) (by omega)
                    have c3 : (wr).cell? ⟨q, 3, none⟩ = some (.slice a n c) := hqr.cell (i := 3) (by omega)
                    have lq : LtW q wr := hqr.lt
                    have lr : LtW r wr := hrr.lt
                    have r0 : wr.cell? ⟨r, 0, none⟩ = some (.slice none 0 0) := hrr.cell (i := 0) (by omega)
                    have r1 : wr.cell? ⟨r, 1, none⟩ = some (.slice none 0 0) := hrr.cell (i := 1) (by omega)
                    have fr0 := hrr.frozen 0; have fr1 := hrr.frozen 1
                    have HB4 := Lib.hid hbel
                    have hsw := hbel.size
                    have HIE := Lib.hid hie; have HIP := Lib.hid hip
                    clear hqr hrr hbel hie hip
                    cases fnd with
                    | true =>
                      have HS2 := Lib.hid (HK.out.1 rfl)
                      clear HK
                      by_cases hn62 : nn < 62
                      · go_wp2
                        go_roundw
                        case rel => exact ⟨k + 1, E', P', A', C', B', D', by omega, by go_num, rfl, rfl, HIE.out, HIP.out, HB4.out, HS2⟩
                        case measure => simp [intOf]; omega
                      · go_wp2
                        go_roundw
                        case rel => exact ⟨k + 1, E', P', A', C', B', D', by omega, by go_num, rfl, rfl, HIE.out, HIP.out, HB4.out, HS2⟩
                        case measure => simp [intOf]; omega
                    | false =>
                      obtain ⟨hE', hP', hnv⟩ := HK.out.2 rfl
                      subst hE' hP'
                      have HNV := Lib.hid hnv
                      clear HK hnv
                      by_cases hn62 : nn < 62
                      · obtain ⟨be', oe', ee', _, _⟩ := HIE.out.2 (by omega)
                        obtain ⟨bp', op', ep', _, _⟩ := HIP.out.2 (by omega)
                        have zE : A' = none → C' = 0 := fun e => by rw [ee'] at e; cases e
                        have zP : B' = none → D' = 0 := fun e => by rw [ep'] at e; cases e
                        clear ee' ep' r0 r1 fr0 fr1 lr c0 c1 c2 c3 lq
                        go_upto_region 23 with fail
                        have hown1 := owns_empty wr wr.heap.size (Nat.le_refl _)
                        have hb2 : Below wr.heap.size wr (wr.alloc (.cells #[] 3)) := (by repeat (first | exact Below.refl _ _ | refine Below.drew ?_ | refine below_drewN ?_ _ | refine Below.alloc ?_ (by first | exact Nat.le_refl _ | (simp; done) | (simp; omega) | omega) _ | refine Below.setCell ?_ (by first | exact Nat.le_refl _ | (simp; done) | (simp; omega) | omega) _ | refine bExtW ?_ (by first | exact Nat.le_refl _ | (simp; done) | (simp; omega) | omega) | refine Below.trans ?_ (Below.mono (by assumption) (by first | exact Nat.le_refl _ | (simp; done) | (simp; omega) | omega))))
                        obtain ⟨bs, hbs⟩ : ∃ bs, wr.heap.size = bs := ⟨_, rfl⟩
                        have HBS := Lib.hid hbs
                        rw [hbs] at hown1
                        go_wp2_with (at_builtin; go_loud (refine wpAppV okI8 rfl (.tmp 89) (.tmp 90) rfl bs _ 0 [] A' W C' (E'.map i64v) rfl hown1 rfl zE (by rw [List.length_map, HIE.out.1]) (ints_cells (HIE.out.below hb2)) (ints_one E') (by omega) (by omega) (by rw [← hbs]; exact hb2.size) ?_))
                        intro v1 w2 hown2 hg2 hat2
                        have hown2 : w2.ownsRow bs 3 1 v1 W (E'.map i64v) := by simpa using hown2
                        obtain ⟨ga, ca, rfl⟩ := own_some hown2 (by omega)
                        have hs2 : bs + 1 ≤ w2.heap.size := by
                          have h1 := hg2.size
                          have h2 := World.size_alloc wr (.cells #[] 3)
                          omega
                        have hbel2 : Below bs wr w2 := Below.trans (hb2.mono (by omega)) (belowGrown hg2 (by have := World.size_alloc wr (.cells #[] 3); omega) (fun k hk => by have e2 : some bs = some k := hk; injection e2 with e2; omega))
                        have hgl := own_lt hown2
                        clear hg2 hat2 hown1 hb2
                        have hown3 := owns_empty w2 bs (by omega)
                        have hb3 : Below w2.heap.size w2 (w2.alloc (.cells #[] 3)) := (by repeat (first | exact Below.refl _ _ | refine Below.drew ?_ | refine below_drewN ?_ _ | refine Below.alloc ?_ (by first | exact Nat.le_refl _ | (simp; done) | (simp; omega) | omega) _ | refine Below.setCell ?_ (by first | exact Nat.le_refl _ | (simp; done) | (simp; omega) | omega) _ | refine bExtW ?_ (by first | exact Nat.le_refl _ | (simp; done) | (simp; omega) | omega) | refine Below.trans ?_ (Below.mono (by assumption) (by first | exact Nat.le_refl _ | (simp; done) | (simp; omega) | omega))))
                        have hownE := ownBelow hown2 hb3
                        have hPx := HIP.out.below (by rw [hbs]; exact hbel2.trans (hb3.mono (by omega)))
                        clear hown2
                        go_wp2_with (at_builtin; go_loud (refine wpAppV okI8 rfl (.tmp 92) (.tmp 93) rfl bs _ 0 [] B' H D' (P'.map i64v) rfl hown3 rfl zP (by rw [List.length_map, HIP.out.1]) (ints_cells hPx) (ints_one P') (by omega) (by omega) (by have := hb3.size; omega) ?_))
                        intro v2 w4 hown4 hg4 hat4
                        have hown4 : w4.ownsRow bs 3 1 v2 H (P'.map i64v) := by simpa using hown4
                        obtain ⟨gb, cb, rfl⟩ := own_some hown4 (by omega)
                        have hne : ga ≠ gb := by
                          have h2 := World.size_alloc w2 (.cells #[] 3)
                          rcases hat4 with h | h
                          · have h3 : some gb = some w2.heap.size := h
                            injection h3 with h3
                            omega
                          · have h3 : some gb = some (w2.heap.size + 1) := h
                            injection h3 with h3
                            omega
                        have hFW : FW bs ga gb ca cb W H wr E' P' w4 := by
                          refine ⟨own_keep hownE (hg4.block ga (by have := hb3.size; omega) (fun e => by have e2 : some ga = some w2.heap.size := e; injection e2 with e2; omega)), hown4, ?_⟩
                          exact hbel2.trans ((hb3.mono (by omega)).trans (belowGrown hg4 (by have := hb3.size; omega) (fun k hk => by have e2 : some w2.heap.size = some k := hk; injection e2 with e2; omega)))
                        have HFW := Lib.hid hFW
                        have HNE := Lib.hid hne
                        clear hown3 hb3 hownE hPx hown4 hg4 hat4 hFW hbel2 hgl hs2 hne
                        have hs4 : bs ≤ w4.heap.size := by rw [← hbs]; exact HFW.out.bel.size
                        have hbw : Below base wr w4 := HFW.out.bel.mono (by omega)
                        have hqr := rowBelow HQ.out (HB4.out.trans hbw) hqb
                        have c0 : (w4).cell? ⟨q, 0, none⟩ = some (.int .i64 (4)) := hqr.cell (i := 0) (by omega)
                        have c1 : (w4).cell? ⟨q, 1, none⟩ = some (.int .i64 (W)) := hqr.cell (i := 1) (by omega)
                        have c2 : (w4).cell? ⟨q, 2, none⟩ = some (.int .i64 (H)) := hqr.cell (i := 2) (by omega)
                        have c3 : (w4).cell? ⟨q, 3, none⟩ = some (.slice a n c) := hqr.cell (i := 3) (by omega)
                        have lq : LtW q w4 := hqr.lt
                        have hga := own_lt HFW.out.e; have hgb := own_lt HFW.out.p
                        have lga : LtW ga w4 := hga
                        have lgb : LtW gb w4 := hgb
                        have hgab := (own_parts HFW.out.e).2.1; have hgbb := (own_parts HFW.out.p).2.1
                        clear hqr hbw hga hgb
                        have HFX : Hid (FW bs ga gb ca cb W H wr (E'.set k (nn : Int)) P' (w4.setCell ⟨ga, k, none⟩ (.int .i64 (nn : Int)))) := Lib.hid (HFW.out.setE HNE.out hkW)
                        have f1 := (own_cell HFW.out.e hkW).2
                        have f2 := own_int HFW.out.e HFW.out.len.1 hkW
                        have hqr5 := rowBelow HQ.out (HB4.out.trans (HFX.out.bel.mono (by omega))) hqb
                        have d0 : (w4.setCell ⟨ga, k, none⟩ (.int .i64 (nn : Int))).cell? ⟨q, 0, none⟩ = some (.int .i64 (4)) := hqr5.cell (i := 0) (by omega)
                        have d1 : (w4.setCell ⟨ga, k, none⟩ (.int .i64 (nn : Int))).cell? ⟨q, 1, none⟩ = some (.int .i64 (W)) := hqr5.cell (i := 1) (by omega)
                        have d2 : (w4.setCell ⟨ga, k, none⟩ (.int .i64 (nn : Int))).cell? ⟨q, 2, none⟩ = some (.int .i64 (H)) := hqr5.cell (i := 2) (by omega)
                        have d3 : (w4.setCell ⟨ga, k, none⟩ (.int .i64 (nn : Int))).cell? ⟨q, 3, none⟩ = some (.slice a n c) := hqr5.cell (i := 3) (by omega)
                        clear hqr5
                        have HEP : Hid (E'.set k (nn : Int) ++ P' = (E' ++ P').set k (nn : Int)) := Lib.hid (set_left (by omega)).symm
                        have HGS : Hid (Ef.Good (E'.set k (nn : Int) ++ P')) := Lib.hid (by rw [HEP.out]; exact good_set HS.out.inv.2.1 (by rw [List.length_append]; omega) (by omega) (by omega))
                        go_upto_region 27 with fail
                        obtain ⟨EX, hEX⟩ : ∃ EX, E'.set k (nn : Int) = EX := ⟨_, rfl⟩
                        obtain ⟨PX, hPX⟩ : ∃ PX, P' = PX := ⟨_, rfl⟩
                        rw [hEX] at HFX HEP HGS
                        have HFX : Hid (FW bs ga gb ca cb W H wr EX PX (w4.setCell ⟨ga, k, none⟩ (.int .i64 (nn : Int)))) := by rw [← hPX]; exact HFX
                        have HEP : Hid (EX ++ PX = (E' ++ P').set k (nn : Int)) := by rw [← hPX]; exact HEP
                        have HGS : Hid (Ef.Good (EX ++ PX)) := by rw [← hPX]; exact HGS
                        clear hEX hPX f1 f2 c0 c1 c2 c3 lq lga lgb HFW d0 d1 d2 d3
                        generalize w4.setCell ⟨ga, k, none⟩ (.int .i64 (nn : Int)) = w5 at *
                        have hqr := rowBelow HQ.out (HB4.out.trans (HFX.out.bel.mono (by omega))) hqb
                        have c0 : (w5).cell? ⟨q, 0, none⟩ = some (.int .i64 (4)) := hqr.cell (i := 0) (by omega)
                        have c1 : (w5).cell? ⟨q, 1, none⟩ = some (.int .i64 (W)) := hqr.cell (i := 1) (by omega)
                        have c2 : (w5).cell? ⟨q, 2, none⟩ = some (.int .i64 (H)) := hqr.cell (i := 2) (by omega)
                        have c3 : (w5).cell? ⟨q, 3, none⟩ = some (.slice a n c) := hqr.cell (i := 3) (by omega)
                        have lq : LtW q w5 := hqr.lt
                        have HBW5 : Hid (Below wr.heap.size wr w5) := Lib.hid (by rw [hbs]; exact HFX.out.bel)
                        have hI5 := HI2.out.below (by rw [hbase]; exact HB4.out.trans (HBW5.out.mono (by omega)))
                        have hE5 := ints_of_own HFX.out.e
                        have hP5 := ints_of_own HFX.out.p
                        clear hqr
                        go_wp2_with fail
                        refine (HFO.out _ ca EX _ cb PX w5 hI5 hE5 hP5 HGS.out).mono ?_
                        rintro rr w6 ⟨hres, hb6⟩
                        have HB6 : Hid (Below wr.heap.size wr w6) := Lib.hid (HBW5.out.trans (hb6.mono HBW5.out.size))
                        have HIE6 := Lib.hid (HIE.out.below HB6.out)
                        have HIP6 := Lib.hid (HIP.out.below HB6.out)
                        have HBB6 := Lib.hid (HB4.out.trans (HB6.out.mono (by omega)))
                        clear hI5 hE5 hP5 hb6 c0 c1 c2 c3 lq HFX HBW5
                        rcases hres with ⟨hnever, rfl⟩ | ⟨E2, P2, A2, C2, B2, D2, hleast, hl1, hl2, rfl, hi1, hi2⟩
                        · rw [HEP.out] at hnever
                          have HNV2 : Hid (∀ j : Nat, j < nn + 1 → Never W cs ((E' ++ P').set k j)) := Lib.hid fun j h => by
                            by_cases e : j = nn
                            · subst e; exact hnever
                            · exact HNV.out j (by omega)
                          clear hnever
                          go_wp2
                          go_roundw
                          case rel => exact ⟨false, nn + 1, E', P', A', C', B', D', rfl, by go_num, rfl, rfl, HIE6.out, HIP6.out, HBB6.out, by omega, Lib.hid ⟨fun h => (by cases h), fun _ => ⟨rfl, rfl, HNV2.out⟩⟩⟩
                          case measure => simp [intOf]; omega
                        · rw [HEP.out] at hleast
                          have HST2 := Lib.hid (Str.tie HS.out hkN HNEG.out hn62 HNV.out hleast)
                          have HI1 := Lib.hid hi1; have HI2' := Lib.hid hi2
                          clear hleast hl1 hl2 hi1 hi2
                          go_wp2
                          go_roundw
                          case rel => exact ⟨true, nn + 1, E2, P2, A2, C2, B2, D2, rfl, by go_num, rfl, rfl, HI1.out, HI2'.out, HBB6.out, by omega, Lib.hid ⟨fun _ => HST2.out, fun h => (by cases h)⟩⟩
                          case measure => simp [intOf]; omega
                      · have hn2 : nn = 62 := by omega
                        have HSTK : Hid (Stuck W cs (W + H)) := Lib.hid ⟨k, E' ++ P', HS.out, hkN, HNEG.out, fun j h => HNV.out j (by omega)⟩
                        clear HNV
                        subst hn2
                        go_wp2
                        refine bodyPost_ret (v := .tuple #[.agg #[.slice none 0 0, .slice none 0 0], .int .i64 (6)]) (by simp [results, Try.results33, go_sem, r0, r1]) rfl ?_
                        refine ⟨.inl ⟨HSTK.out, rfl⟩, ?_⟩
                        rw [HQE.out]
                        exact ((HBW.out.trans (HB4.out.mono (by omega))).setCell (by simp; omega) _).setCell (by simp; omega) _
              · obtain ⟨kp, hkp⟩ : ∃ kp, k - W = kp := ⟨_, rfl⟩
                have hkpH : kp < H := by omega
                obtain ⟨bp, op, rfl, hlbe, hce⟩ := hip.2 (by omega)
                have e1 := hce kp hkpH
                have lbe : LtW bp wr := hlbe
                have hgk := g_ge (E := E) (P := P) (W := W) (k := k) hEl (by omega) (by omega)
                rw [hkp] at hgk
                have s1 : (k : Int) - (W : Int) = (kp : Int) := by omega
                obtain ⟨ek, hek⟩ : ∃ ek, P.getD kp 0 = ek := ⟨_, rfl⟩
                rw [hek] at e1 hgk
                have HKP : Hid (k = W + kp) := Lib.hid (by omega)
                clear hie hip hce hlbe hek hkp
                by_cases h0 : 0 ≤ ek
                · have t1 : decide (0 ≤ ek) = true := by simpa using h0
                  have HSX := Lib.hid (Str.keep HS.out hkN (by rw [hgk]; exact h0))
                  clear hgk h0
                  go_wp2
                  go_roundw
                  case rel => exact ⟨k + 1, E, P, A, C, _, D, by omega, by go_num, rfl, rfl, HIE0.out, HIP0.out, HB.out, HSX⟩
                  case measure => simp [intOf]; omega
                · have t1 : decide (0 ≤ ek) = false := by simpa using h0
                  have HNEG : Hid (g (E ++ P) k < 0) := Lib.hid (by rw [hgk]; omega)
                  clear hgk h0
                  go_upto_region 21 with fail
                  obtain ⟨wo, hwo⟩ : ∃ wo : World, wo = wr := ⟨_, rfl⟩
                  subst hwo
                  clear c0 c1 c2 c3 lq e1 lbe t1
                  go_loopw [5, 6, 10, 11] (fun ev pv fv nv wr => ∃ (fnd : Bool) (nn : Nat) (E' P' : List Int) (A' : Option Addr) (C' : Nat) (B' : Option Addr) (D' : Nat), fv = .bool fnd ∧ nv = .int .i64 nn ∧ ev = .slice A' W C' ∧ pv = .slice B' H D' ∧ IsInts wr A' W E' ∧ IsInts wr B' H P' ∧ Below base W2 wr ∧ nn ≤ 62 ∧ Hid ((fnd = true → Str W cs (W + H) (k + 1) (E' ++ P')) ∧ (fnd = false → E' = E ∧ P' = P ∧ ∀ j : Nat, j < nn → Never W cs ((E ++ P).set k j)))) (fun _ _ _ nv _ => 63 - (intOf nv).toNat)
                  case atStart => exact ⟨false, 0, E, P, _, C, _, D, rfl, rfl, rfl, rfl, HIE0.out, HIP0.out, HB.out, by omega, Lib.hid ⟨fun h => (by cases h), fun _ => ⟨rfl, rfl, fun j h => absurd h (by omega)⟩⟩⟩
                  case round =>
                    obtain ⟨fnd, nn, E', P', A', C', B', D', rfl, rfl, rfl, rfl, hie, hip, hbel, hnn, HK⟩ := hrel
                    have hqr := rowBelow HQ.out hbel hqb
                    have hrr := rowBelow HR.out hbel hrb
                    have c0 : (wr).cell? ⟨q, 0, none⟩ = some (.int .i64 (4)) := hqr.cell (i := 0) (by omega)
                    have c1 : (wr).cell? ⟨q, 1, none⟩ = some (.int .i64 (W)) := hqr.cell (i := 1) (by omega)
                    have c2 : (wr).cell? ⟨q, 2, none⟩ = some (.int .i64 (H)) := hqr.cell (i := 2) (by omega)
                    have c3 : (wr).cell? ⟨q, 3, none⟩ = some (.slice a n c) := hqr.cell (i := 3) (by omega)
                    have lq : LtW q wr := hqr.lt
                    have lr : LtW r wr := hrr.lt
                    have r0 : wr.cell? ⟨r, 0, none⟩ = some (.slice none 0 0) := hrr.cell (i := 0) (by omega)
                    have r1 : wr.cell? ⟨r, 1, none⟩ = some (.slice none 0 0) := hrr.cell (i := 1) (by omega)
                    have fr0 := hrr.frozen 0; have fr1 := hrr.frozen 1
                    have HB4 := Lib.hid hbel
                    have hsw := hbel.size
                    have HIE := Lib.hid hie; have HIP := Lib.hid hip
                    clear hqr hrr hbel hie hip
                    cases fnd with
                    | true =>
                      have HS2 := Lib.hid (HK.out.1 rfl)
                      clear HK
                      by_cases hn62 : nn < 62
                      · go_wp2
                        go_roundw
                        case rel => exact ⟨k + 1, E', P', A', C', B', D', by omega, by go_num, rfl, rfl, HIE.out, HIP.out, HB4.out, HS2⟩
                        case measure => simp [intOf]; omega
                      · go_wp2
                        go_roundw
                        case rel => exact ⟨k + 1, E', P', A', C', B', D', by omega, by go_num, rfl, rfl, HIE.out, HIP.out, HB4.out, HS2⟩
                        case measure => simp [intOf]; omega
                    | false =>
                      obtain ⟨hE', hP', hnv⟩ := HK.out.2 rfl
                      subst hE' hP'
                      have HNV := Lib.hid hnv
                      clear HK hnv
                      by_cases hn62 : nn < 62
                      · obtain ⟨be', oe', ee', _, _⟩ := HIE.out.2 (by omega)
                        obtain ⟨bp', op', ep', _, _⟩ := HIP.out.2 (by omega)
                        have zE : A' = none → C' = 0 := fun e => by rw [ee'] at e; cases e
                        have zP : B' = none → D' = 0 := fun e => by rw [ep'] at e; cases e
                        clear ee' ep' r0 r1 fr0 fr1 lr c0 c1 c2 c3 lq
                        go_upto_region 23 with fail
                        have hown1 := owns_empty wr wr.heap.size (Nat.le_refl _)
                        have hb2 : Below wr.heap.size wr (wr.alloc (.cells #[] 3)) := (by repeat (first | exact Below.refl _ _ | refine Below.drew ?_ | refine below_drewN ?_ _ | refine Below.alloc ?_ (by first | exact Nat.le_refl _ | (simp; done) | (simp; omega) | omega) _ | refine Below.setCell ?_ (by first | exact Nat.le_refl _ | (simp; done) | (simp; omega) | omega) _ | refine bExtW ?_ (by first | exact Nat.le_refl _ | (simp; done) | (simp; omega) | omega) | refine Below.trans ?_ (Below.mono (by assumption) (by first | exact Nat.le_refl _ | (simp; done) | (simp; omega) | omega))))
                        obtain ⟨bs, hbs⟩ : ∃ bs, wr.heap.size = bs := ⟨_, rfl⟩
                        have HBS := Lib.hid hbs
                        rw [hbs] at hown1
                        go_wp2_with (at_builtin; go_loud (refine wpAppV okI8 rfl (.tmp 89) (.tmp 90) rfl bs _ 0 [] A' W C' (E'.map i64v) rfl hown1 rfl zE (by rw [List.length_map, HIE.out.1]) (ints_cells (HIE.out.below hb2)) (ints_one E') (by omega) (by omega) (by rw [← hbs]; exact hb2.size) ?_))
                        intro v1 w2 hown2 hg2 hat2
                        have hown2 : w2.ownsRow bs 3 1 v1 W (E'.map i64v) := by simpa using hown2
                        obtain ⟨ga, ca, rfl⟩ := own_some hown2 (by omega)
                        have hs2 : bs + 1 ≤ w2.heap.size := by
                          have h1 := hg2.size
                          have h2 := World.size_alloc wr (.cells #[] 3)
                          omega
                        have hbel2 : Below bs wr w2 := Below.trans (hb2.mono (by omega)) (belowGrown hg2 (by have := World.size_alloc wr (.cells #[] 3); omega) (fun k hk => by have e2 : some bs = some k := hk; injection e2 with e2; omega))
                        have hgl := own_lt hown2
                        clear hg2 hat2 hown1 hb2
                        have hown3 := owns_empty w2 bs (by omega)
                        have hb3 : Below w2.heap.size w2 (w2.alloc (.cells #[] 3)) := (by repeat (first | exact Below.refl _ _ | refine Below.drew ?_ | refine below_drewN ?_ _ | refine Below.alloc ?_ (by first | exact Nat.le_refl _ | (simp; done) | (simp; omega) | omega) _ | refine Below.setCell ?_ (by first | exact Nat.le_refl _ | (simp; done) | (simp; omega) | omega) _ | refine bExtW ?_ (by first | exact Nat.le_refl _ | (simp; done) | (simp; omega) | omega) | refine Below.trans ?_ (Below.mono (by assumption) (by first | exact Nat.le_refl _ | (simp; done) | (simp; omega) | omega))))
                        have hownE := ownBelow hown2 hb3
                        have hPx := HIP.out.below (by rw [hbs]; exact hbel2.trans (hb3.mono (by omega)))
                        clear hown2
                        go_wp2_with (at_builtin; go_loud (refine wpAppV okI8 rfl (.tmp 92) (.tmp 93) rfl bs _ 0 [] B' H D' (P'.map i64v) rfl hown3 rfl zP (by rw [List.length_map, HIP.out.1]) (ints_cells hPx) (ints_one P') (by omega) (by omega) (by have := hb3.size; omega) ?_))
                        intro v2 w4 hown4 hg4 hat4
                        have hown4 : w4.ownsRow bs 3 1 v2 H (P'.map i64v) := by simpa using hown4
                        obtain ⟨gb, cb, rfl⟩ := own_some hown4 (by omega)
                        have hne : ga ≠ gb := by
                          have h2 := World.size_alloc w2 (.cells #[] 3)
                          rcases hat4 with h | h
                          · have h3 : some gb = some w2.heap.size := h
                            injection h3 with h3
                            omega
                          · have h3 : some gb = some (w2.heap.size + 1) := h
                            injection h3 with h3
                            omega
                        have hFW : FW bs ga gb ca cb W H wr E' P' w4 := by
                          refine ⟨own_keep hownE (hg4.block ga (by have := hb3.size; omega) (fun e => by have e2 : some ga = some w2.heap.size := e; injection e2 with e2; omega)), hown4, ?_⟩
                          exact hbel2.trans ((hb3.mono (by omega)).trans (belowGrown hg4 (by have := hb3.size; omega) (fun k hk => by have e2 : some w2.heap.size = some k := hk; injection e2 with e2; omega)))
                        have HFW := Lib.hid hFW
                        have HNE := Lib.hid hne
                        clear hown3 hb3 hownE hPx hown4 hg4 hat4 hFW hbel2 hgl hs2 hne
                        have hs4 : bs ≤ w4.heap.size := by rw [← hbs]; exact HFW.out.bel.size
                        have hbw : Below base wr w4 := HFW.out.bel.mono (by omega)
                        have hqr := rowBelow HQ.out (HB4.out.trans hbw) hqb
                        have c0 : (w4).cell? ⟨q, 0, none⟩ = some (.int .i64 (4)) := hqr.cell (i := 0) (by omega)
                        have c1 : (w4).cell? ⟨q, 1, none⟩ = some (.int .i64 (W)) := hqr.cell (i := 1) (by omega)
                        have c2 : (w4).cell? ⟨q, 2, none⟩ = some (.int .i64 (H)) := hqr.cell (i := 2) (by omega)
                        have c3 : (w4).cell? ⟨q, 3, none⟩ = some (.slice a n c) := hqr.cell (i := 3) (by omega)
                        have lq : LtW q w4 := hqr.lt
                        have hga := own_lt HFW.out.e; have hgb := own_lt HFW.out.p
                        have lga : LtW ga w4 := hga
                        have lgb : LtW gb w4 := hgb
                        have hgab := (own_parts HFW.out.e).2.1; have hgbb := (own_parts HFW.out.p).2.1
                        clear hqr hbw hga hgb
                        have HFX : Hid (FW bs ga gb ca cb W H wr E' (P'.set kp (nn : Int)) (w4.setCell ⟨gb, kp, none⟩ (.int .i64 (nn : Int)))) := Lib.hid (HFW.out.setP HNE.out hkpH)
                        have f1 := (own_cell HFW.out.p hkpH).2
                        have f2 := own_int HFW.out.p HFW.out.len.2 hkpH
                        have hqr5 := rowBelow HQ.out (HB4.out.trans (HFX.out.bel.mono (by omega))) hqb
                        have d0 : (w4.setCell ⟨gb, kp, none⟩ (.int .i64 (nn : Int))).cell? ⟨q, 0, none⟩ = some (.int .i64 (4)) := hqr5.cell (i := 0) (by omega)
                        have d1 : (w4.setCell ⟨gb, kp, none⟩ (.int .i64 (nn : Int))).cell? ⟨q, 1, none⟩ = some (.int .i64 (W)) := hqr5.cell (i := 1) (by omega)
                        have d2 : (w4.setCell ⟨gb, kp, none⟩ (.int .i64 (nn : Int))).cell? ⟨q, 2, none⟩ = some (.int .i64 (H)) := hqr5.cell (i := 2) (by omega)
                        have d3 : (w4.setCell ⟨gb, kp, none⟩ (.int .i64 (nn : Int))).cell? ⟨q, 3, none⟩ = some (.slice a n c) := hqr5.cell (i := 3) (by omega)
                        clear hqr5
                        have HEP : Hid (E' ++ P'.set kp (nn : Int) = (E' ++ P').set k (nn : Int)) := Lib.hid (by rw [HKP.out]; exact (set_right hEl).symm)
                        have HGS : Hid (Ef.Good (E' ++ P'.set kp (nn : Int))) := Lib.hid (by rw [HEP.out]; exact good_set HS.out.inv.2.1 (by rw [List.length_append]; omega) (by omega) (by omega))
                        go_upto_region 27 with fail
                        obtain ⟨EX, hEX⟩ : ∃ EX, E' = EX := ⟨_, rfl⟩
                        obtain ⟨PX, hPX⟩ : ∃ PX, P'.set kp (nn : Int) = PX := ⟨_, rfl⟩
                        rw [hPX] at HFX HEP HGS
                        have HFX : Hid (FW bs ga gb ca cb W H wr EX PX (w4.setCell ⟨gb, kp, none⟩ (.int .i64 (nn : Int)))) := by rw [← hEX]; exact HFX
                        have HEP : Hid (EX ++ PX = (E' ++ P').set k (nn : Int)) := by rw [← hEX]; exact HEP
                        have HGS : Hid (Ef.Good (EX ++ PX)) := by rw [← hEX]; exact HGS
                        clear hEX hPX f1 f2 c0 c1 c2 c3 lq lga lgb HFW d0 d1 d2 d3
                        generalize w4.setCell ⟨gb, kp, none⟩ (.int .i64 (nn : Int)) = w5 at *
                        have hqr := rowBelow HQ.out (HB4.out.trans (HFX.out.bel.mono (by omega))) hqb
                        have c0 : (w5).cell? ⟨q, 0, none⟩ = some (.int .i64 (4)) := hqr.cell (i := 0) (by omega)
                        have c1 : (w5).cell? ⟨q, 1, none⟩ = some (.int .i64 (W)) := hqr.cell (i := 1) (by omega)
                        have c2 : (w5).cell? ⟨q, 2, none⟩ = some (.int .i64 (H)) := hqr.cell (i := 2) (by omega)
                        have c3 : (w5).cell? ⟨q, 3, none⟩ = some (.slice a n c) := hqr.cell (i := 3) (by omega)
                        have lq : LtW q w5 := hqr.lt
                        have HBW5 : Hid (Below wr.heap.size wr w5) := Lib.hid (by rw [hbs]; exact HFX.out.bel)
                        have hI5 := HI2.out.below (by rw [hbase]; exact HB4.out.trans (HBW5.out.mono (by omega)))
                        have hE5 := ints_of_own HFX.out.e
                        have hP5 := ints_of_own HFX.out.p
                        clear hqr
                        go_wp2_with fail
                        refine (HFO.out _ ca EX _ cb PX w5 hI5 hE5 hP5 HGS.out).mono ?_
                        rintro rr w6 ⟨hres, hb6⟩
                        have HB6 : Hid (Below wr.heap.size wr w6) := Lib.hid (HBW5.out.trans (hb6.mono HBW5.out.size))
                        have HIE6 := Lib.hid (HIE.out.below HB6.out)
                        have HIP6 := Lib.hid (HIP.out.below HB6.out)
                        have HBB6 := Lib.hid (HB4.out.trans (HB6.out.mono (by omega)))
                        clear hI5 hE5 hP5 hb6 c0 c1 c2 c3 lq HFX HBW5
                        rcases hres with ⟨hnever, rfl⟩ | ⟨E2, P2, A2, C2, B2, D2, hleast, hl1, hl2, rfl, hi1, hi2⟩
                        · rw [HEP.out] at hnever
                          have HNV2 : Hid (∀ j : Nat, j < nn + 1 → Never W cs ((E' ++ P').set k j)) := Lib.hid fun j h => by
                            by_cases e : j = nn
                            · subst e; exact hnever
                            · exact HNV.out j (by omega)
                          clear hnever
                          go_wp2
                          go_roundw
                          case rel => exact ⟨false, nn + 1, E', P', A', C', B', D', rfl, by go_num, rfl, rfl, HIE6.out, HIP6.out, HBB6.out, by omega, Lib.hid ⟨fun h => (by cases h), fun _ => ⟨rfl, rfl, HNV2.out⟩⟩⟩
                          case measure => simp [intOf]; omega
                        · rw [HEP.out] at hleast
                          have HST2 := Lib.hid (Str.tie HS.out hkN HNEG.out hn62 HNV.out hleast)
                          have HI1 := Lib.hid hi1; have HI2' := Lib.hid hi2
                          clear hleast hl1 hl2 hi1 hi2
                          go_wp2
                          go_roundw
                          case rel => exact ⟨true, nn + 1, E2, P2, A2, C2, B2, D2, rfl, by go_num, rfl, rfl, HI1.out, HI2'.out, HBB6.out, by omega, Lib.hid ⟨fun _ => HST2.out, fun h => (by cases h)⟩⟩
                          case measure => simp [intOf]; omega
                      · have hn2 : nn = 62 := by omega
                        have HSTK : Hid (Stuck W cs (W + H)) := Lib.hid ⟨k, E' ++ P', HS.out, hkN, HNEG.out, fun j h => HNV.out j (by omega)⟩
                        clear HNV
                        subst hn2
                        go_wp2
                        refine bodyPost_ret (v := .tuple #[.agg #[.slice none 0 0, .slice none 0 0], .int .i64 (6)]) (by simp [results, Try.results33, go_sem, r0, r1]) rfl ?_
                        refine ⟨.inl ⟨HSTK.out, rfl⟩, ?_⟩
                        rw [HQE.out]
                        exact ((HBW.out.trans (HB4.out.mono (by omega))).setCell (by simp; omega) _).setCell (by simp; omega) _
            · obtain rfl : k = W + H := by omega
              go_wp2
              refine bodyPost_ret (v := .tuple #[.agg #[.slice A W C, .slice B H D], .int .i64 (0)]) (by simp [results, Try.results33, go_sem, r0, r1]) rfl ?_
              have hst := HS.out
              refine ⟨.inr ⟨E ++ P, A, C, B, D, hst, rfl, ?_, ?_⟩, ?_⟩
              · rw [List.take_append_of_le_length (by omega), List.take_of_length_le (by omega)]
                exact ints_set (ints_set HIE0.out (ints_not_row HIE0.out hW1 HRR.out)) (ints_not_row HIE0.out hW1 HRR.out)
              · rw [List.drop_left' (by omega)]
                exact ints_set (ints_set HIP0.out (ints_not_row HIP0.out hH1 HRR.out)) (ints_not_row HIP0.out hH1 HRR.out)
              · rw [HQE.out]
                exact ((HBW.out.trans (HB.out.mono (by omega))).setCell (by simp; omega) _).setCell (by simp; omega) _
end Go.Proofs.Yticplgjpflaelaa
