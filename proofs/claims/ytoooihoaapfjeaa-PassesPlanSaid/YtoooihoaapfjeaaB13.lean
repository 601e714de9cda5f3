/- Lemmas and contracts of functions (what each call returns, and that it changes nothing that was there) that the proof of a law of this seat uses; each lemma states its own conditions. -/
import Derived.Test.YtoooihoaapfjeaaB12
namespace Go.Proofs.Ytoooihoaapfjeaa
open Go.RowKit
set_option linter.unusedVariables false
set_option linter.unusedSimpArgs false
namespace Ps
/-- The fewest passes from s. -/
def Dmin (to : List Int) (sl : Int) (k : Nat) (s : List Int) : Prop := dist to sl k s ∧ ∀ k', dist to sl k' s → k ≤ k'
theorem Dmin.uniq {to : List Int} {sl : Int} {k k' : Nat} {s : List Int} (h : Dmin to sl k s) (h' : Dmin to sl k' s) : k = k' := Nat.le_antisymm (h.2 _ h'.1) (h'.2 _ h.1)
theorem Dmin.of_dist {to : List Int} {sl : Int} {s : List Int} : ∀ k, dist to sl k s → ∃ k', Dmin to sl k' s := by
  intro k
  induction k using Nat.strongRecOn with
  | ind k ih =>
    intro h
    by_cases h2 : ∃ k', k' < k ∧ dist to sl k' s
    · obtain ⟨k', h3, h4⟩ := h2
      exact ih k' h3 h4
    · refine ⟨k, h, fun k' h3 => ?_⟩
      by_cases h4 : k' < k
      · exact absurd ⟨k', h4, h3⟩ h2
      · omega
theorem nd_inj : ∀ {E : List (List Int × Nat)}, (E.map (·.1)).Nodup → ∀ e ∈ E, ∀ e' ∈ E, e.1 = e'.1 → e = e'
  | [], _, e, he, _, _, _ => by simp at he
  | x :: E, h, e, he, e', he', heq => by
    rw [List.map_cons, List.nodup_cons] at h
    rcases List.mem_cons.1 he with rfl | h1
    · rcases List.mem_cons.1 he' with rfl | h2
      · rfl
      · exact absurd (heq ▸ List.mem_map.2 ⟨e', h2, rfl⟩) h.1
    · rcases List.mem_cons.1 he' with rfl | h2
      · exact absurd (heq ▸ List.mem_map.2 ⟨e, h1, rfl⟩) h.1
      · exact nd_inj h.2 e h1 e' h2 heq
/-- What breadth first has found is the fewest passes. -/
theorem bfs_dmin {to : List Int} {sl : Int} (ht : okS to sl to) {i : Nat} (hi : i = (bfs to sl i).length) {e : List Int × Nat} (he : e ∈ bfs to sl i) : Dmin to sl e.2 e.1 := by
  obtain ⟨h1, h2⟩ := bfs_done ht hi
  obtain ⟨ho, hl, hd⟩ := h1 e he
  refine ⟨hd, fun k' h3 => ?_⟩
  obtain ⟨e', he', e1, e2⟩ := h2 k' e.1 ho hl h3
  have := nd_inj (bfs_in ht i (by omega)).nd e' he' e he e1
  rw [← this]
  exact e2
theorem bfs_none {to : List Int} {sl : Int} (ht : okS to sl to) {i : Nat} (hi : i = (bfs to sl i).length) {s : List Int} (ho : okS to sl s) (hl : s.length = to.length) (hn : s ∉ (bfs to sl i).map (·.1)) (k : Nat) : ¬ dist to sl k s := fun h => by
  obtain ⟨e, he, e1, _⟩ := (bfs_done ht hi).2 k s ho hl h
  exact hn (List.mem_map.2 ⟨e, he, e1⟩)
theorem dist_step {to : List Int} {sl : Int} {k : Nat} {s : List Int} {p : Int × Nat} (hp : valid to.length p) (ho : okS to sl (mv s p.1 p.2)) (h : dist to sl k (mv s p.1 p.2)) : dist to sl (k + 1) s := by
  obtain ⟨l, h1, h2, h3⟩ := h
  refine ⟨p :: l, by simp [h1], fun q hq => ?_, ho, h3⟩
  rcases List.mem_cons.1 hq with rfl | hq
  · exact hp
  · exact h2 q hq
/-- There is a pass that comes nearer. -/
theorem dmin_step {to : List Int} {sl : Int} {k : Nat} {s : List Int} (h : Dmin to sl (k + 1) s) : ∃ p, valid to.length p ∧ okS to sl (mv s p.1 p.2) ∧ Dmin to sl k (mv s p.1 p.2) := by
  obtain ⟨⟨l, h1, h2, h3⟩, hmin⟩ := h
  match l, h1, h2, h3 with
  | p :: l, h1, h2, h3 =>
    have hp := h2 p (by simp)
    refine ⟨p, hp, h3.1, ⟨l, by simpa using h1, fun q hq => h2 q (by simp [hq]), h3.2⟩, fun k' h4 => ?_⟩
    have := hmin _ (dist_step hp h3.1 h4)
    omega
theorem dmin_zero {to : List Int} {sl : Int} {s : List Int} (h : Dmin to sl 0 s) : s = to := by
  obtain ⟨⟨l, h1, h2, h3⟩, _⟩ := h
  obtain rfl : l = [] := List.length_eq_zero_iff.1 h1
  exact h3
/-- A pass that comes nearer. -/
def good (to : List Int) (sl : Int) (k : Nat) (s : List Int) (p : Int × Nat) : Prop := okS to sl (mv s p.1 p.2) ∧ Dmin to sl k (mv s p.1 p.2)
/-- The first of those that come nearer. -/
def firstP (to : List Int) (sl : Int) (k : Nat) (s : List Int) (p : Int × Nat) : Prop := ∃ j, j < 4 * (2 ^ to.length - 1) ∧ PLv to.length j = p ∧ good to sl k s p ∧ ∀ i, i < j → ¬ good to sl k s (PLv to.length i)
/-- Each pass the first of those that come nearer. -/
def firstL (to : List Int) (sl : Int) : Nat → List Int → List (Int × Nat) → Prop
  | 0, _, L => L = []
  | k + 1, s, L => ∃ p L', L = p :: L' ∧ firstP to sl k s p ∧ firstL to sl k (mv s p.1 p.2) L'
theorem firstP.uniq {to : List Int} {sl : Int} {k : Nat} {s : List Int} {p q : Int × Nat} (h : firstP to sl k s p) (h' : firstP to sl k s q) : p = q := by
  obtain ⟨j, _, rfl, h2, h3⟩ := h
  obtain ⟨j', _, rfl, h5, h6⟩ := h'
  rcases Nat.lt_trichotomy j j' with h | h | h
  · exact absurd h2 (h6 j h)
  · rw [h]
  · exact absurd h5 (h3 j' h)
theorem firstL.uniq {to : List Int} {sl : Int} : ∀ {k : Nat} {s : List Int} {L L' : List (Int × Nat)}, firstL to sl k s L → firstL to sl k s L' → L = L'
  | 0, _, _, _, h, h' => (show _ = [] from h).trans (show _ = [] from h').symm
  | k + 1, s, _, _, h, h' => by
    obtain ⟨p, L, rfl, h1, h2⟩ := h
    obtain ⟨p', L', rfl, h1', h2'⟩ := h'
    obtain rfl := h1.uniq h1'
    rw [h2.uniq h2']
theorem firstL.does {to : List Int} {sl : Int} : ∀ {k : Nat} {s : List Int} {L : List (Int × Nat)}, firstL to sl k s L → Dmin to sl k s → L.length = k ∧ (∀ p ∈ L, valid to.length p) ∧ doesIt to sl s L
  | 0, s, L, h, hd => by
    obtain rfl : L = [] := h
    exact ⟨rfl, by simp, dmin_zero hd⟩
  | k + 1, s, _, h, _ => by
    obtain ⟨p, L, rfl, ⟨j, hj, rfl, hg, _⟩, h2⟩ := h
    obtain ⟨h3, h4, h5⟩ := h2.does hg.2
    refine ⟨by simp [h3], fun q hq => ?_, hg.1, h5⟩
    rcases List.mem_cons.1 hq with rfl | hq
    · exact PLv_valid hj
    · exact h4 q hq
/-- Some pass among all comes nearer. -/
theorem some_good {to : List Int} {sl : Int} {k : Nat} {s : List Int} (h : Dmin to sl (k + 1) s) : ∃ j, j < 4 * (2 ^ to.length - 1) ∧ good to sl k s (PLv to.length j) := by
  obtain ⟨p, h1, h2⟩ := dmin_step h
  obtain ⟨j, hj, e⟩ := List.getElem_of_mem (mem_PL.2 h1)
  refine ⟨j, by rw [PL_len] at hj; exact hj, ?_⟩
  have : PLv to.length j = p := by
    unfold PLv
    rw [List.getD_eq_getElem?_getD, List.getElem?_eq_getElem hj, e]
    rfl
  rw [this]
  exact h2
end Ps
/-- Passes, one behind the other. -/
def psK (L : List (Int × Nat)) : List Value := L.flatMap fun p => [.int .i64 p.1, .int .i64 (p.2 : Nat)]
theorem psK_snoc (L : List (Int × Nat)) (p : Int × Nat) : psK (L ++ [p]) = psK L ++ [.int .i64 p.1, .int .i64 (p.2 : Nat)] := by
  unfold psK
  rw [List.flatMap_append]
  simp
theorem psK_len (L : List (Int × Nat)) : (psK L).length = L.length * 2 := by
  unfold psK
  induction L with
  | nil => rfl
  | cons p L ih => rw [List.flatMap_cons, List.length_append, ih]; simp; omega
theorem psK_get (L : List (Int × Nat)) (j : Nat) (h : j < L.length) : (psK L)[2 * j]? = some (.int .i64 (L.getD j (0, 0)).1) ∧ (psK L)[2 * j + 1]? = some (.int .i64 ((L.getD j (0, 0)).2 : Nat)) := by
  induction L generalizing j with
  | nil => simp at h
  | cons p L ih =>
    have e : psK (p :: L) = .int .i64 p.1 :: .int .i64 (p.2 : Nat) :: psK L := rfl
    rw [e]
    cases j with
    | zero => exact ⟨rfl, rfl⟩
    | succ j =>
      have := ih j (by simpa using h)
      simp only [List.getD_cons_succ]
      rw [show 2 * (j + 1) = 2 * j + 1 + 1 by omega]
      simp only [List.getElem?_cons_succ]
      exact this
/-- A list of passes in memory (of whatever numbers). -/
def IsPasses (w : World) (a : Option Addr) (n : Nat) (L : List (Int × Int)) : Prop :=
  L.length = n ∧ (0 < n → ∃ b o, a = some ⟨b, o, none⟩ ∧ b < w.heap.size ∧ ∀ j, j < n → w.cell? ⟨b, o + j * 2, none⟩ = some (.int .i64 (L.getD j (0, 0)).1) ∧ w.cell? ⟨b, o + j * 2 + 1, none⟩ = some (.int .i64 (L.getD j (0, 0)).2))
theorem IsPasses.below {w w' : World} {a : Option Addr} {n : Nat} {L : List (Int × Int)} (h : IsPasses w a n L) (hb : Below w.heap.size w w') : IsPasses w' a n L := by
  refine ⟨h.1, fun hn => ?_⟩
  obtain ⟨b, o, h1, h2, h3⟩ := h.2 hn
  exact ⟨b, o, h1, Nat.lt_of_lt_of_le h2 hb.size, fun j hj => ⟨bCs hb (h3 j hj).1, bCs hb (h3 j hj).2⟩⟩
def pI (L : List (Int × Nat)) : List (Int × Int) := L.map fun p => (p.1, (p.2 : Int))
theorem own_passes {w : World} {base : Nat} {A : Option Addr} {n C : Nat} {L : List (Int × Nat)} (hl : L.length = n) (h : w.ownsRow base 43 2 (.slice A n C) n (psK L)) : IsPasses w A n (pI L) := by
  refine ⟨by unfold pI; rw [List.length_map]; exact hl, fun hn => ?_⟩
  rcases h.2 with ⟨e, e0⟩ | ⟨g, cap, cur, e, hb, hg, h3, h4, h5, h6⟩
  · omega
  · injection e with e1
    refine ⟨g, 0, e1, (Array.getElem?_eq_some_iff.1 hg).1, fun j hj => ?_⟩
    have hc : ∀ r u, r < 2 → (psK L)[2 * j + r]? = some u → w.cell? ⟨g, 0 + j * 2 + r, none⟩ = some u := fun r u hr hu => by
      have h7 : cur[2 * j + r]? = some u := by
        rw [← Array.getElem?_toList, ← List.getElem?_take_of_lt (show 2 * j + r < n * 2 by omega), h6]
        exact hu
      rw [show 0 + j * 2 + r = 2 * j + r by omega]
      simp [World.cell?, hg, h7]
    have hg2 := psK_get L j (by omega)
    have e : (pI L).getD j (0, 0) = ((L.getD j (0, 0)).1, ((L.getD j (0, 0)).2 : Int)) := by
      unfold pI
      rw [List.getD_eq_getElem?_getD, List.getElem?_map, List.getD_eq_getElem?_getD, List.getElem?_eq_getElem (by omega)]
      rfl
    rw [e]
    exact ⟨hc 0 _ (by omega) hg2.1, hc 1 _ (by omega) hg2.2⟩
theorem okPass : ElemOk 24 43 2 16 (.agg #[.int .i64 0, .int .i64 0]) := ⟨Try.underlying24, by kernel_rfl, rfl, by omega⟩
end Go.Proofs.Ytoooihoaapfjeaa

namespace Go.Proofs.Ytoooihoaapfjeaa
open Go.RowKit
set_option linter.unusedVariables false
set_option linter.unusedSimpArgs false
open Ps
set_option maxRecDepth 100000 in
set_option maxHeartbeats 8000000 in
theorem rStands_any (ta : Option Addr) (tn tc : Nat) (to : List Int) (sl : Int) (a : Option Addr) (n c : Nat) (zs : List Int) (w : World) (hT : IsInts w ta tn to) (hI : IsInts w a n zs) (hl : tn = n) (hn : n ≤ 100) (hs : 1 ≤ sl ∧ sl ≤ 11) :
    Calls Try.prog 19 #[.slice a n c, .slice ta tn tc, .int .i64 sl] w fun e w' => e = .returned (.bool (decide (okS to sl zs))) ∧ Below w.heap.size w w' := by
  subst hl
  have HI := Lib.hid hI; have HT := Lib.hid hT; have HL := Lib.hid hI.1
  obtain ⟨R, hR⟩ : ∃ R, decide (okS to sl zs) = R := ⟨_, rfl⟩
  rw [hR]
  have HR := Lib.hid hR
  clear hI hT hR
  go_enter Try.func19, Try.ntmps19
  go_wp2_with fail
  go_loopw [11] (fun iv wr => ∃ k : Nat, k ≤ tn ∧ iv = .int .i64 k ∧ Hid (∀ i, i < k → okAt to sl zs i) ∧ Hid (Below w.heap.size w wr)) (fun iv _ => tn - (intOf iv).toNat)
  case atStart => exact ⟨0, by omega, rfl, Lib.hid (fun i hi => absurd hi (by omega)), Lib.hid (Below.refl _ _)⟩
  case round =>
    obtain ⟨k, hk, rfl, HK, HBR⟩ := hrel
    by_cases hkn : k < tn
    · obtain ⟨b, o, rfl, hbl, hc⟩ := (HI.out.below HBR.out).2 (by omega)
      obtain ⟨b2, o2, rfl, hbl2, hc2⟩ := (HT.out.below HBR.out).2 (by omega)
      have lb : LtW b wr := hbl
      have lb2 : LtW b2 wr := hbl2
      have dk : decide ((k : Int) < (tn : Int)) = true := by simp; omega
      have dk' : decide (k < tn) = true := by simpa using hkn
      have c0 := hc k hkn
      have HDEF : Hid (okAt to sl zs k ↔ (0 ≤ zs.getD k 0 ∧ zs.getD k 0 < 12 ∧ (0 < k → zs.getD (k - 1) 0 ≤ zs.getD k 0 ∧ zs.getD k 0 - zs.getD (k - 1) 0 ≤ sl ∧ (zs.getD k 0 = zs.getD (k - 1) 0 → to.getD k 0 = to.getD (k - 1) 0)))) := Lib.hid Iff.rfl
      have HNO : Hid (¬ okAt to sl zs k → R = false) := Lib.hid (fun h => by
        rw [← HR.out]
        exact decide_eq_false fun h9 => h (h9 k (by rw [HL.out]; exact hkn)))
      have HYES : Hid (okAt to sl zs k → ∀ i, i < k + 1 → okAt to sl zs i) := Lib.hid (fun h i hi => by
        by_cases e : i = k
        · subst e; exact h
        · exact HK.out i (by omega))
      clear hbl hbl2
      obtain ⟨x, hx⟩ : ∃ x, zs.getD k 0 = x := ⟨_, rfl⟩
      rw [hx] at c0 HDEF
      by_cases h0 : x < 0
      · have HD : Hid (R = false) := Lib.hid (HNO.out (fun h => by have := HDEF.out.1 h; omega))
        have b0 : decide (x < 0) = true := by simpa using h0
        clear h0 hx hc hc2
        go_wp2
        go_ret
        exact ⟨by rw [HD.out] <;> rfl, HBR.out⟩
      · have b0 : decide (x < 0) = false := by simpa using h0
        by_cases h12 : 12 ≤ x
        · have HD : Hid (R = false) := Lib.hid (HNO.out (fun h => by have := HDEF.out.1 h; omega))
          have b1 : decide (11 < x) = true := by simp; omega
          clear h0 h12 hx hc hc2
          go_wp2
          go_ret
          exact ⟨by rw [HD.out] <;> rfl, HBR.out⟩
        · have b1 : decide (11 < x) = false := by simp; omega
          rcases Nat.eq_zero_or_pos k with hk0 | hk0
          · subst hk0
            have HOK : Hid (∀ i, i < 0 + 1 → okAt to sl zs i) := Lib.hid (HYES.out (HDEF.out.2 ⟨by omega, by omega, fun h => absurd h (by omega)⟩))
            simp only [Nat.add_zero] at c0
            have dz : decide ((0 : Int) < 0) = false := by simp
            clear h0 h12 hx hc hc2
            go_wp2_with fail
            (refine wp_region_ext (by kernel_rfl) (by kernel_rfl) ?_; (repeat (first | ((with_reducible refine ext_step (fun K hK => ?_)); go_simp; first | (refine hK _ ?_; clear hK K) | (apply Exists.intro; refine ⟨fun _ _ => ?_, hK _ ?_⟩; fail; clear hK K)))); refine wpQuiet_nil ?_; intro E d)
            have HBW2 : Hid (Below w.heap.size w (extW wr E d)) := Lib.hid (bExtW HBR.out HBR.out.size)
            clear HBR c0 lb lb2
            have HBR := HBW2
            generalize extW wr E d = w5 at *
            go_wp2
            go_roundw
            case rel => exact ⟨_, by omega, by go_num, HOK, HBR⟩
            case measure => simp [intOf]; omega
          · obtain ⟨j, rfl⟩ : ∃ j, k = j + 1 := ⟨k - 1, by omega⟩
            have cp := hc j (by omega)
            have ct := hc2 (j + 1) hkn
            have ct1 := hc2 j (by omega)
            have hy := (HK.out j (by omega))
            have hy0 : 0 ≤ zs.getD j 0 ∧ zs.getD j 0 < 12 := ⟨hy.1, hy.2.1⟩
            simp only [Nat.add_sub_cancel] at HDEF
            obtain ⟨y, hyy⟩ : ∃ y, zs.getD j 0 = y := ⟨_, rfl⟩
            rw [hyy] at cp HDEF hy0
            generalize to.getD (j + 1) 0 = t1 at *
            generalize to.getD j 0 = t0 at *
            have v1 : IntKind.i64.wrap (x - y) = x - y := IntWalk.i64_in _ (by omega)
            have v2 : IntKind.i64.wrap (j : Int) = (j : Int) := IntWalk.i64_in _ (by omega)
            have v3 : IntKind.i64.wrap ((j : Int) + 1 - 1) = (j : Int) := by rw [Int.add_sub_cancel]; exact v2
            have e0 : ((j : Int) + 1 == 0) = false := by simp; omega
            have g1 : (j : Int) < (tn : Int) := by omega
            have g2 : (j : Int) + 1 < (tn : Int) := by omega
            have g3 : (0 : Int) ≤ (j : Int) + 1 := by omega
            have g4 : ((j : Int) + 1).toNat = j + 1 := by omega
            have g5 : ¬ ((j : Int) + 1 < 0) := by omega
            have hb12 : 0 ≤ x ∧ x < 12 := by omega
            clear h0 h12 hx hc hc2 hyy hy
            by_cases hd : x < y
            · have HD : Hid (R = false) := Lib.hid (HNO.out (fun h => by have := (HDEF.out.1 h).2.2 (by omega); omega))
              have d0 : decide (x < y) = true := by simpa using hd
              clear hd
              go_wp2_with fail
              (refine wp_region_ext (by kernel_rfl) (by kernel_rfl) ?_; (repeat (first | ((with_reducible refine ext_step (fun K hK => ?_)); go_simp; first | (refine hK _ ?_; clear hK K) | (apply Exists.intro; refine ⟨fun _ _ => ?_, hK _ ?_⟩; fail; clear hK K)))); refine wpQuiet_nil ?_; intro E d)
              have HBW2 : Hid (Below w.heap.size w (extW wr E d)) := Lib.hid (bExtW HBR.out HBR.out.size)
              clear HBR c0 cp ct ct1 lb lb2
              have HBR := HBW2
              generalize extW wr E d = w5 at *
              go_wp2
              go_ret
              exact ⟨by rw [HD.out] <;> rfl, HBR.out⟩
            · have d0 : decide (x < y) = false := by simpa using hd
              by_cases hsl : sl < x - y
              · have HD : Hid (R = false) := Lib.hid (HNO.out (fun h => by have := (HDEF.out.1 h).2.2 (by omega); omega))
                have d1 : decide (sl < x - y) = true := by simpa using hsl
                clear hd hsl
                go_wp2_with fail
                (refine wp_region_ext (by kernel_rfl) (by kernel_rfl) ?_; (repeat (first | ((with_reducible refine ext_step (fun K hK => ?_)); go_simp; first | (refine hK _ ?_; clear hK K) | (apply Exists.intro; refine ⟨fun _ _ => ?_, hK _ ?_⟩; fail; clear hK K)))); refine wpQuiet_nil ?_; intro E d)
                have HBW2 : Hid (Below w.heap.size w (extW wr E d)) := Lib.hid (bExtW HBR.out HBR.out.size)
                clear HBR c0 cp ct ct1 lb lb2
                have HBR := HBW2
                generalize extW wr E d = w5 at *
                go_wp2
                go_ret
                exact ⟨by rw [HD.out] <;> rfl, HBR.out⟩
              · have d1 : decide (sl < x - y) = false := by simpa using hsl
                by_cases hz : x = y
                · have hxy : y = x := hz.symm
                  have d2 : (x == y) = true := by simpa using hz
                  clear hd hsl hz
                  by_cases ht : t1 = t0
                  · have d3 : (t1 == t0) = true := by simpa using ht
                    have d4 : (t1 != t0) = false := by simpa using ht
                    have HOK : Hid (∀ i, i < j + 1 + 1 → okAt to sl zs i) := Lib.hid (HYES.out (HDEF.out.2 ⟨by have := hb12; omega, by have := hb12; omega, fun _ => ⟨by omega, by omega, fun _ => ht⟩⟩))
                    have HXY := Lib.hid hxy
                    clear ht hb12 hxy
                    go_wp2_with fail
                    (refine wp_region_ext (by kernel_rfl) (by kernel_rfl) ?_; (repeat (first | ((with_reducible refine ext_step (fun K hK => ?_)); go_simp; first | (refine hK _ ?_; clear hK K) | (apply Exists.intro; refine ⟨fun _ _ => ?_, hK _ ?_⟩; fail; clear hK K)))); refine wpQuiet_nil ?_; intro E d)
                    have HBW2 : Hid (Below w.heap.size w (extW wr E d)) := Lib.hid (bExtW HBR.out HBR.out.size)
                    clear HBR c0 cp ct ct1 lb lb2
                    have HBR := HBW2
                    generalize extW wr E d = w5 at *
                    go_wp2
                    go_roundw
                    case rel => exact ⟨_, by omega, by go_num, HOK, HBR⟩
                    case measure => simp [intOf]; omega
                  · have d4 : (t1 != t0) = true := by simpa using ht
                    have d3 : (t1 == t0) = false := by simpa using ht
                    have HD : Hid (R = false) := Lib.hid (HNO.out (fun h => ht (((HDEF.out.1 h).2.2 (by omega)).2.2 (by omega))))
                    have HXY := Lib.hid hxy
                    clear ht hb12 hxy
                    go_wp2_with fail
                    (refine wp_region_ext (by kernel_rfl) (by kernel_rfl) ?_; (repeat (first | ((with_reducible refine ext_step (fun K hK => ?_)); go_simp; first | (refine hK _ ?_; clear hK K) | (apply Exists.intro; refine ⟨fun _ _ => ?_, hK _ ?_⟩; fail; clear hK K)))); refine wpQuiet_nil ?_; intro E d)
                    have HBW2 : Hid (Below w.heap.size w (extW wr E d)) := Lib.hid (bExtW HBR.out HBR.out.size)
                    clear HBR c0 cp ct ct1 lb lb2
                    have HBR := HBW2
                    generalize extW wr E d = w5 at *
                    go_wp2
                    go_ret
                    exact ⟨by rw [HD.out] <;> rfl, HBR.out⟩
                · have d2 : (x == y) = false := by simpa using hz
                  have HOK : Hid (∀ i, i < j + 1 + 1 → okAt to sl zs i) := Lib.hid (HYES.out (HDEF.out.2 ⟨by have := hb12; omega, by have := hb12; omega, fun _ => ⟨by omega, by omega, fun h => absurd h (by omega)⟩⟩))
                  clear hd hsl hz hb12
                  go_wp2_with fail
                  (refine wp_region_ext (by kernel_rfl) (by kernel_rfl) ?_; (repeat (first | ((with_reducible refine ext_step (fun K hK => ?_)); go_simp; first | (refine hK _ ?_; clear hK K) | (apply Exists.intro; refine ⟨fun _ _ => ?_, hK _ ?_⟩; fail; clear hK K)))); refine wpQuiet_nil ?_; intro E d)
                  have HBW2 : Hid (Below w.heap.size w (extW wr E d)) := Lib.hid (bExtW HBR.out HBR.out.size)
                  clear HBR c0 cp ct ct1 lb lb2
                  have HBR := HBW2
                  generalize extW wr E d = w5 at *
                  go_wp2
                  go_roundw
                  case rel => exact ⟨_, by omega, by go_num, HOK, HBR⟩
                  case measure => simp [intOf]; omega
    · obtain rfl : k = tn := by omega
      have dk : decide ((k : Int) < (k : Int)) = false := by simp
      have HD : Hid (R = true) := Lib.hid (by
        rw [← HR.out]
        exact decide_eq_true fun i hi => HK.out i (by rw [HL.out] at hi; exact hi))
      go_wp2
      go_ret
      exact ⟨by rw [HD.out] <;> rfl, HBR.out⟩
end Go.Proofs.Ytoooihoaapfjeaa
