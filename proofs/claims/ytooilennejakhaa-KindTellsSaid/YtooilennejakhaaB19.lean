/- Lemmas and contracts of functions (what each call returns, and that it changes nothing that was there) that the proof of a law of this seat uses; each lemma states its own conditions. -/
import Derived.Test.YtooilennejakhaaB18
import Derived.Test.YtooilennejakhaaB04
namespace Go.Proofs.Ytooilennejakhaa
open Go.RowKit
set_option linter.unusedVariables false
set_option linter.unusedSimpArgs false
open Z (torN place pnt Mv To lin okT nrm keepB colP idm)
/-- What is wrong, both ways. -/
def TorBad (e : Int) (V : Value) (a : Option Addr) (n : Nat) (cs : List Int) : Prop :=
  e ≠ 0 ∧ (∀ w, IsInts w a n cs → Calls Try.prog 10 #[V] w fun r w' => r = .returned (.tuple #[.int .i64 (0), .int .i64 (e)]) ∧ Below w.heap.size w w') ∧ (∀ w, IsInts w a n cs → Calls Try.prog 31 #[V] w fun r w' => r = .returned (.tuple #[.int .i64 (0), .int .i64 (e)]) ∧ Below w.heap.size w w')
theorem chart_cases (G W H : Int) (a : Option Addr) (n c : Nat) (cs : List Int) (h0 : (-9223372036854775808 ≤ G ∧ G ≤ 9223372036854775807)) (h1 : (-9223372036854775808 ≤ W ∧ W ≤ 9223372036854775807)) (h2 : (-9223372036854775808 ≤ H ∧ H ≤ 9223372036854775807)) (h3 : n ≤ 9223372036854775807) :
    (∃ e : Int, TorBad e (.agg #[.int .i64 (G), .int .i64 (W), .int .i64 (H), .slice a n c]) a n cs) ∨ (∃ G' W' H' N : Nat, G = G' ∧ W = W' ∧ H = H' ∧ ChOk G' W' H' n cs ∧ torN W' H' = N ∧ 0 < N ∧ N ≤ 24) := by
  by_cases he : chE G W H n cs = 0
  · obtain ⟨G', W', H', rfl, rfl, rfl, h⟩ := ChOk.of he
    by_cases hN : 24 < torN W' H'
    · have hv : torV (torN W' H') = .tuple #[.int .i64 (0), .int .i64 (4)] := by unfold torV; rw [if_pos hN]
      exact .inl ⟨4, by omega, fun w hI => by rw [← hv]; exact Torus_ok G' W' H' n a c cs w hI h, fun w hI => by rw [← hv]; exact rTorus_ok G' W' H' n a c cs w hI h⟩
    · exact .inr ⟨G', W', H', _, rfl, rfl, rfl, h, rfl, h.tpos, by omega⟩
  · exact .inl ⟨_, he, fun w hI => Torus_bad G W H a n c cs w hI h0 h1 h2 h3 he, fun w hI => rTorus_bad G W H a n c cs w hI h0 h1 h2 h3 he⟩
theorem torOk {G W H n N : Nat} {a : Option Addr} {c : Nat} {cs : List Int} (h : ChOk G W H n cs) (hN : torN W H = N) (h24 : N ≤ 24) :
    (∀ w, IsInts w a n cs → Calls Try.prog 10 #[.agg #[.int .i64 (G), .int .i64 (W), .int .i64 (H), .slice a n c]] w fun r w' => r = .returned (.tuple #[.int .i64 (N), .int .i64 (0)]) ∧ Below w.heap.size w w') ∧
    (∀ w, IsInts w a n cs → Calls Try.prog 31 #[.agg #[.int .i64 (G), .int .i64 (W), .int .i64 (H), .slice a n c]] w fun r w' => r = .returned (.tuple #[.int .i64 (N), .int .i64 (0)]) ∧ Below w.heap.size w w') := by
  have hv : torV (torN W H) = .tuple #[.int .i64 (N), .int .i64 (0)] := by unfold torV; rw [hN, if_neg (by omega)]
  exact ⟨fun w hI => by rw [← hv]; exact Torus_ok G W H n a c cs w hI h, fun w hI => by rw [← hv]; exact rTorus_ok G W H n a c cs w hI h⟩
/-- A list of moves and what is wrong. -/
def MvPost (L : List Mv) (e : Int) (w : World) (r : Ending) (w' : World) : Prop := (∃ A C, r = .returned (.tuple #[.slice A L.length C, .int .i64 (e)]) ∧ OwnM w' w.heap.size A L.length C L) ∧ Below w.heap.size w w'
theorem OwnM.none (w : World) (b : Nat) : OwnM w b none 0 0 [] := ⟨rfl, World.ownsRow_nil _ _ _ _⟩
set_option maxRecDepth 100000 in
set_option maxHeartbeats 8000000 in
theorem Moves_bad (G W H : Int) (a : Option Addr) (n c : Nat) (cs : List Int) (w : World) (hI : IsInts w a n cs) (e : Int) (hT : TorBad e (.agg #[.int .i64 (G), .int .i64 (W), .int .i64 (H), .slice a n c]) a n cs) :
    Calls Try.prog 9 #[.agg #[.int .i64 (G), .int .i64 (W), .int .i64 (H), .slice a n c]] w (MvPost [] e w) := by
  have hb : (e != 0) = true := by simpa using hT.1
  have HL := Lib.hid (fun w hI => laid_bad G W H a n c cs w hI e hT.1 hT.2.1)
  have HI := Lib.hid hI
  clear hI hT
  go_enter Try.func9, Try.ntmps9
  (go_wp2_with fail; refine (HL.out _ (HI.out.below (by repeat (first | exact Below.refl _ _ | refine Below.drew ?_ | refine below_drewN ?_ _ | refine Below.alloc ?_ (by first | exact Nat.le_refl _ | (simp; done) | (simp; omega) | omega) _ | refine Below.setCell ?_ (by first | exact Nat.le_refl _ | (simp; done) | (simp; omega) | omega) _ | refine bExtW ?_ (by first | exact Nat.le_refl _ | (simp; done) | (simp; omega) | omega) | refine Below.trans ?_ (Below.mono (by assumption) (by first | exact Nat.le_refl _ | (simp; done) | (simp; omega) | omega)))))).mono ?_; rintro r w1 ⟨rfl, hb⟩; obtain ⟨E, d, rfl⟩ := bExt hb; clear hb)
  go_wp2
  go_ret2
  exact ⟨⟨none, 0, rfl, OwnM.none _ _⟩, (by repeat (first | exact Below.refl _ _ | refine Below.drew ?_ | refine below_drewN ?_ _ | refine Below.alloc ?_ (by first | exact Nat.le_refl _ | (simp; done) | (simp; omega) | omega) _ | refine Below.setCell ?_ (by first | exact Nat.le_refl _ | (simp; done) | (simp; omega) | omega) _ | refine bExtW ?_ (by first | exact Nat.le_refl _ | (simp; done) | (simp; omega) | omega) | refine Below.trans ?_ (Below.mono (by assumption) (by first | exact Nat.le_refl _ | (simp; done) | (simp; omega) | omega))))⟩
theorem OwnM.base {w : World} {base base' n C : Nat} {A : Option Addr} {L : List Mv} (h : OwnM w base A n C L) (hb : base' ≤ base) : OwnM w base' A n C L := ⟨h.1, own_baseV h.2 hb⟩
set_option maxRecDepth 100000 in
set_option maxHeartbeats 8000000 in
theorem Moves_ok (G W H n N : Nat) (a : Option Addr) (c : Nat) (cs : List Int) (w : World) (hI : IsInts w a n cs) (h : ChOk G W H n cs) (hN : torN W H = N) (h24 : N ≤ 24) (h0 : 0 < N) :
    Calls Try.prog 9 #[.agg #[.int .i64 (G), .int .i64 (W), .int .i64 (H), .slice a n c]] w (MvPost (Z.movesL W H cs G N) 0 w) := by
  obtain ⟨M, hM⟩ : ∃ M, N * N = M := ⟨_, rfl⟩
  have HL := Lib.hid (fun w hI => laid_ok G W H n N M a c cs w hI h hN h24 hM)
  have hd := Z.torN_dvd W H
  rw [hN] at hd
  have HA := Lib.hid (fun a c w hI => all_ok G W H N M a c cs w hI h.g h0 h24 hM hd.1 hd.2)
  have HI := Lib.hid hI
  clear hI hN hM h hd
  go_enter Try.func9, Try.ntmps9
  go_wp2_with fail
  refine (HL.out _ (HI.out.below (by repeat (first | exact Below.refl _ _ | refine Below.drew ?_ | refine below_drewN ?_ _ | refine Below.alloc ?_ (by first | exact Nat.le_refl _ | (simp; done) | (simp; omega) | omega) _ | refine Below.setCell ?_ (by first | exact Nat.le_refl _ | (simp; done) | (simp; omega) | omega) _ | refine bExtW ?_ (by first | exact Nat.le_refl _ | (simp; done) | (simp; omega) | omega) | refine Below.trans ?_ (Below.mono (by assumption) (by first | exact Nat.le_refl _ | (simp; done) | (simp; omega) | omega)))))).mono ?_
  rintro r w2 ⟨⟨A, C, rfl, hA⟩, hb2⟩
  have HB2 : Hid (Below w.heap.size w w2) := Lib.hid (((Below.refl _ _).alloc (Nat.le_refl _) _).trans (hb2.mono (by simp)))
  have HA2 := Lib.hid hA.ints
  have hs2 : w.heap.size < w2.heap.size := by have := hb2.size; simp at this; omega
  clear hA hb2
  go_wp2_with fail
  refine (HA.out A C _ (HA2.out.below ((Below.refl _ _).alloc (Nat.le_refl _) _))).mono ?_
  rintro r w3 ⟨⟨B, D, rfl, hB⟩, hb3⟩
  have HB3 : Hid (Below w.heap.size w w3) := Lib.hid ((HB2.out.alloc (Nat.le_of_lt hs2) _).trans (hb3.mono (by simp; omega)))
  have HM := Lib.hid (hB.base (base' := w.heap.size) (by simp; omega))
  clear hB hb3
  go_wp2
  go_ret2
  exact ⟨⟨B, D, rfl, HM.out⟩, HB3.out⟩
end Go.Proofs.Ytooilennejakhaa

namespace Go.Proofs.Ytooilennejakhaa
open Go.RowKit
set_option linter.unusedVariables false
set_option linter.unusedSimpArgs false
open Z (torN place pnt Mv To lin okT nrm keepB colP idm md redM)
theorem alive_len : (Z.movesL 1 1 [0] 4 1).length = 8 := by decide +kernel
set_option maxRecDepth 100000 in
set_option maxHeartbeats 8000000 in
theorem On_ok (n : Nat) (x y : Int) (w : World) (hn : 0 < n) (h24 : n ≤ 64) (hx : (-9223372036854775808 ≤ x ∧ x ≤ 9223372036854775807)) (hy : (-9223372036854775808 ≤ y ∧ y ≤ 9223372036854775807)) :
    Calls Try.prog 62 #[.int .i64 (n), .agg #[.int .i64 (x), .int .i64 (y)]] w fun e w' => e = .returned (.agg #[.int .i64 (x % (n : Int)), .int .i64 (y % (n : Int))]) ∧ Below w.heap.size w w' := by
  have HX := Lib.hid (fun w => Rest_ok x n w hn h24 hx)
  have HY := Lib.hid (fun w => Rest_ok y n w hn h24 hy)
  generalize x % (n : Int) = p at *
  generalize y % (n : Int) = q at *
  clear hx hy hn
  go_enter Try.func62, Try.ntmps62
  go_wp2_with fail
  (refine wp_region_ext_tail 8 (by kernel_rfl) (by kernel_rfl) ?_; simp only [List.take_succ_cons, List.take_zero, List.drop_succ_cons, List.drop_zero]; (repeat (first | ((with_reducible refine ext_step (fun K hK => ?_)); go_simp; first | (refine hK _ ?_; clear hK K) | (apply Exists.intro; refine ⟨fun _ _ => ?_, hK _ ?_⟩; (go_at_call 66; first | (with_reducible exact extOf (HX.out _)) | (with_reducible exact extOf (HY.out _))); clear hK K)))); refine wpQuiet_nil ?_; intro E d)
  go_wp2
  refine bodyPost_ret (v := .agg #[.int .i64 (p), .int .i64 (q)]) (by simp [results, Try.results62, go_sem]) rfl ⟨rfl, (by repeat (first | exact Below.refl _ _ | refine Below.drew ?_ | refine below_drewN ?_ _ | refine Below.alloc ?_ (by first | exact Nat.le_refl _ | (simp; done) | (simp; omega) | omega) _ | refine Below.setCell ?_ (by first | exact Nat.le_refl _ | (simp; done) | (simp; omega) | omega) _ | refine bExtW ?_ (by first | exact Nat.le_refl _ | (simp; done) | (simp; omega) | omega) | refine Below.trans ?_ (Below.mono (by assumption) (by first | exact Nat.le_refl _ | (simp; done) | (simp; omega) | omega))))⟩
/-- Is it among them? -/
def hasB (L : List Mv) (m : Mv) : Bool := decide (m ∈ L)
end Go.Proofs.Ytooilennejakhaa

namespace Go.Proofs.Ytooilennejakhaa
open Go.RowKit
set_option linter.unusedVariables false
set_option linter.unusedSimpArgs false
namespace Z
def rkM (g : Nat) (m : Mv) : Nat := (if m.f then g else 0) + m.t
/-- Does a kind begin at i? -/
def newK (L : List Mv) (i : Nat) : Bool := i == 0 || (L.getD (i - 1) idm).f != (L.getD i idm).f || (L.getD (i - 1) idm).t != (L.getD i idm).t
def kdI (L : List Mv) : Nat → Nat
  | 0 => 0
  | i + 1 => kdI L i + if newK L i then 1 else 0
theorem countP_or_one {l : List Nat} (hl : l.Nodup) (p : Nat → Bool) {r : Nat} (hr : r ∈ l) (hp : p r = false) : l.countP (fun v => p v || r == v) = l.countP p + 1 := by
  rw [countP_sum, countP_sum]
  have h1 : sumL l (fun v => if r == v then 1 else 0) = 1 := by
    rw [sumL_one hl hr (fun x _ hx => by simp [Ne.symm hx])]
    simp
  refine Eq.trans ?_ (congrArg (fun z => sumL l (fun v => if p v then 1 else 0) + z) h1)
  rw [← sumL_add]
  refine sumL_congr fun v _ => ?_
  by_cases e : r = v
  · subst e; simp [hp]
  · simp [e]
theorem rkM_eq {g : Nat} {a b : Mv} (ha : a.t < g) (hb : b.t < g) : rkM g a = rkM g b ↔ a.t = b.t ∧ a.f = b.f := by
  unfold rkM
  cases a.f <;> cases b.f <;> simp <;> omega
theorem kd_count {g : Nat} {L : List Mv} (hs : ∀ i j, i < j → j < L.length → rkM g (L.getD i idm) ≤ rkM g (L.getD j idm)) (ht : ∀ i, i < L.length → (L.getD i idm).t < g) :
    ∀ i, i ≤ L.length → kdI L i = (List.range (2 * g)).countP fun v => (List.range i).any fun j => rkM g (L.getD j idm) == v
  | 0, _ => by simp [kdI]
  | i + 1, hi => by
    have ih := kd_count hs ht i (by omega)
    have hti := ht i (by omega)
    simp only [kdI]
    rw [ih]
    have hstep : ∀ v, ((List.range (i + 1)).any fun j => rkM g (L.getD j idm) == v) = (((List.range i).any fun j => rkM g (L.getD j idm) == v) || rkM g (L.getD i idm) == v) := fun v => by
      rw [List.range_succ, List.any_append]; simp
    simp only [hstep]
    cases hk : newK L i with
    | true =>
      rw [if_pos rfl, countP_or_one List.nodup_range]
      · rw [List.mem_range]; unfold rkM; split <;> omega
      · rw [List.any_eq_false]
        intro j hj e
        rw [List.mem_range] at hj
        have e2 := eq_of_beq e
        have h1 := hs j i hj (by omega)
        have h2 : i ≠ 0 := by omega
        have h3 : rkM g (L.getD (i - 1) idm) = rkM g (L.getD i idm) := by
          rcases Nat.lt_or_ge j (i - 1) with h | h
          · have h4 := hs j (i - 1) h (by omega)
            have h5 := hs (i - 1) i (by omega) (by omega)
            omega
          · obtain rfl : j = i - 1 := by omega
            exact e2
        obtain ⟨h6, h7⟩ := (rkM_eq (ht (i - 1) (by omega)) hti).1 h3
        unfold newK at hk
        rw [h6, h7] at hk
        simp at hk
        exact h2 hk
    | false =>
      rw [if_neg (by simp), Nat.add_zero]
      refine (List.countP_congr fun v _ => ?_).symm
      unfold newK at hk
      simp only [Bool.or_eq_false_iff, bne_eq_false_iff_eq, beq_eq_false_iff_ne] at hk
      obtain ⟨⟨h0, h1⟩, h2⟩ := hk
      have h3 : rkM g (L.getD (i - 1) idm) = rkM g (L.getD i idm) := (rkM_eq (ht (i - 1) (by omega)) hti).2 ⟨h2, h1⟩
      constructor
      · intro h
        rw [Bool.or_eq_true] at h
        rcases h with h | h
        · exact h
        · rw [List.any_eq_true]
          exact ⟨i - 1, List.mem_range.2 (by omega), by rw [h3]; exact h⟩
      · intro h
        rw [Bool.or_eq_true]
        exact .inl h
theorem length_by (g : Nat) (f : Mv → Nat) (m : Nat) : ∀ L : List Mv, (∀ x ∈ L, f x < m) → L.length = sumL (List.range m) fun v => L.countP fun x => f x == v
  | [], _ => by rw [sumL_zero]; rfl; intro x _; rfl
  | a :: L, h => by
    have ih := length_by g f m L (fun x hx => h x (List.mem_cons_of_mem _ hx))
    have h1 : ∀ v, (a :: L).countP (fun x => f x == v) = L.countP (fun x => f x == v) + (if f a == v then 1 else 0) := fun v => List.countP_cons
    simp only [h1]
    rw [sumL_add, ← ih, List.length_cons]
    congr 1
    rw [sumL_one List.nodup_range (List.mem_range.2 (h a (List.mem_cons_self ..))) (fun x _ hx => by simp [Ne.symm hx])]
    simp
theorem allM_sorted (g n : Nat) : (Z.allM (g : Int) n).Pairwise fun a b => rkM g a ≤ rkM g b := by
  unfold Z.allM
  rw [Int.toNat_natCast, List.pairwise_flatMap]
  refine ⟨fun f _ => ?_, ?_⟩
  · rw [List.pairwise_flatMap]
    refine ⟨fun t _ => ?_, ?_⟩
    · rw [List.pairwise_map]
      exact List.Pairwise.imp_of_mem (fun {a b} _ _ _ => by simp [rkM]) List.nodup_range
    · refine List.Pairwise.imp_of_mem ?_ List.pairwise_lt_range
      intro a b _ _ hlt x hx y hy
      simp only [List.mem_map] at hx hy
      obtain ⟨_, _, rfl⟩ := hx
      obtain ⟨_, _, rfl⟩ := hy
      simp only [rkM]
      omega
  · simp only [List.pairwise_cons, List.mem_cons, List.not_mem_nil, or_false, List.Pairwise.nil, and_true]
    refine ⟨?_, fun _ h => h.elim⟩
    intro b hb x hx y hy
    subst hb
    simp only [List.mem_flatMap, List.mem_map, List.mem_range] at hx hy
    obtain ⟨t, ht, _, _, rfl⟩ := hx
    obtain ⟨_, _, _, _, rfl⟩ := hy
    simp [rkM]
    omega
/-- As many moves as steps, times the turns and mirrors that there are. -/
theorem kinds_count {g W H n : Nat} {cs : List Int} (hg : G (g : Int)) (hn : 0 < n) (hW : W ∣ n) (hH : H ∣ n) {a b : Nat} {c : Int} (hf : Fine (Stp (colP W H cs)) a b c) :
    (movesL W H cs g n).length * a * b = kdI (movesL W H cs g n) (movesL W H cs g n).length * n * n := by
  have grp := movesL_grp (cs := cs) (g := (g : Int)) hn hW hH
  have per := colP_per cs hW hH
  have hsort : (movesL W H cs g n).Pairwise fun a b => rkM g a ≤ rkM g b := List.Pairwise.filter _ (allM_sorted g n)
  have hst := steps_count grp hg hn per hf
  generalize movesL W H cs g n = L at *
  have hget : ∀ i, i < L.length → L.getD i idm ∈ L := fun i hi => by
    rw [List.getD_eq_getElem?_getD, List.getElem?_eq_getElem hi]; exact List.getElem_mem hi
  have ht : ∀ m ∈ L, m.t < g := fun m hm => by have := grp.ok hm; unfold okT at this; omega
  have hs : ∀ i j, i < j → j < L.length → rkM g (L.getD i idm) ≤ rkM g (L.getD j idm) := fun i j hij hj => by
    rw [List.pairwise_iff_getElem] at hsort
    have := hsort i j (by omega) hj hij
    rw [List.getD_eq_getElem?_getD, List.getElem?_eq_getElem (by omega), List.getD_eq_getElem?_getD, List.getElem?_eq_getElem hj]
    exact this
  have h1 := kd_count hs (fun i hi => ht _ (hget i hi)) L.length (Nat.le_refl _)
  have h2 := length_by g (rkM g) (2 * g) L (fun x hx => by have := ht x hx; unfold rkM; split <;> omega)
  have h3 : L.length = kdI L L.length * (torusL n).countP (stepB L) := by
    rw [h1, ← sumL_countP]
    refine h2.trans (sumL_congr fun v _ => ?_)
    cases hp : (List.range L.length).any fun j => rkM g (L.getD j idm) == v with
    | false =>
      rw [if_neg (by simp), List.countP_eq_zero]
      intro x hx e
      rw [List.any_eq_false] at hp
      obtain ⟨i, hi, rfl⟩ := List.mem_iff_getElem.1 hx
      refine hp i (List.mem_range.2 hi) ?_
      rw [List.getD_eq_getElem?_getD, List.getElem?_eq_getElem hi]
      exact e
    | true =>
      rw [if_pos rfl]
      rw [List.any_eq_true] at hp
      obtain ⟨j, hj, e⟩ := hp
      have hm := hget j (List.mem_range.1 hj)
      have e2 := eq_of_beq e
      rw [← block_count grp hg hn per hm]
      refine List.countP_congr fun x hx => ?_
      rw [keyB_iff, beq_iff_eq, ← e2, rkM_eq (ht x hx) (ht _ hm)]
  rw [Nat.mul_assoc]
  conv => lhs; rw [h3]
  rw [Nat.mul_assoc, hst, Nat.mul_assoc]
end Z
end Go.Proofs.Ytooilennejakhaa

namespace Go.Proofs.Ytooilennejakhaa.Z
set_option linter.unusedVariables false
set_option linter.unusedSimpArgs false
/-- A step among those that keep a pattern. -/
def latB (a b c : Int) (z : Pt) : Bool := decide (z.2 % b = 0) && decide ((z.1 - z.2 / b * c) % a = 0)
theorem latB_iff {a b c : Int} {z : Pt} : latB a b c z = true ↔ b ∣ z.2 ∧ a ∣ z.1 - z.2 / b * c := by
  unfold latB
  rw [Bool.and_eq_true, decide_eq_true_eq, decide_eq_true_eq]
  exact ⟨fun h => ⟨Int.dvd_of_emod_eq_zero h.1, Int.dvd_of_emod_eq_zero h.2⟩, fun h => ⟨Int.emod_eq_zero_of_dvd h.1, Int.emod_eq_zero_of_dvd h.2⟩⟩
theorem latB_stp {col : Pt → Int} {a b c : Int} (h : Fine (Stp col) a b c) (z : Pt) : latB a b c z = true ↔ Stp col z := by
  rw [latB_iff, h.spec (stp_sub col)]
/-- A flip of one turn about 0. -/
def rf (g : Int) (t : Nat) (z : Pt) : Pt := lin g t true z
theorem rf_rf {g : Int} (hg : G g) (t : Nat) (z : Pt) : rf g t (rf g t z) = z := by
  unfold rf lin mir
  simp only [if_true]
  rw [tn_conj hg, conj_conj]
theorem rf_add (g : Int) (t : Nat) (y z : Pt) : rf g t (add y z) = add (rf g t y) (rf g t z) := lin_add _ _ _ _ _
theorem rf_sml (g k : Int) (t : Nat) (z : Pt) : rf g t (sml k z) = sml k (rf g t z) := lin_sml _ _ _ _ _
/-- How far a step gets along a flip's line, there and mirrored. -/
def al (g : Int) (t : Nat) (z : Pt) : Pt := add z (rf g t z)
theorem al_fix {g : Int} (hg : G g) (t : Nat) (z : Pt) : rf g t (al g t z) = al g t z := by
  unfold al
  rw [rf_add, rf_rf hg]
  apply ext2 <;> simp [add] <;> omega
/-- What a flip of each turn is, written out. -/
theorem rf4 (t : Nat) (ht : t < 4) (x y : Int) : rf 4 t (x, y) = if t = 0 then (x, -y) else if t = 1 then (y, x) else if t = 2 then (-x, y) else (-y, -x) := by
  have h4 : t = 0 ∨ t = 1 ∨ t = 2 ∨ t = 3 := by omega
  rcases h4 with rfl | rfl | rfl | rfl <;> (apply ext2 <;> simp [rf, lin, mir, conj, miX, tn, turn])
theorem rf6 (t : Nat) (ht : t < 6) (x y : Int) : rf 6 t (x, y) = if t = 0 then (x + y, -y) else if t = 1 then (y, x) else if t = 2 then (-x, x + y) else if t = 3 then (-x - y, y) else if t = 4 then (-y, -x) else (x, -x - y) := by
  have h6 : t = 0 ∨ t = 1 ∨ t = 2 ∨ t = 3 ∨ t = 4 ∨ t = 5 := by omega
  rcases h6 with rfl | rfl | rfl | rfl | rfl | rfl <;> (apply ext2 <;> simp [rf, lin, mir, conj, miX, tn, turn] <;> omega)
/-- Bounds. -/
theorem rf_bd {g : Int} (hg : G g) {t : Nat} (ht : t < g.toNat) {x y B : Int} (h : -B ≤ x ∧ x ≤ B ∧ -B ≤ y ∧ y ≤ B) : -(2 * B) ≤ (rf g t (x, y)).1 ∧ (rf g t (x, y)).1 ≤ 2 * B ∧ -(2 * B) ≤ (rf g t (x, y)).2 ∧ (rf g t (x, y)).2 ≤ 2 * B := by
  rcases hg with rfl | rfl
  · rw [rf4 t ht]
    (repeat' split) <;> simp only <;> omega
  · rw [rf6 t ht]
    (repeat' split) <;> simp only <;> omega
theorem al_lin (g : Int) (t : Nat) (x y : Int) : al g t (x, y) = add (sml x (al g t (1, 0))) (sml y (al g t (0, 1))) := by
  unfold al
  have e : (x, y) = add (sml x (1, 0)) (sml y (0, 1)) := by apply ext2 <;> simp [add, sml]
  have e2 : rf g t (x, y) = add (sml x (rf g t (1, 0))) (sml y (rf g t (0, 1))) := by
    conv => lhs; rw [e]
    rw [rf_add, rf_sml, rf_sml]
  rw [e2]
  apply ext2 <;> simp [add, sml, Int.mul_add] <;> omega
theorem al_some {g : Int} (hg : G g) {t : Nat} (ht : t < g.toNat) : al g t (1, 0) ≠ (0, 0) ∨ al g t (0, 1) ≠ (0, 0) := by
  rcases hg with rfl | rfl
  · have : ∀ t : Fin 4, al 4 t.val (1, 0) ≠ (0, 0) ∨ al 4 t.val (0, 1) ≠ (0, 0) := by decide +kernel
    exact this ⟨t, ht⟩
  · have : ∀ t : Fin 6, al 6 t.val (1, 0) ≠ (0, 0) ∨ al 6 t.val (0, 1) ≠ (0, 0) := by decide +kernel
    exact this ⟨t, ht⟩
/-- One of the two steps gets somewhere. -/
theorem al_one {g : Int} (hg : G g) {t : Nat} (ht : t < g.toNat) {a b c : Int} (ha : 0 < a) (hb : 0 < b) (h0 : al g t (a, 0) = (0, 0)) : al g t (c, b) ≠ (0, 0) := by
  intro h1
  rw [al_lin] at h0 h1
  have e0 : al g t (1, 0) = (0, 0) := by
    have p : a * (al g t (1, 0)).1 + 0 * (al g t (0, 1)).1 = 0 := congrArg Prod.fst h0
    have q : a * (al g t (1, 0)).2 + 0 * (al g t (0, 1)).2 = 0 := congrArg Prod.snd h0
    rw [Int.zero_mul, Int.add_zero] at p q
    exact ext2 ((Int.mul_eq_zero.1 p).resolve_left (by omega)) ((Int.mul_eq_zero.1 q).resolve_left (by omega))
  rw [e0] at h1
  have e1 : al g t (0, 1) = (0, 0) := by
    have p : c * 0 + b * (al g t (0, 1)).1 = 0 := congrArg Prod.fst h1
    have q : c * 0 + b * (al g t (0, 1)).2 = 0 := congrArg Prod.snd h1
    rw [Int.mul_zero, Int.zero_add] at p q
    exact ext2 ((Int.mul_eq_zero.1 p).resolve_left (by omega)) ((Int.mul_eq_zero.1 q).resolve_left (by omega))
  rcases al_some hg ht with h | h
  · exact h e0
  · exact h e1
/-- Steps that keep a pattern, mirrored by what keeps it, keep it. -/
theorem stp_lin {g : Int} (hg : G g) {col : Pt → Int} {m : Mv} (hm : okT g m) (hk : Keep g col m) {z : Pt} (hz : Stp col z) : Stp col (lin g m.t m.f z) := by
  intro p
  have hi := both_inv hg hm
  have e : To g m (To g (inv g m) p) = p := by rw [← To_both hg (inv_ok hg hm), hi.2, To_idm]
  generalize To g (inv g m) p = q at e
  subst e
  have e2 : add (To g m q) (lin g m.t m.f z) = To g m (add q z) := by
    unfold To
    rw [lin_add]
    apply ext2 <;> simp [add] <;> omega
  rw [e2, hk, hz, hk]
theorem stp_al {g : Int} (hg : G g) {col : Pt → Int} {m : Mv} (hm : okT g m) (hk : Keep g col m) (hf : m.f = true) {z : Pt} (hz : Stp col z) : Stp col (al g m.t z) := by
  have := stp_lin hg hm hk hz
  rw [hf] at this
  exact (stp_sub col).add _ _ hz this
/-- Is v n times a step? -/
def dvN (a b c : Int) (v : Pt) (n : Nat) : Bool := decide (v.1 % (n : Int) = 0) && decide (v.2 % (n : Int) = 0) && latB a b c (v.1 / (n : Int), v.2 / (n : Int))
/-- The greatest such n. -/
def shoN (a b c : Int) (v : Pt) : Nat → Nat
  | 0 => 0
  | n + 1 => if dvN a b c v (n + 1) then n + 1 else shoN a b c v n
def szP (v : Pt) : Nat := v.1.natAbs + v.2.natAbs
/-- The shortest step along v. -/
def shoP (a b c : Int) (v : Pt) : Pt := (v.1 / ((shoN a b c v (szP v) : Nat) : Int), v.2 / ((shoN a b c v (szP v) : Nat) : Int))
theorem shoN_spec {a b c : Int} {v : Pt} (h1 : dvN a b c v 1 = true) : ∀ n, 1 ≤ n → 1 ≤ shoN a b c v n ∧ shoN a b c v n ≤ n ∧ dvN a b c v (shoN a b c v n) = true
  | 0, h => by omega
  | n + 1, _ => by
    rw [shoN]
    split
    · rename_i h
      exact ⟨by omega, Nat.le_refl _, h⟩
    · rename_i h
      by_cases hn : n = 0
      · subst hn
        exact absurd h1 h
      · have := shoN_spec h1 n (by omega)
        exact ⟨this.1, by omega, this.2.2⟩
theorem dvN_one {a b c : Int} {v : Pt} (h : latB a b c v = true) : dvN a b c v 1 = true := by
  unfold dvN
  simp [Int.emod_one, Int.ediv_one]
  exact h
theorem szP_pos {v : Pt} (h : v ≠ (0, 0)) : 1 ≤ szP v := by
  unfold szP
  by_cases h1 : v.1 = 0
  · by_cases h2 : v.2 = 0
    · exact absurd (ext2 h1 h2) h
    · omega
  · omega
theorem shoP_spec {a b c : Int} {v : Pt} (hv : v ≠ (0, 0)) (h : latB a b c v = true) : latB a b c (shoP a b c v) = true ∧ shoP a b c v ≠ (0, 0) ∧ ∃ n : Nat, 1 ≤ n ∧ v = sml n (shoP a b c v) := by
  obtain ⟨h1, h2, h3⟩ := shoN_spec (dvN_one h) (szP v) (szP_pos hv)
  unfold dvN at h3
  rw [Bool.and_eq_true, Bool.and_eq_true, decide_eq_true_eq, decide_eq_true_eq] at h3
  obtain ⟨⟨h3, h4⟩, h5⟩ := h3
  have e : v = sml ((shoN a b c v (szP v) : Nat) : Int) (shoP a b c v) := by
    unfold shoP
    apply ext2
    · simp only [sml]
      exact (Int.mul_ediv_cancel' (Int.dvd_of_emod_eq_zero h3)).symm
    · simp only [sml]
      exact (Int.mul_ediv_cancel' (Int.dvd_of_emod_eq_zero h4)).symm
  refine ⟨h5, fun h0 => ?_, _, h1, e⟩
  rw [h0] at e
  exact hv (by rw [e]; apply ext2 <;> simp [sml])
/-- How often a step is in another one of its line. -/
def tms (z p : Pt) : Int := if p.1 ≠ 0 then Int.tdiv z.1 p.1 else Int.tdiv z.2 p.2
/-- What a flip is, and all those that differ from it by steps: mirrors, glides. -/
def wayP (g a b c : Int) (f : Mv) : Bool × Bool :=
  let a0 := al g f.t (a, 0)
  let a1 := al g f.t (c, b)
  let p := shoP a b c (if a0 = (0, 0) then a1 else a0)
  if Int.tmod (tms a0 p) 2 ≠ 0 ∨ Int.tmod (tms a1 p) 2 ≠ 0 then (true, true) else
    (decide (Int.tmod (tms (both g f f).o p) 2 = 0), !decide (Int.tmod (tms (both g f f).o p) 2 = 0))
/-- How often a pattern can be turned: the turns that are seen. -/
def turnS (T : List Nat) (f : Mv) : List Nat := if f.f = true ∨ f.t ∈ T then T else T ++ [f.t]
def turnsF (L : List Mv) : List Nat := L.foldl turnS []
/-- The ways that are seen, each of its first flip. -/
def wayS (g a b c : Int) (E : List (Nat × Bool × Bool)) (f : Mv) : List (Nat × Bool × Bool) := if f.f = false ∨ (E.any fun e => e.1 == f.t) = true then E else E ++ [(f.t, wayP g a b c f)]
def waysF (g a b c : Int) (L : List Mv) : List (Nat × Bool × Bool) := L.foldl (wayS g a b c) []
theorem turnS_nodup {T : List Nat} (h : T.Nodup) (f : Mv) : (turnS T f).Nodup := by
  unfold turnS
  split
  · exact h
  · rename_i hn
    rw [List.nodup_append]
    refine ⟨h, by simp, ?_⟩
    intro x hx y hy e
    simp at hy
    subst hy e
    exact hn (.inr hx)
theorem turnsF_snoc (L : List Mv) (f : Mv) : turnsF (L ++ [f]) = turnS (turnsF L) f := by
  unfold turnsF
  rw [List.foldl_append]
  rfl
theorem waysF_snoc (g a b c : Int) (L : List Mv) (f : Mv) : waysF g a b c (L ++ [f]) = wayS g a b c (waysF g a b c L) f := by
  unfold waysF
  rw [List.foldl_append]
  rfl
/-- The kind. -/
def kindP (tn : Nat) (al9 : Bool) (E : List (Nat × Bool × Bool)) : Int :=
  if tn = 1 then (if E = [] then 1 else if (∀ e ∈ E, e.2 = (true, false)) then 3 else if (∀ e ∈ E, e.2 = (false, true)) then 4 else 5)
  else if tn = 2 then (if E = [] then 2 else if (∀ e ∈ E, e.2 = (true, false)) then 6 else if (∀ e ∈ E, e.2 = (false, true)) then 8 else if (∀ e ∈ E, e.2 = (true, true)) then 9 else 7)
  else if tn = 3 then (if E = [] then 13 else if al9 = true then 15 else 14)
  else if tn = 4 then (if E = [] then 10 else if (∀ e ∈ E, e.2.1 = true) then 11 else 12)
  else if E = [] then 16 else 17
end Go.Proofs.Ytooilennejakhaa.Z
