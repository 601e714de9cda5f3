/- Lemmas and contracts of functions (what each call returns, and that it changes nothing that was there) that the proof of a law of this seat uses; each lemma states its own conditions. -/
import Derived.Test.YtooilennejakhaaB05
import Derived.Test.YtooilennejakhaaB01
import Derived.Deep.OwnRows
namespace Go.Proofs.Ytooilennejakhaa
open Go.RowKit
set_option linter.unusedVariables false
set_option linter.unusedSimpArgs false
namespace Z
def rkM (g : Nat) (m : Mv) : Nat := (if m.f then g else 0) + m.t
/-- Does a kind begin at i? -/
def newK (L : List Mv) (i : Nat) : Bool := i == 0 || (L.getD (i - 1) idm).f != (L.getD i idm).f || (L.getD (i - 1) idm).t != (L.getD i idm).t
def kdI (L : List Mv) : Nat → Nat
  | 0 => 0
  | i + 1 => kdI L i + if newK L i then 1 else 0
theorem countP_or_one {l : List Nat} (hl : l.Nodup) (p : Nat → Bool) {r : Nat} (hr : r ∈ l) (hp : p r = false) : l.countP (fun v => p v || r == v) = l.countP p + 1 := by
  rw [countP_sum, countP_sum]
  have h1 : sumL l (fun v => if r == v then 1 else 0) = 1 := by
    rw [sumL_one hl hr (fun x _ hx => by simp [Ne.symm hx])]
    simp
  refine Eq.trans ?_ (congrArg (fun z => sumL l (fun v => if p v then 1 else 0) + z) h1)
  rw [← sumL_add]
  refine sumL_congr fun v _ => ?_
  by_cases e : r = v
  · subst e; simp [hp]
  · simp [e]
theorem rkM_eq {g : Nat} {a b : Mv} (ha : a.t < g) (hb : b.t < g) : rkM g a = rkM g b ↔ a.t = b.t ∧ a.f = b.f := by
  unfold rkM
  cases a.f <;> cases b.f <;> simp <;> omega
theorem kd_count {g : Nat} {L : List Mv} (hs : ∀ i j, i < j → j < L.length → rkM g (L.getD i idm) ≤ rkM g (L.getD j idm)) (ht : ∀ i, i < L.length → (L.getD i idm).t < g) :
    ∀ i, i ≤ L.length → kdI L i = (List.range (2 * g)).countP fun v => (List.range i).any fun j => rkM g (L.getD j idm) == v
  | 0, _ => by simp [kdI]
  | i + 1, hi => by
    have ih := kd_count hs ht i (by omega)
    have hti := ht i (by omega)
    simp only [kdI]
    rw [ih]
    have hstep : ∀ v, ((List.range (i + 1)).any fun j => rkM g (L.getD j idm) == v) = (((List.range i).any fun j => rkM g (L.getD j idm) == v) || rkM g (L.getD i idm) == v) := fun v => by
      rw [List.range_succ, List.any_append]; simp
    simp only [hstep]
    cases hk : newK L i with
    | true =>
      rw [if_pos rfl, countP_or_one List.nodup_range]
      · rw [List.mem_range]; unfold rkM; split <;> omega
      · rw [List.any_eq_false]
        intro j hj e
        rw [List.mem_range] at hj
        have e2 := eq_of_beq e
        have h1 := hs j i hj (by omega)
        have h2 : i ≠ 0 := by omega
        have h3 : rkM g (L.getD (i - 1) idm) = rkM g (L.getD i idm) := by
          rcases Nat.lt_or_ge j (i - 1) with h | h
          · have h4 := hs j (i - 1) h (by omega)
            have h5 := hs (i - 1) i (by omega) (by omega)
            omega
          · obtain rfl : j = i - 1 := by omega
            exact e2
        obtain ⟨h6, h7⟩ := (rkM_eq (ht (i - 1) (by omega)) hti).1 h3
        unfold newK at hk
        rw [h6, h7] at hk
        simp at hk
        exact h2 hk
    | false =>
      rw [if_neg (by simp), Nat.add_zero]
      refine (List.countP_congr fun v _ => ?_).symm
      unfold newK at hk
      simp only [Bool.or_eq_false_iff, bne_eq_false_iff_eq, beq_eq_false_iff_ne] at hk
      obtain ⟨⟨h0, h1⟩, h2⟩ := hk
      have h3 : rkM g (L.getD (i - 1) idm) = rkM g (L.getD i idm) := (rkM_eq (ht (i - 1) (by omega)) hti).2 ⟨h2, h1⟩
      constructor
      · intro h
        rw [Bool.or_eq_true] at h
        rcases h with h | h
        · exact h
        · rw [List.any_eq_true]
          exact ⟨i - 1, List.mem_range.2 (by omega), by rw [h3]; exact h⟩
      · intro h
        rw [Bool.or_eq_true]
        exact .inl h
theorem length_by (g : Nat) (f : Mv → Nat) (m : Nat) : ∀ L : List Mv, (∀ x ∈ L, f x < m) → L.length = sumL (List.range m) fun v => L.countP fun x => f x == v
  | [], _ => by rw [sumL_zero]; rfl; intro x _; rfl
  | a :: L, h => by
    have ih := length_by g f m L (fun x hx => h x (List.mem_cons_of_mem _ hx))
    have h1 : ∀ v, (a :: L).countP (fun x => f x == v) = L.countP (fun x => f x == v) + (if f a == v then 1 else 0) := fun v => List.countP_cons
    simp only [h1]
    rw [sumL_add, ← ih, List.length_cons]
    congr 1
    rw [sumL_one List.nodup_range (List.mem_range.2 (h a (List.mem_cons_self ..))) (fun x _ hx => by simp [Ne.symm hx])]
    simp
theorem allM_sorted (g n : Nat) : (Z.allM (g : Int) n).Pairwise fun a b => rkM g a ≤ rkM g b := by
  unfold Z.allM
  rw [Int.toNat_natCast, List.pairwise_flatMap]
  refine ⟨fun f _ => ?_, ?_⟩
  · rw [List.pairwise_flatMap]
    refine ⟨fun t _ => ?_, ?_⟩
    · rw [List.pairwise_map]
      exact List.Pairwise.imp_of_mem (fun {a b} _ _ _ => by simp [rkM]) List.nodup_range
    · refine List.Pairwise.imp_of_mem ?_ List.pairwise_lt_range
      intro a b _ _ hlt x hx y hy
      simp only [List.mem_map] at hx hy
      obtain ⟨_, _, rfl⟩ := hx
      obtain ⟨_, _, rfl⟩ := hy
      simp only [rkM]
      omega
  · simp only [List.pairwise_cons, List.mem_cons, List.not_mem_nil, or_false, List.Pairwise.nil, and_true]
    refine ⟨?_, fun _ h => h.elim⟩
    intro b hb x hx y hy
    subst hb
    simp only [List.mem_flatMap, List.mem_map, List.mem_range] at hx hy
    obtain ⟨t, ht, _, _, rfl⟩ := hx
    obtain ⟨_, _, _, _, rfl⟩ := hy
    simp [rkM]
    omega
/-- As many moves as steps, times the turns and mirrors that there are. -/
theorem kinds_count {g W H n : Nat} {cs : List Int} (hg : G (g : Int)) (hn : 0 < n) (hW : W ∣ n) (hH : H ∣ n) {a b : Nat} {c : Int} (hf : Fine (Stp (colP W H cs)) a b c) :
    (movesL W H cs g n).length * a * b = kdI (movesL W H cs g n) (movesL W H cs g n).length * n * n := by
  have grp := movesL_grp (cs := cs) (g := (g : Int)) hn hW hH
  have per := colP_per cs hW hH
  have hsort : (movesL W H cs g n).Pairwise fun a b => rkM g a ≤ rkM g b := List.Pairwise.filter _ (allM_sorted g n)
  have hst := steps_count grp hg hn per hf
  generalize movesL W H cs g n = L at *
  have hget : ∀ i, i < L.length → L.getD i idm ∈ L := fun i hi => by
    rw [List.getD_eq_getElem?_getD, List.getElem?_eq_getElem hi]; exact List.getElem_mem hi
  have ht : ∀ m ∈ L, m.t < g := fun m hm => by have := grp.ok hm; unfold okT at this; omega
  have hs : ∀ i j, i < j → j < L.length → rkM g (L.getD i idm) ≤ rkM g (L.getD j idm) := fun i j hij hj => by
    rw [List.pairwise_iff_getElem] at hsort
    have := hsort i j (by omega) hj hij
    rw [List.getD_eq_getElem?_getD, List.getElem?_eq_getElem (by omega), List.getD_eq_getElem?_getD, List.getElem?_eq_getElem hj]
    exact this
  have h1 := kd_count hs (fun i hi => ht _ (hget i hi)) L.length (Nat.le_refl _)
  have h2 := length_by g (rkM g) (2 * g) L (fun x hx => by have := ht x hx; unfold rkM; split <;> omega)
  have h3 : L.length = kdI L L.length * (torusL n).countP (stepB L) := by
    rw [h1, ← sumL_countP]
    refine h2.trans (sumL_congr fun v _ => ?_)
    cases hp : (List.range L.length).any fun j => rkM g (L.getD j idm) == v with
    | false =>
      rw [if_neg (by simp), List.countP_eq_zero]
      intro x hx e
      rw [List.any_eq_false] at hp
      obtain ⟨i, hi, rfl⟩ := List.mem_iff_getElem.1 hx
      refine hp i (List.mem_range.2 hi) ?_
      rw [List.getD_eq_getElem?_getD, List.getElem?_eq_getElem hi]
      exact e
    | true =>
      rw [if_pos rfl]
      rw [List.any_eq_true] at hp
      obtain ⟨j, hj, e⟩ := hp
      have hm := hget j (List.mem_range.1 hj)
      have e2 := eq_of_beq e
      rw [← block_count grp hg hn per hm]
      refine List.countP_congr fun x hx => ?_
      rw [keyB_iff, beq_iff_eq, ← e2, rkM_eq (ht x hx) (ht _ hm)]
  rw [Nat.mul_assoc]
  conv => lhs; rw [h3]
  rw [Nat.mul_assoc, hst, Nat.mul_assoc]
end Z
end Go.Proofs.Ytooilennejakhaa

namespace Go.Proofs.Ytooilennejakhaa.Z
set_option linter.unusedVariables false
set_option linter.unusedSimpArgs false
/-- A step among those that keep a pattern. -/
def latB (a b c : Int) (z : Pt) : Bool := decide (z.2 % b = 0) && decide ((z.1 - z.2 / b * c) % a = 0)
theorem latB_iff {a b c : Int} {z : Pt} : latB a b c z = true ↔ b ∣ z.2 ∧ a ∣ z.1 - z.2 / b * c := by
  unfold latB
  rw [Bool.and_eq_true, decide_eq_true_eq, decide_eq_true_eq]
  exact ⟨fun h => ⟨Int.dvd_of_emod_eq_zero h.1, Int.dvd_of_emod_eq_zero h.2⟩, fun h => ⟨Int.emod_eq_zero_of_dvd h.1, Int.emod_eq_zero_of_dvd h.2⟩⟩
theorem latB_stp {col : Pt → Int} {a b c : Int} (h : Fine (Stp col) a b c) (z : Pt) : latB a b c z = true ↔ Stp col z := by
  rw [latB_iff, h.spec (stp_sub col)]
/-- A flip of one turn about 0. -/
def rf (g : Int) (t : Nat) (z : Pt) : Pt := lin g t true z
theorem rf_rf {g : Int} (hg : G g) (t : Nat) (z : Pt) : rf g t (rf g t z) = z := by
  unfold rf lin mir
  simp only [if_true]
  rw [tn_conj hg, conj_conj]
theorem rf_add (g : Int) (t : Nat) (y z : Pt) : rf g t (add y z) = add (rf g t y) (rf g t z) := lin_add _ _ _ _ _
theorem rf_sml (g k : Int) (t : Nat) (z : Pt) : rf g t (sml k z) = sml k (rf g t z) := lin_sml _ _ _ _ _
/-- How far a step gets along a flip's line, there and mirrored. -/
def al (g : Int) (t : Nat) (z : Pt) : Pt := add z (rf g t z)
theorem al_fix {g : Int} (hg : G g) (t : Nat) (z : Pt) : rf g t (al g t z) = al g t z := by
  unfold al
  rw [rf_add, rf_rf hg]
  apply ext2 <;> simp [add] <;> omega
/-- What a flip of each turn is, written out. -/
theorem rf4 (t : Nat) (ht : t < 4) (x y : Int) : rf 4 t (x, y) = if t = 0 then (x, -y) else if t = 1 then (y, x) else if t = 2 then (-x, y) else (-y, -x) := by
  have h4 : t = 0 ∨ t = 1 ∨ t = 2 ∨ t = 3 := by omega
  rcases h4 with rfl | rfl | rfl | rfl <;> (apply ext2 <;> simp [rf, lin, mir, conj, miX, tn, turn])
theorem rf6 (t : Nat) (ht : t < 6) (x y : Int) : rf 6 t (x, y) = if t = 0 then (x + y, -y) else if t = 1 then (y, x) else if t = 2 then (-x, x + y) else if t = 3 then (-x - y, y) else if t = 4 then (-y, -x) else (x, -x - y) := by
  have h6 : t = 0 ∨ t = 1 ∨ t = 2 ∨ t = 3 ∨ t = 4 ∨ t = 5 := by omega
  rcases h6 with rfl | rfl | rfl | rfl | rfl | rfl <;> (apply ext2 <;> simp [rf, lin, mir, conj, miX, tn, turn] <;> omega)
/-- Bounds. -/
theorem rf_bd {g : Int} (hg : G g) {t : Nat} (ht : t < g.toNat) {x y B : Int} (h : -B ≤ x ∧ x ≤ B ∧ -B ≤ y ∧ y ≤ B) : -(2 * B) ≤ (rf g t (x, y)).1 ∧ (rf g t (x, y)).1 ≤ 2 * B ∧ -(2 * B) ≤ (rf g t (x, y)).2 ∧ (rf g t (x, y)).2 ≤ 2 * B := by
  rcases hg with rfl | rfl
  · rw [rf4 t ht]
    (repeat' split) <;> simp only <;> omega
  · rw [rf6 t ht]
    (repeat' split) <;> simp only <;> omega
theorem al_lin (g : Int) (t : Nat) (x y : Int) : al g t (x, y) = add (sml x (al g t (1, 0))) (sml y (al g t (0, 1))) := by
  unfold al
  have e : (x, y) = add (sml x (1, 0)) (sml y (0, 1)) := by apply ext2 <;> simp [add, sml]
  have e2 : rf g t (x, y) = add (sml x (rf g t (1, 0))) (sml y (rf g t (0, 1))) := by
    conv => lhs; rw [e]
    rw [rf_add, rf_sml, rf_sml]
  rw [e2]
  apply ext2 <;> simp [add, sml, Int.mul_add] <;> omega
theorem al_some {g : Int} (hg : G g) {t : Nat} (ht : t < g.toNat) : al g t (1, 0) ≠ (0, 0) ∨ al g t (0, 1) ≠ (0, 0) := by
  rcases hg with rfl | rfl
  · have : ∀ t : Fin 4, al 4 t.val (1, 0) ≠ (0, 0) ∨ al 4 t.val (0, 1) ≠ (0, 0) := by decide +kernel
    exact this ⟨t, ht⟩
  · have : ∀ t : Fin 6, al 6 t.val (1, 0) ≠ (0, 0) ∨ al 6 t.val (0, 1) ≠ (0, 0) := by decide +kernel
    exact this ⟨t, ht⟩
/-- One of the two steps gets somewhere. -/
theorem al_one {g : Int} (hg : G g) {t : Nat} (ht : t < g.toNat) {a b c : Int} (ha : 0 < a) (hb : 0 < b) (h0 : al g t (a, 0) = (0, 0)) : al g t (c, b) ≠ (0, 0) := by
  intro h1
  rw [al_lin] at h0 h1
  have e0 : al g t (1, 0) = (0, 0) := by
    have p : a * (al g t (1, 0)).1 + 0 * (al g t (0, 1)).1 = 0 := congrArg Prod.fst h0
    have q : a * (al g t (1, 0)).2 + 0 * (al g t (0, 1)).2 = 0 := congrArg Prod.snd h0
    rw [Int.zero_mul, Int.add_zero] at p q
    exact ext2 ((Int.mul_eq_zero.1 p).resolve_left (by omega)) ((Int.mul_eq_zero.1 q).resolve_left (by omega))
  rw [e0] at h1
  have e1 : al g t (0, 1) = (0, 0) := by
    have p : c * 0 + b * (al g t (0, 1)).1 = 0 := congrArg Prod.fst h1
    have q : c * 0 + b * (al g t (0, 1)).2 = 0 := congrArg Prod.snd h1
    rw [Int.mul_zero, Int.zero_add] at p q
    exact ext2 ((Int.mul_eq_zero.1 p).resolve_left (by omega)) ((Int.mul_eq_zero.1 q).resolve_left (by omega))
  rcases al_some hg ht with h | h
  · exact h e0
  · exact h e1
/-- Steps that keep a pattern, mirrored by what keeps it, keep it. -/
theorem stp_lin {g : Int} (hg : G g) {col : Pt → Int} {m : Mv} (hm : okT g m) (hk : Keep g col m) {z : Pt} (hz : Stp col z) : Stp col (lin g m.t m.f z) := by
  intro p
  have hi := both_inv hg hm
  have e : To g m (To g (inv g m) p) = p := by rw [← To_both hg (inv_ok hg hm), hi.2, To_idm]
  generalize To g (inv g m) p = q at e
  subst e
  have e2 : add (To g m q) (lin g m.t m.f z) = To g m (add q z) := by
    unfold To
    rw [lin_add]
    apply ext2 <;> simp [add] <;> omega
  rw [e2, hk, hz, hk]
theorem stp_al {g : Int} (hg : G g) {col : Pt → Int} {m : Mv} (hm : okT g m) (hk : Keep g col m) (hf : m.f = true) {z : Pt} (hz : Stp col z) : Stp col (al g m.t z) := by
  have := stp_lin hg hm hk hz
  rw [hf] at this
  exact (stp_sub col).add _ _ hz this
/-- Is v n times a step? -/
def dvN (a b c : Int) (v : Pt) (n : Nat) : Bool := decide (v.1 % (n : Int) = 0) && decide (v.2 % (n : Int) = 0) && latB a b c (v.1 / (n : Int), v.2 / (n : Int))
/-- The greatest such n. -/
def shoN (a b c : Int) (v : Pt) : Nat → Nat
  | 0 => 0
  | n + 1 => if dvN a b c v (n + 1) then n + 1 else shoN a b c v n
def szP (v : Pt) : Nat := v.1.natAbs + v.2.natAbs
/-- The shortest step along v. -/
def shoP (a b c : Int) (v : Pt) : Pt := (v.1 / ((shoN a b c v (szP v) : Nat) : Int), v.2 / ((shoN a b c v (szP v) : Nat) : Int))
theorem shoN_spec {a b c : Int} {v : Pt} (h1 : dvN a b c v 1 = true) : ∀ n, 1 ≤ n → 1 ≤ shoN a b c v n ∧ shoN a b c v n ≤ n ∧ dvN a b c v (shoN a b c v n) = true
  | 0, h => by omega
  | n + 1, _ => by
    rw [shoN]
    split
    · rename_i h
      exact ⟨by omega, Nat.le_refl _, h⟩
    · rename_i h
      by_cases hn : n = 0
      · subst hn
        exact absurd h1 h
      · have := shoN_spec h1 n (by omega)
        exact ⟨this.1, by omega, this.2.2⟩
theorem dvN_one {a b c : Int} {v : Pt} (h : latB a b c v = true) : dvN a b c v 1 = true := by
  unfold dvN
  simp [Int.emod_one, Int.ediv_one]
  exact h
theorem szP_pos {v : Pt} (h : v ≠ (0, 0)) : 1 ≤ szP v := by
  unfold szP
  by_cases h1 : v.1 = 0
  · by_cases h2 : v.2 = 0
    · exact absurd (ext2 h1 h2) h
    · omega
  · omega
theorem shoP_spec {a b c : Int} {v : Pt} (hv : v ≠ (0, 0)) (h : latB a b c v = true) : latB a b c (shoP a b c v) = true ∧ shoP a b c v ≠ (0, 0) ∧ ∃ n : Nat, 1 ≤ n ∧ v = sml n (shoP a b c v) := by
  obtain ⟨h1, h2, h3⟩ := shoN_spec (dvN_one h) (szP v) (szP_pos hv)
  unfold dvN at h3
  rw [Bool.and_eq_true, Bool.and_eq_true, decide_eq_true_eq, decide_eq_true_eq] at h3
  obtain ⟨⟨h3, h4⟩, h5⟩ := h3
  have e : v = sml ((shoN a b c v (szP v) : Nat) : Int) (shoP a b c v) := by
    unfold shoP
    apply ext2
    · simp only [sml]
      exact (Int.mul_ediv_cancel' (Int.dvd_of_emod_eq_zero h3)).symm
    · simp only [sml]
      exact (Int.mul_ediv_cancel' (Int.dvd_of_emod_eq_zero h4)).symm
  refine ⟨h5, fun h0 => ?_, _, h1, e⟩
  rw [h0] at e
  exact hv (by rw [e]; apply ext2 <;> simp [sml])
/-- How often a step is in another one of its line. -/
def tms (z p : Pt) : Int := if p.1 ≠ 0 then Int.tdiv z.1 p.1 else Int.tdiv z.2 p.2
/-- What a flip is, and all those that differ from it by steps: mirrors, glides. -/
def wayP (g a b c : Int) (f : Mv) : Bool × Bool :=
  let a0 := al g f.t (a, 0)
  let a1 := al g f.t (c, b)
  let p := shoP a b c (if a0 = (0, 0) then a1 else a0)
  if Int.tmod (tms a0 p) 2 ≠ 0 ∨ Int.tmod (tms a1 p) 2 ≠ 0 then (true, true) else
    (decide (Int.tmod (tms (both g f f).o p) 2 = 0), !decide (Int.tmod (tms (both g f f).o p) 2 = 0))
/-- How often a pattern can be turned: the turns that are seen. -/
def turnS (T : List Nat) (f : Mv) : List Nat := if f.f = true ∨ f.t ∈ T then T else T ++ [f.t]
def turnsF (L : List Mv) : List Nat := L.foldl turnS []
/-- The ways that are seen, each of its first flip. -/
def wayS (g a b c : Int) (E : List (Nat × Bool × Bool)) (f : Mv) : List (Nat × Bool × Bool) := if f.f = false ∨ (E.any fun e => e.1 == f.t) = true then E else E ++ [(f.t, wayP g a b c f)]
def waysF (g a b c : Int) (L : List Mv) : List (Nat × Bool × Bool) := L.foldl (wayS g a b c) []
theorem turnS_nodup {T : List Nat} (h : T.Nodup) (f : Mv) : (turnS T f).Nodup := by
  unfold turnS
  split
  · exact h
  · rename_i hn
    rw [List.nodup_append]
    refine ⟨h, by simp, ?_⟩
    intro x hx y hy e
    simp at hy
    subst hy e
    exact hn (.inr hx)
theorem turnsF_snoc (L : List Mv) (f : Mv) : turnsF (L ++ [f]) = turnS (turnsF L) f := by
  unfold turnsF
  rw [List.foldl_append]
  rfl
theorem waysF_snoc (g a b c : Int) (L : List Mv) (f : Mv) : waysF g a b c (L ++ [f]) = wayS g a b c (waysF g a b c L) f := by
  unfold waysF
  rw [List.foldl_append]
  rfl
/-- The kind. -/
def kindP (tn : Nat) (al9 : Bool) (E : List (Nat × Bool × Bool)) : Int :=
  if tn = 1 then (if E = [] then 1 else if (∀ e ∈ E, e.2 = (true, false)) then 3 else if (∀ e ∈ E, e.2 = (false, true)) then 4 else 5)
  else if tn = 2 then (if E = [] then 2 else if (∀ e ∈ E, e.2 = (true, false)) then 6 else if (∀ e ∈ E, e.2 = (false, true)) then 8 else if (∀ e ∈ E, e.2 = (true, true)) then 9 else 7)
  else if tn = 3 then (if E = [] then 13 else if al9 = true then 15 else 14)
  else if tn = 4 then (if E = [] then 10 else if (∀ e ∈ E, e.2.1 = true) then 11 else 12)
  else if E = [] then 16 else 17
end Go.Proofs.Ytooilennejakhaa.Z

namespace Go.Proofs.Ytooilennejakhaa
open Go.RowKit
set_option linter.unusedVariables false
set_option linter.unusedSimpArgs false
/-- t is the type of slices of e, an element of 'size' cells and 'bytes' bytes, zero z. -/
def ElemOk (t e size bytes : Nat) (z : Value) : Prop :=
  Try.prog.underlying t = some (.slice e) ∧ (Try.prog.info? e).map (fun i => (i.zero, i.size, i.bytes)) = some (some z, size, bytes) ∧ z.cells.size = size ∧ 0 < size
theorem belowGrown {B : Nat} {W w' : World} {v : Value} (hg : W.grownBy w' v.ownBlock) (hB : B ≤ W.heap.size) (hr : ∀ k, v.ownBlock = some k → B ≤ k) : Below B W w' :=
  (Below.refl B W).grown hg hB hr
/-- 'append(s, x)' of one element x, whose cells are cs. -/
theorem wpApp {W : World} {ops : Array Oper} {rest : List Oper} {o : Oper} {a : Act} {Q : Exit → Act → World → Prop} {t e size bytes : Nat} {z : Value} (hE : ElemOk t e size bytes z)
    (hgd : o.guard = none) (s x : Operand) (ho : o.op = .call { callee := .builtin .append, args := #[s, x], argTypes := #[t, t] })
    (base : Nat) (v : Value) (n : Nat) (xs : List Value) (cs : Array Value) (hs : a.eval s = v) (hown : W.ownsRow base e size v n xs)
    (hx : a.eval x = .slice (some ⟨W.heap.size, 0, none⟩) 1 1) (hl : cs.size = size) (h1 : ∀ u ∈ cs.toList, u.oneCell' = true)
    (hb : bytes ≤ 4096) (hn : n ≤ 1000000000) (hbase : base ≤ W.heap.size)
    (h : ∀ v' w', w'.ownsRow base e size v' (n + 1) (xs ++ cs.toList) → Below base W w' → wpList Try.prog ops Q rest (a.put o.dst v') w') : wpList Try.prog ops Q (o :: rest) a (W.alloc (.cells cs e)) := by
  obtain ⟨h2, h3, h4, h5⟩ := hE
  obtain ⟨i0, hi, hz0, hz1, hz2⟩ := info_parts h3
  refine wpList_append_own _ hgd s x t ho base e i0 z size bytes h2 hi hz0 hz1 hz2 h4 h5 v n xs hs (hown.alloc _) ⟨W.heap.size, 0, none⟩ 1 1 cs.toList hx (by simpa using hl) ?_ h1 (by unfold maxLen; omega) ?_ (by simp; omega) ?_
  · intro j u hj
    have : (⟨W.heap.size, 0, none⟩ : Addr).add j = ⟨W.heap.size, j, none⟩ := by rw [Addr.add_lit]; simp
    rw [this, World.cell?_alloc_new]
    simpa using hj
  · calc (n + 1) * bytes ≤ 1000000001 * 4096 := Nat.mul_le_mul (by omega) hb
      _ ≤ 140737488355328 := by omega
  · intro v' w' hown' hg _
    refine h v' w' hown' ?_
    have hk := hown.lt
    exact ((Below.refl base W).alloc hbase _).trans (belowGrown hg (by simp; omega) fun k hk' => (hk k hk').1)
/-- A list of integers that came in: at address a (of no account where the list is empty). -/
def IsInts (w : World) (a : Option Addr) (n : Nat) (zs : List Int) : Prop :=
  zs.length = n ∧ (0 < n → ∃ b o, a = some ⟨b, o, none⟩ ∧ b < w.heap.size ∧ ∀ j, j < n → w.cell? ⟨b, o + j, none⟩ = some (.int .i64 (zs.getD j 0)))
theorem IsInts.below {w w' : World} {a : Option Addr} {n : Nat} {zs : List Int} (h : IsInts w a n zs) (hb : Below w.heap.size w w') : IsInts w' a n zs := by
  refine ⟨h.1, fun hn => ?_⟩
  obtain ⟨b, o, h1, h2, h3⟩ := h.2 hn
  exact ⟨b, o, h1, Nat.lt_of_lt_of_le h2 hb.size, fun j hj => bCs hb (h3 j hj)⟩
/-- 'make([]T, n)', T of one cell. -/
theorem makeRow {t e bytes : Nat} {z : Value} (hE : ElemOk t e 1 bytes z) (hz : z.cells = #[z]) (n : Nat) (hb : bytes ≤ 4096) (hn : n ≤ 1000000000) : ∀ w : World,
    (Instr.makeSlice t (.int .i64 (n : Int)) (.int .i64 (n : Int))).run Try.prog w = .ok (.slice (some ⟨w.heap.size, 0, none⟩) n n) (w.alloc (.cells (madeCells #[z] n) e)) :=
  run_make_row' t e z bytes hE.1 hE.2.1 hz .i64 .i64 n (Nat.le_trans (Nat.mul_le_mul hb hn) (by omega)) (by omega)
theorem rowBelow {w w' : World} {b t n B : Nat} {f : Nat → Value} (h : w.rowIs b t n f) (hb : Below B w w') (hB : b < B) : w'.rowIs b t n f := h.of_block (hb.block b hB)
theorem getD_set (l : List Int) (i j : Nat) (v : Int) (hi : i < l.length) : (l.set i v).getD j 0 = if j = i then v else l.getD j 0 := by
  rw [List.getD_eq_getElem?_getD, List.getElem?_set, List.getD_eq_getElem?_getD]
  by_cases h : i = j
  · subst h; simp [hi]
  · rw [if_neg h, if_neg (fun e => h e.symm)]
end Go.Proofs.Ytooilennejakhaa
