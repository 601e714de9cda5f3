/- Lemmas and contracts of functions (what each call returns, and that it changes nothing that was there) that the proof of a law of this seat uses; each lemma states its own conditions. -/
import Derived.Test.YtooilennejakhaaB06
import Derived.Test.YtooilennejakhaaB04
import Derived.Test.YtooilennejakhaaB36
namespace Go.Proofs.Ytooilennejakhaa.Z
set_option linter.unusedVariables false
set_option linter.unusedSimpArgs false
theorem mem_turnsF (L : List Mv) : ∀ (T : List Nat) (t : Nat), t ∈ L.foldl turnS T ↔ t ∈ T ∨ ∃ m ∈ L, m.f = false ∧ m.t = t := by
  induction L with
  | nil => intro T t; simp
  | cons a L ih =>
    intro T t
    rw [List.foldl_cons, ih]
    have e : t ∈ turnS T a ↔ t ∈ T ∨ (a.f = false ∧ a.t = t) := by
      unfold turnS
      split
      · rename_i h
        constructor
        · exact .inl
        · rintro (h2 | ⟨h2, h3⟩)
          · exact h2
          · rcases h with h | h
            · rw [h] at h2; cases h2
            · rw [← h3]; exact h
      · rename_i h
        rw [List.mem_append, List.mem_singleton]
        have hf : a.f = false := by
          cases h9 : a.f
          · rfl
          · exact absurd (.inl h9) h
        constructor
        · rintro (h2 | h2)
          · exact .inl h2
          · exact .inr ⟨hf, h2.symm⟩
        · rintro (h2 | h2)
          · exact .inl h2
          · exact .inr h2.2.symm
    rw [e]
    constructor
    · rintro ((h | h) | ⟨m, hm, h⟩)
      · exact .inl h
      · exact .inr ⟨a, List.mem_cons_self .., h⟩
      · exact .inr ⟨m, List.mem_cons_of_mem _ hm, h⟩
    · rintro (h | ⟨m, hm, h⟩)
      · exact .inl (.inl h)
      · rcases List.mem_cons.1 hm with rfl | hm
        · exact .inl (.inr h)
        · exact .inr ⟨m, hm, h⟩
theorem nodup_turnsF (L : List Mv) : ∀ (T : List Nat), T.Nodup → (L.foldl turnS T).Nodup := by
  induction L with
  | nil => intro T h; exact h
  | cons a L ih => intro T h; exact ih _ (turnS_nodup h a)
theorem any_keys {E : List (Nat × Bool × Bool)} {t : Nat} : (E.any fun e => e.1 == t) = true ↔ t ∈ E.map (·.1) := by
  rw [List.any_eq_true, List.mem_map]
  constructor
  · rintro ⟨e, he, h⟩
    exact ⟨e, he, eq_of_beq h⟩
  · rintro ⟨e, he, h⟩
    exact ⟨e, he, by rw [h]; exact beq_self_eq_true _⟩
theorem mem_waysF (g a b c : Int) (L : List Mv) : ∀ (E : List (Nat × Bool × Bool)) (t : Nat), t ∈ (L.foldl (wayS g a b c) E).map (·.1) ↔ t ∈ E.map (·.1) ∨ ∃ m ∈ L, m.f = true ∧ m.t = t := by
  induction L with
  | nil => intro T t; simp
  | cons x L ih =>
    intro T t
    rw [List.foldl_cons, ih]
    have e : t ∈ (wayS g a b c T x).map (·.1) ↔ t ∈ T.map (·.1) ∨ (x.f = true ∧ x.t = t) := by
      unfold wayS
      split
      · rename_i h
        constructor
        · exact .inl
        · rintro (h2 | ⟨h2, h3⟩)
          · exact h2
          · rcases h with h | h
            · rw [h] at h2; cases h2
            · rw [← h3]; exact any_keys.1 h
      · rename_i h
        rw [List.map_append, List.mem_append, List.map_singleton, List.mem_singleton]
        have hf : x.f = true := by
          cases h9 : x.f
          · exact absurd (.inl h9) h
          · rfl
        constructor
        · rintro (h2 | h2)
          · exact .inl h2
          · exact .inr ⟨hf, h2.symm⟩
        · rintro (h2 | h2)
          · exact .inl h2
          · exact .inr h2.2.symm
    rw [e]
    constructor
    · rintro ((h | h) | ⟨m, hm, h⟩)
      · exact .inl h
      · exact .inr ⟨x, List.mem_cons_self .., h⟩
      · exact .inr ⟨m, List.mem_cons_of_mem _ hm, h⟩
    · rintro (h | ⟨m, hm, h⟩)
      · exact .inl (.inl h)
      · rcases List.mem_cons.1 hm with rfl | hm
        · exact .inl (.inr h)
        · exact .inr ⟨m, hm, h⟩
theorem mem_turns {L : List Mv} {t : Nat} : t ∈ turnsF L ↔ ∃ m ∈ L, m.f = false ∧ m.t = t := by
  unfold turnsF
  rw [mem_turnsF]
  simp
theorem mem_ways {g a b c : Int} {L : List Mv} {t : Nat} : t ∈ (waysF g a b c L).map (·.1) ↔ ∃ m ∈ L, m.f = true ∧ m.t = t := by
  unfold waysF
  rw [mem_waysF]
  simp
theorem waysF_nil {g a b c : Int} {L : List Mv} : waysF g a b c L = [] ↔ ∀ m ∈ L, m.f = false := by
  constructor
  · intro h m hm
    cases h9 : m.f
    · rfl
    · have : m.t ∈ (waysF g a b c L).map (·.1) := mem_ways.2 ⟨m, hm, h9, rfl⟩
      rw [h] at this
      simp at this
  · intro h
    cases h9 : waysF g a b c L with
    | nil => rfl
    | cons e E =>
      have : e.1 ∈ (waysF g a b c L).map (·.1) := by rw [h9]; simp
      obtain ⟨m, hm, h1, _⟩ := mem_ways.1 this
      rw [h m hm] at h1
      cases h1
theorem nod_length {T : List Nat} {g : Nat} (hn : T.Nodup) (hb : ∀ t ∈ T, t < g) : T.length = (List.range g).countP fun v => decide (v ∈ T) := by
  rw [List.countP_eq_length_filter]
  refine List.Perm.length_eq ?_
  rw [List.perm_ext_iff_of_nodup hn (List.Pairwise.filter _ List.nodup_range)]
  intro t
  rw [List.mem_filter, List.mem_range, decide_eq_true_eq]
  exact ⟨fun h => ⟨hb t h, h⟩, fun h => h.2⟩
section
variable {g : Nat} {n : Nat} {col : Pt → Int} {L : List Mv}
/-- Is there one of that turn? -/
def hasT (L : List Mv) (f : Bool) (t : Nat) : Bool := L.any (keyB t f)
theorem hasT_iff {L : List Mv} {f : Bool} {t : Nat} : hasT L f t = true ↔ ∃ m ∈ L, m.f = f ∧ m.t = t := by
  unfold hasT
  rw [List.any_eq_true]
  exact ⟨fun ⟨m, h, k⟩ => ⟨m, h, (keyB_iff.1 k).2, (keyB_iff.1 k).1⟩, fun ⟨m, h, k1, k2⟩ => ⟨m, h, keyB_iff.2 ⟨k2, k1⟩⟩⟩
theorem turns_len (h : Grp (g : Int) n col L) : (turnsF L).length = (List.range g).countP (hasT L false) := by
  rw [nod_length (g := g) (T := turnsF L) (nodup_turnsF L [] List.nodup_nil) (fun t ht => by
    obtain ⟨m, hm, _, rfl⟩ := mem_turns.1 ht
    have := h.ok hm; unfold okT at this; omega)]
  refine List.countP_congr fun v _ => ?_
  rw [decide_eq_true_eq, mem_turns, hasT_iff]
/-- As many moves of a sort as turns of it, times the steps. -/
theorem sort_count (h : Grp (g : Int) n col L) (hg : G (g : Int)) (hn : 0 < n) (hp : Per n col) (f : Bool) : L.countP (fun m => m.f == f) = (List.range g).countP (hasT L f) * (torusL n).countP (stepB L) := by
  rw [← sumL_countP, List.countP_eq_length_filter, length_by g (fun m => m.t) g (L.filter fun m => m.f == f) (fun x hx => by
    have := h.ok (List.mem_filter.1 hx).1; unfold okT at this; omega)]
  refine sumL_congr fun v _ => ?_
  rw [List.countP_filter]
  have e : L.countP (fun a => a.t == v && a.f == f) = L.countP (keyB v f) := List.countP_congr fun x _ => by
    rw [keyB_iff, Bool.and_eq_true, beq_iff_eq, beq_iff_eq]
  rw [e]
  cases hv : hasT L f v with
  | false =>
    rw [if_neg (by simp), List.countP_eq_zero]
    intro x hx e
    have : hasT L f v = true := hasT_iff.2 ⟨x, hx, (keyB_iff.1 e).2, (keyB_iff.1 e).1⟩
    rw [hv] at this
    cases this
  | true =>
    rw [if_pos rfl]
    obtain ⟨m, hm, rfl, rfl⟩ := hasT_iff.1 hv
    exact block_count h hg hn hp hm
theorem hasT_mul (h : Grp (g : Int) n col L) (hg : G (g : Int)) (hn : 0 < n) (hp : Per n col) {p q : Bool} {i j : Nat} (hi : hasT L p i = true) (hj : hasT L q j = true) : hasT L (p ^^ q) ((if p then i + (g - j) else i + j) % g) = true := by
  obtain ⟨x, hx, rfl, rfl⟩ := hasT_iff.1 hi
  obtain ⟨y, hy, rfl, rfl⟩ := hasT_iff.1 hj
  refine hasT_iff.2 ⟨_, h.mul hg (by omega) hp hx hy, rfl, ?_⟩
  show bothT g x y = _
  unfold bothT
  split <;> simp
end
/-- What sets of turns can be. -/
def clB (g : Nat) (bs cs : List Bool) : Bool :=
  bs.getD 0 false && (List.range g).all fun i => (List.range g).all fun j =>
    (!(bs.getD i false && bs.getD j false) || bs.getD ((i + j) % g) false) && (!(bs.getD i false && cs.getD j false) || cs.getD ((i + j) % g) false) &&
    (!(cs.getD i false && cs.getD j false) || bs.getD ((i + (g - j)) % g) false) && (!(cs.getD i false && bs.getD j false) || cs.getD ((i + (g - j)) % g) false)
def gdB (g : Nat) (bs cs : List Bool) : Bool :=
  let t := bs.countP id
  let f := cs.countP id
  (if g == 4 then t == 1 || t == 2 || t == 4 else t == 1 || t == 2 || t == 3 || t == 6) && (f == 0 || f == t)
theorem cl4 : ∀ b1 b2 b3 c0 c1 c2 c3 : Bool, clB 4 [true, b1, b2, b3] [c0, c1, c2, c3] = true → gdB 4 [true, b1, b2, b3] [c0, c1, c2, c3] = true := by decide +kernel
theorem cl6 : ∀ b1 b2 b3 b4 b5 c0 c1 c2 c3 c4 c5 : Bool, clB 6 [true, b1, b2, b3, b4, b5] [c0, c1, c2, c3, c4, c5] = true → gdB 6 [true, b1, b2, b3, b4, b5] [c0, c1, c2, c3, c4, c5] = true := by decide +kernel
section
variable {g : Nat} {n : Nat} {col : Pt → Int} {L : List Mv}
theorem sorts (h : Grp (g : Int) n col L) (hg : G (g : Int)) (hn : 0 < n) (hp : Per n col) : gdB g ((List.range g).map (hasT L false)) ((List.range g).map (hasT L true)) = true := by
  have h0 : hasT L false 0 = true := hasT_iff.2 ⟨idm, h.one hg (by omega), rfl, rfl⟩
  have hget : ∀ (p : Bool) i, i < g → ((List.range g).map (hasT L p)).getD i false = hasT L p i := fun p i hi => by
    rw [List.getD_eq_getElem?_getD, List.getElem?_map, List.getElem?_range hi]
    rfl
  have hg0 : 0 < g := by rcases hg with e | e <;> omega
  have hcl : clB g ((List.range g).map (hasT L false)) ((List.range g).map (hasT L true)) = true := by
    unfold clB
    rw [Bool.and_eq_true, hget _ _ hg0]
    refine ⟨h0, ?_⟩
    rw [List.all_eq_true]
    intro i hi
    rw [List.all_eq_true]
    intro j hj
    rw [List.mem_range] at hi hj
    rw [hget _ _ hi, hget _ _ hi, hget _ _ hj, hget _ _ hj, hget _ _ (Nat.mod_lt _ hg0), hget _ _ (Nat.mod_lt _ hg0), hget _ _ (Nat.mod_lt _ hg0), hget _ _ (Nat.mod_lt _ hg0)]
    have m1 := fun a b => hasT_mul (p := false) (q := false) (i := i) (j := j) h hg hn hp a b
    have m2 := fun a b => hasT_mul (p := false) (q := true) (i := i) (j := j) h hg hn hp a b
    have m3 := fun a b => hasT_mul (p := true) (q := true) (i := i) (j := j) h hg hn hp a b
    have m4 := fun a b => hasT_mul (p := true) (q := false) (i := i) (j := j) h hg hn hp a b
    simp only [Bool.xor_self, Bool.false_xor, Bool.true_xor, Bool.not_false, Bool.not_true, if_true, if_false, Bool.false_eq_true] at m1 m2 m3 m4
    generalize hasT L false ((i + j) % g) = x1 at *
    generalize hasT L true ((i + j) % g) = x2 at *
    generalize hasT L false ((i + (g - j)) % g) = x3 at *
    generalize hasT L true ((i + (g - j)) % g) = x4 at *
    generalize hasT L false i = y1 at *
    generalize hasT L true i = y2 at *
    generalize hasT L false j = y3 at *
    generalize hasT L true j = y4 at *
    cases x1 <;> cases x2 <;> cases x3 <;> cases x4 <;> cases y1 <;> cases y2 <;> cases y3 <;> cases y4 <;> simp_all
  rcases hg with e | e
  · obtain rfl : g = 4 := by omega
    have e1 : (List.range 4).map (hasT L false) = [true, hasT L false 1, hasT L false 2, hasT L false 3] := by rw [← h0]; rfl
    have e2 : (List.range 4).map (hasT L true) = [hasT L true 0, hasT L true 1, hasT L true 2, hasT L true 3] := rfl
    rw [e1, e2] at hcl ⊢
    exact cl4 _ _ _ _ _ _ _ hcl
  · obtain rfl : g = 6 := by omega
    have e1 : (List.range 6).map (hasT L false) = [true, hasT L false 1, hasT L false 2, hasT L false 3, hasT L false 4, hasT L false 5] := by rw [← h0]; rfl
    have e2 : (List.range 6).map (hasT L true) = [hasT L true 0, hasT L true 1, hasT L true 2, hasT L true 3, hasT L true 4, hasT L true 5] := rfl
    rw [e1, e2] at hcl ⊢
    exact cl6 _ _ _ _ _ _ _ _ _ _ _ hcl
end
/-- How often a pattern of a kind can be turned, flipped. -/
def tnK (k : Int) : Int := ([1, 2, 1, 1, 1, 2, 2, 2, 2, 4, 4, 4, 3, 3, 3, 6, 6] : List Int).getD (k.toNat - 1) 0
def flK (k : Int) : Int := if k = 1 ∨ k = 2 ∨ k = 10 ∨ k = 13 ∨ k = 16 then 0 else tnK k
theorem kind_turns {tn : Nat} (h : tn = 1 ∨ tn = 2 ∨ tn = 3 ∨ tn = 4 ∨ tn = 6) (al9 : Bool) (E : List (Nat × Bool × Bool)) : 1 ≤ kindP tn al9 E ∧ kindP tn al9 E ≤ 17 ∧ tnK (kindP tn al9 E) = tn ∧ flK (kindP tn al9 E) = if E = [] then 0 else tn := by
  unfold kindP
  rcases h with rfl | rfl | rfl | rfl | rfl <;> simp only [if_true, if_false, Nat.reduceEqDiff] <;> (by_cases hE : E = []) <;> simp only [hE, if_true, if_false] <;> (repeat' split) <;> (refine ⟨by decide, by decide, by rfl, by rfl⟩)
/-- What is said of a kind is so. -/
theorem counts_ok {g W H n : Nat} {cs : List Int} (hg : G (g : Int)) (hn : 0 < n) (hW : W ∣ n) (hH : H ∣ n) {a b : Nat} {c : Int} (hf : Fine (Stp (colP W H cs)) a b c) (al9 : Bool) {K : Int}
    (hK : kindP (turnsF (movesL W H cs g n)).length al9 (waysF g a b c (movesL W H cs g n)) = K) :
    1 ≤ K ∧ K ≤ 17 ∧ (g = 4 → tnK K ≠ 3 ∧ tnK K ≠ 6) ∧ (g = 6 → tnK K ≠ 4) ∧
    ∃ S : Nat, Int.tdiv ((n : Int) * n) ((a : Int) * b) = S ∧ ((movesL W H cs g n).countP (fun m => m.f == false) : Int) = tnK K * S ∧ ((movesL W H cs g n).countP (fun m => m.f == true) : Int) = flK K * S := by
  have grp := movesL_grp (cs := cs) (g := (g : Int)) hn hW hH
  have per := colP_per cs hW hH
  have hst := steps_count grp hg hn per hf
  have hT := turns_len grp
  have h1 := sort_count grp hg hn per false
  have h2 := sort_count grp hg hn per true
  have hs := sorts grp hg hn per
  have hE : waysF g a b c (movesL W H cs g n) = [] ↔ (List.range g).countP (hasT (movesL W H cs g n) true) = 0 := by
    rw [waysF_nil, List.countP_eq_zero]
    constructor
    · intro h v _ e
      obtain ⟨m, hm, h3, _⟩ := hasT_iff.1 e
      rw [h m hm] at h3
      cases h3
    · intro h m hm
      cases h9 : m.f
      · rfl
      · have := grp.ok hm
        unfold okT at this
        exact absurd (hasT_iff.2 ⟨m, hm, h9, rfl⟩) (h m.t (List.mem_range.2 (by omega)))
  generalize waysF g a b c (movesL W H cs g n) = E at *
  generalize (torusL n).countP (stepB (movesL W H cs g n)) = S at *
  have hab : 0 < a * b := by have := hf.a0; have := hf.b0; exact Nat.mul_pos (by omega) (by omega)
  have hdv : Int.tdiv ((n : Int) * n) ((a : Int) * b) = S := by
    rw [← Int.natCast_mul, ← Int.natCast_mul, ← hst]
    show ((S * (a * b) / (a * b) : Nat) : Int) = _
    rw [Nat.mul_div_cancel _ hab]
  unfold gdB at hs
  simp only [List.countP_map, Function.id_comp] at hs
  rw [← hT] at hs h1
  generalize (List.range g).countP (hasT (movesL W H cs g n) true) = f at *
  generalize (turnsF (movesL W H cs g n)).length = tn at *
  rw [Bool.and_eq_true] at hs
  obtain ⟨hs1, hs2⟩ := hs
  have hf2 : f = 0 ∨ f = tn := by simpa using hs2
  have htn : (g = 4 → tn = 1 ∨ tn = 2 ∨ tn = 4) ∧ (g = 6 → tn = 1 ∨ tn = 2 ∨ tn = 3 ∨ tn = 6) := by
    constructor
    · rintro rfl
      have : (tn = 1 ∨ tn = 2) ∨ tn = 4 := by simpa using hs1
      omega
    · rintro rfl
      have : ((tn = 1 ∨ tn = 2) ∨ tn = 3) ∨ tn = 6 := by simpa using hs1
      omega
  have hg2 : g = 4 ∨ g = 6 := by rcases hg with e | e <;> omega
  obtain ⟨k1, k2, k3, k4⟩ := kind_turns (tn := tn) (by rcases hg2 with e | e; (· have := htn.1 e; omega); (· have := htn.2 e; omega)) al9 E
  rw [hK] at k1 k2 k3 k4
  refine ⟨k1, k2, fun e => ?_, fun e => ?_, S, hdv, ?_, ?_⟩
  · rw [k3]; have := htn.1 e; omega
  · rw [k3]; have := htn.2 e; omega
  · rw [k3, h1]; push_cast; rfl
  · rw [k4, h2]
    rcases hf2 with e | e
    · rw [if_pos (hE.2 e), e]; simp
    · by_cases h0 : E = []
      · have := hE.1 h0
        rw [if_pos h0, this]; simp
      · rw [if_neg h0, e]; push_cast; rfl
end Go.Proofs.Ytooilennejakhaa.Z

namespace Go.Proofs.Ytooilennejakhaa
open Go.RowKit
set_option linter.unusedVariables false
set_option linter.unusedSimpArgs false
open Z (torN place pnt Mv To lin okT nrm keepB colP idm md redM both inv stK Sid Upw movesL turnsF waysF kindP tnK flK alongB)
set_option maxRecDepth 100000 in
set_option maxHeartbeats 8000000 in
theorem alive4_any (w : World) : Calls Try.prog 7 #[] w fun e w' => e = .returned (.bool true) ∧ Below w.heap.size w w' := by
  have hC : ChOk 6 1 1 1 [0] := ⟨.inr rfl, by omega, by omega, by omega, by omega, rfl, by intro x hx; simp at hx; subst hx; omega⟩
  have hN : torN 1 1 = 1 := by decide +kernel
  obtain ⟨sa, uc, ub, hS, hU⟩ := Z.fine_ex (n := 1) (W := 1) (H := 1) (cs := [0]) (g := ((6 : Nat) : Int)) (by omega) (Nat.dvd_refl _) (Nat.dvd_refl _)
  have hv : kindP (turnsF (movesL 1 1 [0] ((6 : Nat) : Int) 1)).length (alongB ((6 : Nat) : Int) sa ub uc (waysF ((6 : Nat) : Int) sa ub uc (movesL 1 1 [0] ((6 : Nat) : Int) 1))) (waysF ((6 : Nat) : Int) sa ub uc (movesL 1 1 [0] ((6 : Nat) : Int) 1)) = 17 := by
    have h1 : (turnsF (movesL 1 1 [0] ((6 : Nat) : Int) 1)).length = 6 := by decide +kernel
    have h2 : waysF ((6 : Nat) : Int) sa ub uc (movesL 1 1 [0] ((6 : Nat) : Int) 1) ≠ [] := by
      intro h
      rw [Z.waysF_nil] at h
      have : ¬ ∀ m ∈ movesL 1 1 [0] ((6 : Nat) : Int) 1, m.f = false := by decide +kernel
      exact this h
    rw [h1]
    unfold kindP
    rw [if_neg (by omega), if_neg (by omega), if_neg (by omega), if_neg (by omega), if_neg h2]
  have HK : Hid (∀ a w, IsInts w a 1 [0] → Calls Try.prog 8 #[.agg #[.int .i64 (6), .int .i64 (1), .int .i64 (1), .slice a 1 1]] w fun r w' => r = .returned (.tuple #[.int .i64 (17), .int .i64 (0)]) ∧ Below w.heap.size w w') := Lib.hid fun a w h => by
    have := Kind_ok 6 1 1 1 1 sa uc ub a 1 [0] w h hC hN (by omega) (by omega) hS hU
    rw [hv] at this
    exact this
  have HOK : Hid (IsInts (w.alloc (.cells #[.int .i64 (0)] 3)) (some ⟨w.heap.size, 0, none⟩) 1 [0]) := Lib.hid ⟨rfl, fun _ => ⟨_, 0, rfl, by simp, fun j hj => by
    obtain rfl : j = 0 := by omega
    simp⟩⟩
  clear hC hN hS hU hv
  go_enter Try.func7, Try.ntmps7
  go_wp2_with fail
  refine (HK.out _ _ HOK.out).mono ?_
  rintro r w1 ⟨rfl, hb⟩
  have HB : Hid (Below w.heap.size w w1) := Lib.hid (Below.trans (by repeat (first | exact Below.refl _ _ | refine Below.drew ?_ | refine below_drewN ?_ _ | refine Below.alloc ?_ (by first | exact Nat.le_refl _ | (simp; done) | (simp; omega) | omega) _ | refine Below.setCell ?_ (by first | exact Nat.le_refl _ | (simp; done) | (simp; omega) | omega) _ | refine bExtW ?_ (by first | exact Nat.le_refl _ | (simp; done) | (simp; omega) | omega) | refine Below.trans ?_ (Below.mono (by assumption) (by first | exact Nat.le_refl _ | (simp; done) | (simp; omega) | omega)))) (hb.mono (by first | exact Nat.le_refl _ | (simp; done) | (simp; omega) | omega)))
  clear hb
  go_wp2
  go_ret
  exact ⟨rfl, HB.out⟩
set_option maxRecDepth 100000 in
set_option maxHeartbeats 8000000 in
theorem turns_any (K : Int) (w : World) (h1 : 1 ≤ K) (h2 : K ≤ 17) : Calls Try.prog 12 #[.int .i64 (K)] w fun e w' => e = .returned (.tuple #[.int .i64 (tnK K), .int .i64 (flK K)]) ∧ Below w.heap.size w w' := by
  have hK : K = 1 ∨ K = 2 ∨ K = 3 ∨ K = 4 ∨ K = 5 ∨ K = 6 ∨ K = 7 ∨ K = 8 ∨ K = 9 ∨ K = 10 ∨ K = 11 ∨ K = 12 ∨ K = 13 ∨ K = 14 ∨ K = 15 ∨ K = 16 ∨ K = 17 := by omega
  clear h1 h2
  rcases hK with rfl | rfl | rfl | rfl | rfl | rfl | rfl | rfl | rfl | rfl | rfl | rfl | rfl | rfl | rfl | rfl | rfl
  all_goals
    go_enter Try.func12, Try.ntmps12
    go_wp2
    refine bodyPost_ret (v := _) (by simp [results, Try.results12, go_sem, tnK, flK]) rfl ⟨rfl, (by repeat (first | exact Below.refl _ _ | refine Below.drew ?_ | refine below_drewN ?_ _ | refine Below.alloc ?_ (by first | exact Nat.le_refl _ | (simp; done) | (simp; omega) | omega) _ | refine Below.setCell ?_ (by first | exact Nat.le_refl _ | (simp; done) | (simp; omega) | omega) _ | refine bExtW ?_ (by first | exact Nat.le_refl _ | (simp; done) | (simp; omega) | omega) | refine Below.trans ?_ (Below.mono (by assumption) (by first | exact Nat.le_refl _ | (simp; done) | (simp; omega) | omega))))⟩
end Go.Proofs.Ytooilennejakhaa
