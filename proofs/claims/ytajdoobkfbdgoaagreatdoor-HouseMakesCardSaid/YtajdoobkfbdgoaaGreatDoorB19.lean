/- Lemmas on which the law of this seat rests; each states its own conditions. -/
import Derived.Test.YtajdoobkfbdgoaaGreatDoorB18
import Derived.Test.YtajdoobkfbdgoaaGreatDoorB12
import Derived.Test.YtajdoobkfbdgoaaGreatDoorB14
import Derived.Test.YtajdoobkfbdgoaaGreatDoorB02
import Derived.Test.YtajdoobkfbdgoaaGreatDoorB13
set_option linter.unusedVariables false
set_option linter.unusedSimpArgs false
namespace Go.Proofs.YtajdoobkfbdgoaaGreatDoor
section
open Go.RowKit
open Go.Proofs.YtajdoobkfbdgoaaGreatDoor.Z Go.Maps
namespace Z
def kbst (g a b c : Int) (st : Int × List Pt) (z : Pt) : Int × List Pt :=
 if z = (0, 0) ∨ latB a b c z = false then st else if st.1 = 0 ∨ nrm g z < st.1 then (nrm g z, [z]) else if nrm g z = st.1 then (st.1, st.2 ++ [z]) else st
def kwpt (k : Nat) : Pt := (((k % 145 : Nat) : Int) - 72, ((k / 145 : Nat) : Int) - 72)
def kshL (g a b c : Int) (k : Nat) : Int × List Pt := ((List.range k).map kwpt).foldl (kbst g a b c) (0, [])
theorem kshL_succ (g a b c : Int) (k : Nat) : kshL g a b c (k + 1) = kbst g a b c (kshL g a b c k) (kwpt k) := by
 unfold kshL
 rw [List.range_succ, List.map_append, List.foldl_append]
 rfl
theorem kwpt_at {i j : Nat} (hi : i < 145) : kwpt (j * 145 + i) = ((i : Int) - 72, (j : Int) - 72) := by
 unfold kwpt
 rw [show (j * 145 + i) % 145 = i by omega, show (j * 145 + i) / 145 = j by omega]
theorem kshL_bd {g : Int} (hg : G g) (a b c : Int) : ∀ k, k ≤ 21025 → 0 ≤ (kshL g a b c k).1 ∧ (kshL g a b c k).1 ≤ 20000 ∧ (kshL g a b c k).2.length ≤ k ∧ ∀ z ∈ (kshL g a b c k).2, (-72 ≤ z.1 ∧ z.1 ≤ 72) ∧ (-72 ≤ z.2 ∧ z.2 ≤ 72)
 | 0, _ => by simp [kshL]
 | k + 1, hk => by
  obtain ⟨h1, h2, h3, h4⟩ := kshL_bd hg a b c k (by omega)
  have hw : (-72 ≤ (kwpt k).1 ∧ (kwpt k).1 ≤ 72) ∧ (-72 ≤ (kwpt k).2 ∧ (kwpt k).2 ≤ 72) := by
   unfold kwpt
   simp only
   omega
  have hn := nrm_bd hg (a := kwpt k) (B := 72) hw.1 hw.2
  have hn0 := nrm_nonneg hg (kwpt k)
  rw [kshL_succ]
  unfold kbst
  split
  ·exact ⟨h1, h2, by omega, h4⟩
  ·split
   ·refine ⟨hn0, by omega, by simp, fun z hz => ?_⟩
    simp at hz
    subst hz
    exact hw
   ·split
    ·refine ⟨h1, h2, by rw [List.length_append, List.length_singleton]; omega, fun z hz => ?_⟩
     rcases List.mem_append.1 hz with h | h
     ·exact h4 z h
     ·simp at h
      subst h
      exact hw
    ·exact ⟨h1, h2, by omega, h4⟩
def alongB (g a b c : Int) (E : List (Nat × Bool × Bool)) : Bool := E.any fun e => (kshL g a b c 21025).2.any fun z => decide (rf g e.1 z = z)
end Z
theorem knorm (g x y : Int) (w : World) (hg : g = 4 ∨ g = 6) (hx : -100 ≤ x ∧ x ≤ 100) (hy : -100 ≤ y ∧ y ≤ 100) : ∃ q, Calls Tryz.prog 69 #[.int .i64 (g), .agg #[.int .i64 (x), .int .i64 (y)]] w fun r w' => r = .returned (.tuple #[.int .i64 (Z.nrm g (x, y)), .int .i64 (q)]) ∧ Below w.heap.size w w' := by
 have h := Norm_any g x y w (by omega) (by omega)
 have e : NV g x y = Z.nrm g (x, y) := by
  unfold NV Z.nrm
  rw [if_pos]
  simp [fltE, knB, smL, smB]
  omega
 rw [e] at h
 exact ⟨_, h⟩
theorem kapply2 (g : Int) (t : Nat) (x y : Int) (w : World) (hg : g = 4 ∨ g = 6) (ht : t < g.toNat) (hx : -100 ≤ x ∧ x ≤ 100) (hy : -100 ≤ y ∧ y ≤ 100) : ∃ q,
  Calls Tryz.prog 34 #[.int .i64 (g), .agg #[.int .i64 (t), .bool (true), .int .i64 (0), .int .i64 (0)], .agg #[.int .i64 (x), .int .i64 (y)]] w fun e w' => e = .returned (.tuple #[.agg #[.int .i64 ((rf g t (x, y)).1), .int .i64 ((rf g t (x, y)).2)], .int .i64 (q)]) ∧ Below w.heap.size w w' := by
 have hb := Z.rf_bd hg ht (x := x) (y := y) (B := 100) (by omega)
 have o1 : OkM g ⟨t, true, (0, 0)⟩ := ⟨hg, ht, by simp [smB]⟩
 have h3 : smB (To g ⟨t, true, (0,0)⟩ (x,y)).1 (To g ⟨t, true, (0,0)⟩ (x,y)).2 = true := by rw [rf_To]; simp [smB]; omega
 have h4 := apV_ok o1 (z := (x, y)) (by simp [smB]; omega)
 have h5 := Apply_any g t 0 0 x y true w (by omega) (by omega) (by omega) (by omega) (by omega) (by omega)
 simp only [tdX, tdY, tdE, h3, if_true] at h4
 rw [h4, rf_To] at h5
 exact ⟨0, h5⟩
end
namespace Z
def TurnC (g : Int) (col : Pt → Int) (t : Nat) : Prop := ∃ o, Keep g col ⟨t, false, o⟩
def FlipC (g : Int) (col : Pt → Int) (t : Nat) : Prop := ∃ o, Keep g col ⟨t, true, o⟩
def ShoC (g : Int) (col : Pt → Int) (z : Pt) : Prop := Stp col z ∧ z ≠ (0, 0) ∧ ∀ y, Stp col y → y ≠ (0, 0) → nrm g z ≤ nrm g y
def AlongC (g : Int) (col : Pt → Int) : Prop := ∃ t, t < g.toNat ∧ FlipC g col t ∧ ∃ z, ShoC g col z ∧ rf g t z = z
section
variable {g : Int} {col : Pt → Int}
theorem kshL_spec {a b c : Int} (hg : G g) : ∀ k,
    ((∀ i, i < k → kwpt i ≠ (0, 0) → latB a b c (kwpt i) = true → (kshL g a b c k).1 ≠ 0 ∧ (kshL g a b c k).1 ≤ nrm g (kwpt i)) ∧
     (∀ z, z ∈ (kshL g a b c k).2 ↔ (∃ i, i < k ∧ kwpt i = z) ∧ z ≠ (0, 0) ∧ latB a b c z = true ∧ nrm g z = (kshL g a b c k).1) ∧ ((kshL g a b c k).1 ≠ 0 → ∃ z, z ∈ (kshL g a b c k).2))
  | 0 => by simp [kshL]
  | k + 1 => by
    obtain ⟨h1, h2, h4⟩ := kshL_spec (a := a) (b := b) (c := c) hg k
    rw [kshL_succ]
    generalize kshL g a b c k = st at *
    unfold kbst
    by_cases e1 : kwpt k = (0, 0) ∨ latB a b c (kwpt k) = false
    · rw [if_pos e1]
      refine ⟨?_, ?_, h4⟩
      · intro i hi n1 n2
        by_cases e : i = k
        · subst e
          rcases e1 with e1 | e1
          · exact absurd e1 n1
          · rw [n2] at e1; cases e1
        · exact h1 i (by omega) n1 n2
      · intro z
        rw [h2]
        constructor
        · rintro ⟨⟨i, hi, he⟩, k2⟩
          exact ⟨⟨i, by omega, he⟩, k2⟩
        · rintro ⟨⟨i, hi, he⟩, k2⟩
          refine ⟨⟨i, ?_, he⟩, k2⟩
          by_cases e : i = k
          · subst e
            rcases e1 with e1 | e1
            · exact absurd (he ▸ e1) k2.1
            · rw [he, k2.2.1] at e1; cases e1
          · omega
    · rw [if_neg e1]
      have hz0 : kwpt k ≠ (0, 0) := fun e => e1 (.inl e)
      have hl : latB a b c (kwpt k) = true := by
        cases h : latB a b c (kwpt k)
        · exact absurd (.inr h) e1
        · rfl
      have hp := nrm_pos hg hz0
      by_cases e2 : st.1 = 0 ∨ nrm g (kwpt k) < st.1
      · rw [if_pos e2]
        have hno : ∀ i, i < k → kwpt i ≠ (0, 0) → latB a b c (kwpt i) = true → nrm g (kwpt k) < nrm g (kwpt i) := fun i hi n1 n2 => by
          have := h1 i hi n1 n2
          omega
        refine ⟨?_, ?_, fun _ => ⟨_, List.mem_singleton.2 rfl⟩⟩
        · intro i hi n1 n2
          simp only
          by_cases e : i = k
          · subst e; omega
          · have := hno i (by omega) n1 n2; omega
        · intro z
          simp only [List.mem_singleton]
          constructor
          · rintro rfl
            exact ⟨⟨k, by omega, rfl⟩, hz0, hl, rfl⟩
          · rintro ⟨⟨i, hi, rfl⟩, n1, n2, n3⟩
            by_cases e : i = k
            · subst e; rfl
            · have := hno i (by omega) n1 n2; omega
      · rw [if_neg e2]
        have h3 : ∀ i, i < k + 1 → kwpt i ≠ (0, 0) → latB a b c (kwpt i) = true → st.1 ≠ 0 ∧ st.1 ≤ nrm g (kwpt i) := fun i hi n1 n2 => by
          by_cases e : i = k
          · subst e; omega
          · exact h1 i (by omega) n1 n2
        by_cases e3 : nrm g (kwpt k) = st.1
        · rw [if_pos e3]
          refine ⟨h3, fun z => ?_, fun _ => ⟨_, List.mem_append_right _ (List.mem_singleton.2 rfl)⟩⟩
          simp only [List.mem_append, List.mem_singleton]
          rw [h2]
          constructor
          · rintro (⟨⟨i, hi, he⟩, k2⟩ | rfl)
            · exact ⟨⟨i, by omega, he⟩, k2⟩
            · exact ⟨⟨k, by omega, rfl⟩, hz0, hl, e3⟩
          · rintro ⟨⟨i, hi, he⟩, k2⟩
            by_cases e : i = k
            · subst e; exact .inr he.symm
            · exact .inl ⟨⟨i, by omega, he⟩, k2⟩
        · rw [if_neg e3]
          refine ⟨h3, fun z => ?_, h4⟩
          rw [h2]
          constructor
          · rintro ⟨⟨i, hi, he⟩, k2⟩
            exact ⟨⟨i, by omega, he⟩, k2⟩
          · rintro ⟨⟨i, hi, he⟩, k2⟩
            refine ⟨⟨i, ?_, he⟩, k2⟩
            by_cases e : i = k
            · subst e
              rw [he] at e3
              exact absurd k2.2.2 e3
            · omega
theorem kwpt_all {z : Pt} (h : (-72 ≤ z.1 ∧ z.1 ≤ 72) ∧ (-72 ≤ z.2 ∧ z.2 ≤ 72)) : ∃ i, i < 21025 ∧ kwpt i = z := by
 obtain ⟨x, y⟩ := z
 simp only at h
 refine ⟨(y + 72).toNat * 145 + (x + 72).toNat, by omega, ?_⟩
 rw [kwpt_at (by omega)]
 apply ext2 <;> simp only <;> omega
theorem ksh_all {a b c : Int} (hg : G g) (hf : Fine (Stp col) a b c) (ha : a ≤ 24) (z : Pt) : z ∈ (kshL g a b c 21025).2 ↔ ShoC g col z := by
 obtain ⟨h1, h2, h4⟩ := kshL_spec (g := g) (a := a) (b := b) (c := c) hg 21025
 have ha0 := hf.a0
 have hA : ((a, 0) : Pt) ≠ (0, 0) := fun e => by have : a = 0 := congrArg Prod.fst e; omega
 have hnA : nrm g (a, 0) = a * a := by rcases hg with rfl | rfl <;> simp [nrm4, nrm6]
 have hA2 : a * a ≤ 24 * 24 := Int.mul_le_mul ha ha (by omega) (by omega)
 have hbox : ∀ y, nrm g y ≤ 576 → (-72 ≤ y.1 ∧ y.1 ≤ 72) ∧ (-72 ≤ y.2 ∧ y.2 ≤ 72) := fun y hy => part_bd hg (by omega) (by omega)
 obtain ⟨iA, hiA, heA⟩ := kwpt_all (z := (a, 0)) (by simp only; omega)
 have hmA := h1 iA hiA (by rw [heA]; exact hA) (by rw [heA, latB_stp hf]; exact hf.sa)
 rw [heA, hnA] at hmA
 rw [h2, latB_stp hf]
 constructor
 ·rintro ⟨_, n1, n2, n3⟩
  refine ⟨n2, n1, fun y hy hy0 => ?_⟩
  by_cases e : nrm g y ≤ 576
  ·obtain ⟨i, hi, rfl⟩ := kwpt_all (hbox y e)
   have := h1 i hi hy0 ((latB_stp hf _).2 hy)
   omega
  ·omega
 ·rintro ⟨n2, n1, n3⟩
  have h5 := n3 _ hf.sa hA
  rw [hnA] at h5
  obtain ⟨i, hi, hie⟩ := kwpt_all (hbox z (by omega))
  refine ⟨⟨i, hi, hie⟩, n1, n2, ?_⟩
  have h6 := (h1 i hi (by rw [hie]; exact n1) (by rw [hie, latB_stp hf]; exact n2)).2
  rw [hie] at h6
  -- the least is that of a step
  have h7 : nrm g z ≤ (kshL g a b c 21025).1 := by
   have hex : ∃ y, y ∈ (kshL g a b c 21025).2 := h4 hmA.1
   obtain ⟨y, hy⟩ := hex
   obtain ⟨_, k1, k2, k3⟩ := (h2 y).1 hy
   rw [← k3]
   exact n3 y ((latB_stp hf _).1 k2) k1
  omega
def cjM (g : Int) (m h : Mv) : Mv := both g (both g m h) (inv g m)
theorem cj_To (hg : G g) {m h : Mv} (hm : okT g m) (hh : okT g h) (z : Pt) : To g (cjM g m h) (To g m z) = To g m (To g h z) := by
 unfold cjM
 rw [To_both hg (inv_ok hg hm), To_both hg hh, ← To_both hg hm (f := inv g m) (h := m), (both_inv hg hm).1, To_idm]
theorem cj_f (m h : Mv) : (cjM g m h).f = h.f := by
 unfold cjM both inv
 simp only
 cases m.f <;> cases h.f <;> rfl
theorem cj_keep (hg : G g) {m h : Mv} (hm : okT g m) (hh : okT g h) (k : Keep g col h) : Keep g (movd g m col) (cjM g m h) := keep_conj hg hm hh k
theorem klin_zero (t : Nat) (f : Bool) : lin g t f (0, 0) = (0, 0) := by
 have h := lin_add g t f (0, 0) (0, 0)
 have e : add ((0, 0) : Pt) (0, 0) = (0, 0) := by apply ext2 <;> simp [add]
 rw [e] at h
 have h1 : (lin g t f (0, 0)).1 = (lin g t f (0, 0)).1 + (lin g t f (0, 0)).1 := congrArg Prod.fst h
 have h2 : (lin g t f (0, 0)).2 = (lin g t f (0, 0)).2 + (lin g t f (0, 0)).2 := congrArg Prod.snd h
 apply ext2 <;> simp only <;> omega
theorem To_add (m : Mv) (y z : Pt) : To g m (add y z) = add (To g m y) (lin g m.t m.f z) := by
 unfold To
 rw [lin_add]
 apply ext2 <;> simp [add] <;> omega
theorem cj_lin (hg : G g) {m h : Mv} (hm : okT g m) (hh : okT g h) (z : Pt) : lin g (cjM g m h).t (cjM g m h).f (lin g m.t m.f z) = lin g m.t m.f (lin g h.t h.f z) := by
 have h1 := cj_To hg hm hh (add (0, 0) z)
 rw [To_add, To_add, cj_To hg hm hh, To_add, To_add] at h1
 have e1 := congrArg Prod.fst h1
 have e2 := congrArg Prod.snd h1
 simp only [add] at e1 e2
 apply ext2 <;> omega
theorem flip_twice (hg : G g) (t : Nat) (o z : Pt) : To g ⟨t, true, o⟩ (To g ⟨t, true, o⟩ z) = add z (al g t o) := by
 have h1 : ∀ z, To g ⟨t, true, o⟩ z = add (rf g t z) o := fun z => rfl
 rw [h1, h1, rf_add, rf_rf hg]
 unfold al
 apply ext2 <;> simp [add] <;> omega
theorem stp_moved (hg : G g) {m : Mv} (hm : okT g m) {z : Pt} (h : Stp col z) : Stp (movd g m col) (lin g m.t m.f z) := by
 intro p
 have e : To g m (To g (inv g m) p) = p := by rw [← To_both hg (inv_ok hg hm), (both_inv hg hm).2, To_idm]
 generalize To g (inv g m) p = q at e
 subst e
 rw [← To_add, movd_at hg hm, movd_at hg hm, h]
def cjT (g : Int) (m : Mv) (t : Nat) : Nat := bothT g (both g m ⟨t, true, (0, 0)⟩) (inv g m)
theorem cj_flip (m : Mv) (t : Nat) (o : Pt) : cjM g m ⟨t, true, o⟩ = ⟨cjT g m t, true, (cjM g m ⟨t, true, o⟩).o⟩ := by
 have h1 := cj_f (g := g) m ⟨t, true, o⟩
 have h2 : (cjM g m ⟨t, true, o⟩).t = cjT g m t := rfl
 generalize cjM g m ⟨t, true, o⟩ = x at *
 obtain ⟨xt, xf, xo⟩ := x
 simp only at h1 h2
 rw [h1, h2]
theorem line_moved (hg : G g) {m : Mv} (hm : okT g m) {t : Nat} (ht : t < g.toNat) {o : Pt} (h : LineP g col t o) : LineP g (movd g m col) (cjT g m t) (cjM g m ⟨t, true, o⟩).o := by
 obtain ⟨s, s1, s2, s3⟩ := h
 have hh : okT g (⟨t, true, o⟩ : Mv) := ht
 have hL := cj_lin hg hm hh
 have hT := cj_To hg hm hh
 rw [cj_flip] at hL hT
 simp only at hL
 generalize (cjM g m ⟨t, true, o⟩).o = o' at *
 have ha : al g (cjT g m t) o' = lin g m.t m.f (al g t o) := by
  have h1 := flip_twice hg (cjT g m t) o' (To g m (0, 0))
  rw [hT, hT, flip_twice hg, To_add] at h1
  have e1 := congrArg Prod.fst h1
  have e2 := congrArg Prod.snd h1
  simp only [add] at e1 e2
  apply ext2 <;> omega
 refine ⟨lin g m.t m.f s, stp_moved hg hm s1, ?_, ?_⟩
 ·have := hL s
  rw [show lin g t true s = s from s2] at this
  exact this
 ·rw [ha, ← lin_add, ← lin_add, s3, klin_zero]
theorem mir_moved (hg : G g) {m : Mv} (hm : okT g m) {t : Nat} (ht : t < g.toNat) (h : MirC g col t) : MirC g (movd g m col) (cjT g m t) := by
 obtain ⟨o, k, l⟩ := h
 have := cj_keep hg hm (h := ⟨t, true, o⟩) ht k
 rw [cj_flip] at this
 exact ⟨_, this, line_moved hg hm ht l⟩
end
end Z
namespace Z
open Classical in
structure SameSig (g : Int) (col col' : Pt → Int) : Prop where
 turn : ∀ t, t < g.toNat → (TurnC g col t ↔ TurnC g col' t)
 ways : ∀ Q : Bool → Bool → Prop, (∀ t, t < g.toNat → FlipC g col t → Q (decide (MirC g col t)) (decide (GliC g col t))) ↔ (∀ t, t < g.toNat → FlipC g col' t → Q (decide (MirC g col' t)) (decide (GliC g col' t)))
 along : AlongC g col ↔ AlongC g col'
theorem mem_waysF_way (g a b c : Int) (P : Nat × Bool × Bool → Prop) (L : List Mv) : ∀ E : List (Nat × Bool × Bool), (∀ e ∈ E, P e) → (∀ m ∈ L, m.f = true → P (m.t, wayP g a b c m)) → ∀ e ∈ L.foldl (wayS g a b c) E, P e := by
 induction L with
 | nil => intro E h _; exact h
 | cons x L ih =>
  intro E h hL
  refine ih _ ?_ (fun m hm => hL m (List.mem_cons_of_mem _ hm))
  unfold wayS
  split
  ·exact h
  ·rename_i hn
   intro e he
   rcases List.mem_append.1 he with he | he
   ·exact h e he
   ·rw [List.mem_singleton] at he
    subst he
    refine hL x (List.mem_cons_self ..) ?_
    cases hx : x.f
    ·exact absurd (.inl hx) hn
    ·rfl
section
variable {g : Nat} {n : Nat} {col : Pt → Int} {L : List Mv}
theorem hasT_keep (h : Grp (g : Int) n col L) (hg : G (g : Int)) (hn : 0 < n) (hp : Per n col) (f : Bool) {t : Nat} (ht : t < g) : hasT L f t = true ↔ ∃ o, Keep (g : Int) col ⟨t, f, o⟩ := by
 rw [hasT_iff]
 constructor
 ·rintro ⟨m, hm, rfl, rfl⟩
  exact ⟨m.o, h.keep hm⟩
 ·rintro ⟨o, k⟩
  exact ⟨_, h.red (by omega) hp (m := ⟨t, f, o⟩) (show t < ((g : Int)).toNat by omega) k, rfl, rfl⟩
open Classical in
theorem kind_sig (h : Grp (g : Int) n col L) (hg : G (g : Int)) (hn : 0 < n) (hp : Per n col) {a b c : Int} (hf : Fine (Stp col) a b c) (ha : a ≤ 24) :
  ((turnsF L).length = (List.range g).countP fun t => decide (TurnC g col t)) ∧
  (∀ Q : Bool → Bool → Prop, (∀ e ∈ waysF g a b c L, Q e.2.1 e.2.2) ↔ (∀ t, t < (g : Int).toNat → FlipC g col t → Q (decide (MirC g col t)) (decide (GliC g col t)))) ∧
  (alongB g a b c (waysF g a b c L) = true ↔ AlongC g col) := by
 have hway : ∀ e ∈ waysF g a b c L, ∃ o, Keep (g : Int) col ⟨e.1, true, o⟩ ∧ e.1 < g ∧ e.2 = (decide (MirC g col e.1), decide (GliC g col e.1)) := by
  refine mem_waysF_way g a b c _ L [] (by simp) fun m hm hmf => ?_
  obtain ⟨mt, mf, mo⟩ := m
  simp only at hmf
  subst hmf
  have hok := h.ok hm
  have hk := h.keep hm
  have hs := way_spec hg hf hok hk
  refine ⟨mo, hk, by show mt < g; unfold okT at hok; simp only at hok; omega, ?_⟩
  simp only
  apply Prod.ext
  ·rw [Bool.eq_iff_iff, hs.1, decide_eq_true_eq]
  ·rw [Bool.eq_iff_iff, hs.2, decide_eq_true_eq]
 refine ⟨?_, fun Q => ?_, ?_⟩
 ·rw [turns_len h]
  refine List.countP_congr fun t ht => ?_
  rw [hasT_keep h hg hn hp false (List.mem_range.1 ht), decide_eq_true_eq]
  rfl
 ·constructor
  ·intro k t ht hfl
   have h1 := (hasT_keep h hg hn hp true (t := t) (by omega)).2 hfl
   obtain ⟨m, hm, h2, h3⟩ := hasT_iff.1 h1
   obtain ⟨e, he, h4⟩ := List.mem_map.1 (mem_ways (g := g) (a := a) (b := b) (c := c).2 ⟨m, hm, h2, h3⟩)
   obtain ⟨o, _, _, h5⟩ := hway e he
   have h6 := k e he
   rw [h5, h4] at h6
   exact h6
  ·intro k e he
   obtain ⟨o, h1, h2, h3⟩ := hway e he
   rw [h3]
   exact k e.1 (by omega) ⟨o, h1⟩
 ·unfold alongB AlongC
  rw [List.any_eq_true]
  constructor
  ·rintro ⟨e, he, hz⟩
   rw [List.any_eq_true] at hz
   obtain ⟨z, hz1, hz2⟩ := hz
   obtain ⟨o, h1, h2, h3⟩ := hway e he
   exact ⟨e.1, by omega, ⟨o, h1⟩, z, (ksh_all hg hf ha z).1 hz1, of_decide_eq_true hz2⟩
  ·rintro ⟨t, ht, hfl, z, hz1, hz2⟩
   have h1 := (hasT_keep h hg hn hp true (t := t) (by omega)).2 hfl
   obtain ⟨m, hm, h2, h3⟩ := hasT_iff.1 h1
   obtain ⟨e, he, h4⟩ := List.mem_map.1 (mem_ways (g := g) (a := a) (b := b) (c := c).2 ⟨m, hm, h2, h3⟩)
   refine ⟨e, he, ?_⟩
   rw [List.any_eq_true]
   exact ⟨z, (ksh_all hg hf ha z).2 hz1, by rw [h4]; exact decide_eq_true hz2⟩
end
end Z
section
open Go.RowKit
open Z (torN place pnt Mv To lin okT nrm both idm md stepB Grp Per Keep Stp Fine LineP MirC GliC FlipC TurnC AlongC add neg sml al rf Eqm redM hasT torusL turnsF waysF alongB kindP movesL)
section
variable {g : Int} {n : Nat} {col : Z.Pt → Int} {L : List Mv}
theorem per_stp (hp : Per n col) (z : Z.Pt) : Stp col (sml n z) := (Z.stp_per hp ⟨z, by unfold add; simp⟩).2 (Z.stp_sub col).zero
theorem step_iff (h : Grp g n col L) (hg : Z.G g) (hn : 0 < n) (hp : Per n col) (z : Z.Pt) : stepB L (md n z) = true ↔ Stp col z := by
 rw [Z.stepB_iff h hg (Z.mem_torus.2 (Z.md_bd (by omega) z))]
 exact (Z.stp_per hp (Z.eqm_md n z)).symm
theorem lnB_iff (h : Grp g n col L) (hg : Z.G g) (hn : 0 < n) (hp : Per n col) (t : Nat) (o : Z.Pt) : lnB g L n t o = true ↔ LineP g col t o := by
 unfold lnB LineP
 rw [Bool.and_eq_true, Bool.and_eq_true, Bool.and_eq_true, decide_eq_true_iff, decide_eq_true_iff, decide_eq_true_iff, step_iff h hg hn hp]
 obtain ⟨u, v, hw⟩ : ∃ u v, al g t o = (u, v) := ⟨_, _, rfl⟩
 rw [hw]
 simp only
 have e2 : ∀ m : Int, Int.tmod m 2 = 0 ↔ m % 2 = 0 := fun m => by rw [← Int.dvd_iff_tmod_eq_zero]; omega
 have e3 : ∀ k : Int, Int.tdiv (-(2 * k)) 2 = -k := fun k => by rw [← Int.mul_neg]; exact Int.mul_tdiv_cancel_left _ (by omega)
 rw [e2, e2]
 constructor
 ·rintro ⟨h1, h2, h3, h4⟩
  obtain ⟨i, rfl⟩ : ∃ i, u = 2 * i := ⟨u / 2, by omega⟩
  obtain ⟨j, rfl⟩ : ∃ j, v = 2 * j := ⟨v / 2, by omega⟩
  rw [e3, e3] at h3 h4
  exact ⟨_, h3, h4, by apply Z.ext2 <;> simp [add] <;> omega⟩
 ·rintro ⟨⟨p, q⟩, h1, h2, h3⟩
  have q1 : u + (p + p) = 0 := congrArg Prod.fst h3
  have q2 : v + (q + q) = 0 := congrArg Prod.snd h3
  obtain rfl : u = 2 * -p := by omega
  obtain rfl : v = 2 * -q := by omega
  rw [e3, e3, Int.neg_neg, Int.neg_neg]
  exact ⟨by omega, by omega, h1, h2⟩
theorem line_shift (hg : Z.G g) (hp : Per n col) {t : Nat} {o j : Z.Pt} (h : LineP g col t o) : LineP g col t (add o (sml (2 * n) j)) := by
 obtain ⟨s, h1, h2, h3⟩ := h
 refine ⟨add s (sml n (neg (al g t j))), (Z.stp_sub col).add _ _ h1 (per_stp hp _), ?_, ?_⟩
 ·have e : neg (al g t j) = sml (-1) (al g t j) := by apply Z.ext2 <;> simp [neg, sml]
  rw [Z.rf_add, Z.rf_sml, h2, e, Z.rf_sml, Z.al_fix hg]
 ·rw [Z.al_add, Z.al_sml]
  have q1 := congrArg Prod.fst h3
  have q2 := congrArg Prod.snd h3
  simp only [add] at q1 q2
  apply Z.ext2
  ·simp only [add, sml, neg, Int.mul_neg, Int.mul_assoc]
   omega
  ·simp only [add, sml, neg, Int.mul_neg, Int.mul_assoc]
   omega
theorem line_mod (hg : Z.G g) (hp : Per n col) {t : Nat} {o k : Z.Pt} : LineP g col t (add o (sml n k)) ↔ LineP g col t (add o (sml n (k.1 % 2, k.2 % 2))) := by
 have e1 : add o (sml n k) = add (add o (sml n (k.1 % 2, k.2 % 2))) (sml (2 * n) (k.1 / 2, k.2 / 2)) := by
  have q1 := Int.emod_add_mul_ediv k.1 2
  have q2 := Int.emod_add_mul_ediv k.2 2
  apply Z.ext2
  ·simp only [add, sml]
   rw [Int.mul_comm 2 (n : Int), Int.mul_assoc, Int.add_assoc, ← Int.mul_add, q1]
  ·simp only [add, sml]
   rw [Int.mul_comm 2 (n : Int), Int.mul_assoc, Int.add_assoc, ← Int.mul_add, q2]
 have e2 : add o (sml n (k.1 % 2, k.2 % 2)) = add (add o (sml n k)) (sml (2 * n) (neg (k.1 / 2, k.2 / 2))) := by
  rw [e1]
  apply Z.ext2
  ·simp only [add, sml, neg, Int.mul_neg]; omega
  ·simp only [add, sml, neg, Int.mul_neg]; omega
 constructor
 ·intro h; rw [e2]; exact line_shift hg hp h
 ·intro h; rw [e1]; exact line_shift hg hp h
theorem keep_n (hp : Per n col) {t : Nat} {o : Z.Pt} (h : Keep g col ⟨t, true, o⟩) (k : Z.Pt) : Keep g col ⟨t, true, add o (sml n k)⟩ := Z.keep_shift h (per_stp hp k)
theorem q3_o (m : Mv) (k : Nat) : (q3 n m k).o = add m.o (sml n ((((k % 3 : Nat) : Int) - 1), (((k / 3 : Nat) : Int) - 1))) := rfl
theorem anyN_iff {Q : Nat → Bool} {k : Nat} : anyN Q k = true ↔ ∃ i, i < k ∧ Q i = true := by
 unfold anyN; rw [List.any_eq_true]
 exact ⟨fun ⟨i, h1, h2⟩ => ⟨i, List.mem_range.1 h1, h2⟩, fun ⟨i, h1, h2⟩ => ⟨i, List.mem_range.2 h1, h2⟩⟩
theorem in_list (h : Grp g n col L) (hn : 0 < n) (hp : Per n col) {t : Nat} {f : Bool} {o : Z.Pt} (ht : t < g.toNat) (hk : Keep g col ⟨t, f, o⟩) : ∃ m ∈ L, m.t = t ∧ m.f = f ∧ ∃ k : Z.Pt, o = add m.o (sml n k) ∧ m.o = md n o := by
 refine ⟨_, h.red (by omega) hp (m := ⟨t, f, o⟩) ht hk, rfl, rfl, (o.1 / n, o.2 / n), ?_, rfl⟩
 have q1 := Int.emod_add_mul_ediv o.1 n
 have q2 := Int.emod_add_mul_ediv o.2 n
 apply Z.ext2
 ·simp only [add, sml, redM, md]; omega
 ·simp only [add, sml, redM, md]; omega
theorem any_ways (h : Grp g n col L) (hg : Z.G g) (hn : 0 < n) (hp : Per n col) {t : Nat} (ht : t < g.toNat) (P : Bool) (R : Nat → Mv → Bool) (hR : ∀ m, R t m = (decide (m.t = t) && (m.f && anyN (fun k => lnK g L n m k == P) 9))) :
  L.any (R t) = true ↔ ∃ o, Keep g col ⟨t, true, o⟩ ∧ (LineP g col t o ↔ P = true) := by
 rw [List.any_eq_true]
 have hl : ∀ o, (lnB g L n t o == P) = true ↔ (LineP g col t o ↔ P = true) := fun o => by
  rw [beq_iff_eq, Bool.eq_iff_iff, lnB_iff h hg hn hp]
 constructor
 ·rintro ⟨m, hm, hr⟩
  rw [hR, Bool.and_eq_true, Bool.and_eq_true, decide_eq_true_iff, anyN_iff] at hr
  obtain ⟨rfl, hf, k, hk, hq⟩ := hr
  obtain ⟨mt, mf, mo⟩ := m
  simp only at hf
  subst hf
  have hkp := h.keep hm
  refine ⟨(q3 n ⟨mt, true, mo⟩ k).o, ?_, (hl (q3 n ⟨mt, true, mo⟩ k).o).1 hq⟩
  rw [q3_o]
  exact keep_n hp hkp _
 ·rintro ⟨o, hk, ho⟩
  obtain ⟨m, hm, rfl, hf, k, hok, _⟩ := in_list h hn hp ht hk
  refine ⟨m, hm, ?_⟩
  rw [hR, Bool.and_eq_true, Bool.and_eq_true, decide_eq_true_iff, anyN_iff]
  rw [hok, line_mod hg hp] at ho
  obtain ⟨i, hi⟩ : ∃ i : Nat, (i : Int) = k.1 % 2 + 1 := ⟨(k.1 % 2 + 1).toNat, by omega⟩
  obtain ⟨j, hj⟩ : ∃ j : Nat, (j : Int) = k.2 % 2 + 1 := ⟨(k.2 % 2 + 1).toNat, by omega⟩
  have i3 : i < 3 := by omega
  have j3 : j < 3 := by omega
  have f1 : (3 * j + i) % 3 = i := by omega
  have f2 : (3 * j + i) / 3 = j := by omega
  have g1 : (i : Int) - 1 = k.1 % 2 := by omega
  have g2 : (j : Int) - 1 = k.2 % 2 := by omega
  refine ⟨rfl, hf, 3 * j + i, by omega, ?_⟩
  unfold lnK
  rw [hl, q3_o, f1, f2, g1, g2]
  exact ho
theorem anyS_iff (h : Grp g n col L) (hg : Z.G g) (hn : 0 < n) (hp : Per n col) {t : Nat} (ht : t < g.toNat) : L.any (PS g L n t) = true ↔ MirC g col t := by
 rw [any_ways h hg hn hp ht true (PS g L n) (fun m => by
  unfold PS; congr 3; funext k; cases lnK g L n m k <;> rfl)]
 exact exists_congr fun o => and_congr Iff.rfl (by simp)
theorem anyO_iff (h : Grp g n col L) (hg : Z.G g) (hn : 0 < n) (hp : Per n col) {t : Nat} (ht : t < g.toNat) : L.any (PO g L n t) = true ↔ GliC g col t := by
 rw [any_ways h hg hn hp ht false (PO g L n) (fun m => by
  unfold PO; congr 3; funext k; cases lnK g L n m k <;> rfl)]
 exact exists_congr fun o => and_congr Iff.rfl (by simp)
theorem anyF_iff (h : Grp g n col L) (hn : 0 < n) (hp : Per n col) {t : Nat} (ht : t < g.toNat) (f : Bool) : (∃ m ∈ L, m.t = t ∧ m.f = f) ↔ ∃ o, Keep g col ⟨t, f, o⟩ := by
 constructor
 ·rintro ⟨m, hm, rfl, rfl⟩
  exact ⟨m.o, h.keep hm⟩
 ·rintro ⟨o, hk⟩
  obtain ⟨m, hm, h1, h2, _⟩ := in_list h hn hp ht hk
  exact ⟨m, hm, h1, h2⟩
theorem anyT_iff (h : Grp g n col L) (hn : 0 < n) (hp : Per n col) {t : Nat} (ht : t < g.toNat) : L.any (PT t) = true ↔ TurnC g col t := by
 rw [List.any_eq_true]
 refine Iff.trans (exists_congr fun m => and_congr Iff.rfl ?_) (anyF_iff h hn hp ht false)
 unfold PT; rw [Bool.and_eq_true, decide_eq_true_iff]; simp
theorem anyL_iff (h : Grp g n col L) (hn : 0 < n) (hp : Per n col) {t : Nat} (ht : t < g.toNat) : L.any (PF t) = true ↔ FlipC g col t := by
 rw [List.any_eq_true]
 refine Iff.trans (exists_congr fun m => and_congr Iff.rfl ?_) (anyF_iff h hn hp ht true)
 unfold PF; rw [Bool.and_eq_true, decide_eq_true_iff]
end
open Classical in
noncomputable def cntC (g : Int) (P : Nat → Prop) : Nat := (List.range g.toNat).countP fun t => decide (P t)
open Classical in
theorem cnt_eq {G : Nat} {Q : Nat → Bool} {P : Nat → Prop} (h : ∀ t, t < G → (Q t = true ↔ P t)) : cnt Q G = cntC (G : Int) P := by
 unfold cnt cntC
 rw [Int.toNat_natCast]
 exact List.countP_congr fun t ht => by rw [h t (List.mem_range.1 ht), decide_eq_true_eq]
end
section
open Go.RowKit
open Z (torN place pnt Mv To lin okT nrm both idm md stepB Grp Per Keep Stp Fine LineP MirC GliC FlipC TurnC AlongC add neg sml al rf Eqm redM hasT torusL turnsF waysF alongB kindP movesL)
section
variable {g : Int} {col : Z.Pt → Int}
theorem cl_tt (hg : Z.G g) {i j : Nat} (hi : i < g.toNat) (hj : j < g.toNat) (h : TurnC g col i) (k : TurnC g col j) : TurnC g col ((i + j) % g.toNat) := by
 obtain ⟨o, h⟩ := h
 obtain ⟨q, k⟩ := k
 exact ⟨_, Keep.both hg (m := ⟨i, false, o⟩) (h := ⟨j, false, q⟩) hj h k⟩
theorem cl_tf (hg : Z.G g) {i j : Nat} (hi : i < g.toNat) (hj : j < g.toNat) (h : TurnC g col i) (k : FlipC g col j) : FlipC g col ((i + j) % g.toNat) := by
 obtain ⟨o, h⟩ := h
 obtain ⟨q, k⟩ := k
 exact ⟨_, Keep.both hg (m := ⟨i, false, o⟩) (h := ⟨j, true, q⟩) hj h k⟩
theorem cl_ff (hg : Z.G g) {i j : Nat} (hi : i < g.toNat) (hj : j < g.toNat) (h : FlipC g col i) (k : FlipC g col j) : TurnC g col ((i + (g.toNat - j)) % g.toNat) := by
 obtain ⟨o, h⟩ := h
 obtain ⟨q, k⟩ := k
 exact ⟨_, Keep.both hg (m := ⟨i, true, o⟩) (h := ⟨j, true, q⟩) hj h k⟩
theorem turn_zero (hg : Z.G g) : TurnC g col 0 := ⟨(0, 0), Keep.id g col⟩
end
theorem tur4 : ∀ b1 b2 b3 : Bool, (b1 = true → b2 = true) → (b3 = true → b2 = true) → (b1 = true → b2 = true → b3 = true) → (b3 = true → b2 = true → b1 = true) →
  (1 + b1.toNat + b2.toNat + b3.toNat ≠ 3) ∧ (1 + b1.toNat + b2.toNat + b3.toNat = 2 → b2 = true ∧ b1 = false ∧ b3 = false) ∧ (1 + b1.toNat + b2.toNat + b3.toNat = 4 → b1 = true) := by decide
theorem tur6 : ∀ b1 b2 b3 b4 b5 : Bool, (b1 = true → b2 = true) → (b2 = true → b4 = true) → (b4 = true → b2 = true) → (b5 = true → b4 = true) → (b1 = true → b2 = true → b3 = true) → (b5 = true → b4 = true → b3 = true) → (b1 = true → b4 = true → b5 = true) → (b5 = true → b2 = true → b1 = true) → (b3 = true → b2 = true → b5 = true) → (b3 = true → b4 = true → b1 = true) →
  (1 + b1.toNat + b2.toNat + b3.toNat + b4.toNat + b5.toNat ≠ 4) ∧ (1 + b1.toNat + b2.toNat + b3.toNat + b4.toNat + b5.toNat = 2 → b3 = true ∧ b1 = false ∧ b2 = false ∧ b4 = false ∧ b5 = false) ∧ (1 + b1.toNat + b2.toNat + b3.toNat + b4.toNat + b5.toNat = 3 → b2 = true ∧ b4 = true ∧ b1 = false ∧ b3 = false ∧ b5 = false) := by
 intro b1 b2 b3 b4 b5
 cases b1 <;> cases b2 <;> cases b3 <;> cases b4 <;> cases b5 <;> simp
open Classical in
theorem cnt4 (P : Nat → Prop) : cntC 4 P = (decide (P 0)).toNat + (decide (P 1)).toNat + (decide (P 2)).toNat + (decide (P 3)).toNat := by
 unfold cntC
 rw [show (List.range (4 : Int).toNat) = [0, 1, 2, 3] from rfl]
 simp only [List.countP_cons, List.countP_nil]
 cases decide (P 0) <;> cases decide (P 1) <;> cases decide (P 2) <;> cases decide (P 3) <;> rfl
open Classical in
theorem cnt6 (P : Nat → Prop) : cntC 6 P = (decide (P 0)).toNat + (decide (P 1)).toNat + (decide (P 2)).toNat + (decide (P 3)).toNat + (decide (P 4)).toNat + (decide (P 5)).toNat := by
 unfold cntC
 rw [show (List.range (6 : Int).toNat) = [0, 1, 2, 3, 4, 5] from rfl]
 simp only [List.countP_cons, List.countP_nil]
 cases decide (P 0) <;> cases decide (P 1) <;> cases decide (P 2) <;> cases decide (P 3) <;> cases decide (P 4) <;> cases decide (P 5) <;> rfl
open Classical in
theorem cnt_zero {g : Int} {P : Nat → Prop} : cntC g P = 0 ↔ ∀ t, t < g.toNat → ¬ P t := by
 unfold cntC
 rw [List.countP_eq_zero]
 exact ⟨fun h t ht => by have := h t (List.mem_range.2 ht); simpa using this, fun h t ht => by have := h t (List.mem_range.1 ht); simpa using this⟩
section
variable {col : Z.Pt → Int}
open Classical in
theorem turns4 : (cntC 4 (TurnC 4 col) ≠ 3) ∧ (cntC 4 (TurnC 4 col) = 2 → TurnC 4 col 2 ∧ ¬ TurnC 4 col 1 ∧ ¬ TurnC 4 col 3) ∧ (cntC 4 (TurnC 4 col) = 4 → TurnC 4 col 1) := by
 have hg : Z.G 4 := .inl rfl
 have c := fun i j (hi : i < 4) (hj : j < 4) => cl_tt (g := 4) (col := col) hg (i := i) (j := j) hi hj
 have k := tur4 (decide (TurnC 4 col 1)) (decide (TurnC 4 col 2)) (decide (TurnC 4 col 3))
  (by simpa using fun h => c 1 1 (by omega) (by omega) h h) (by simpa using fun h => c 3 3 (by omega) (by omega) h h)
  (by simpa using fun h h2 => c 1 2 (by omega) (by omega) h h2) (by simpa using fun h h2 => c 3 2 (by omega) (by omega) h h2)
 rw [cnt4, decide_eq_true (turn_zero hg)]
 simpa using k
open Classical in
theorem turns6 : (cntC 6 (TurnC 6 col) ≠ 4) ∧ (cntC 6 (TurnC 6 col) = 2 → TurnC 6 col 3 ∧ ¬ TurnC 6 col 1 ∧ ¬ TurnC 6 col 2 ∧ ¬ TurnC 6 col 4 ∧ ¬ TurnC 6 col 5) ∧ (cntC 6 (TurnC 6 col) = 3 → TurnC 6 col 2 ∧ TurnC 6 col 4 ∧ ¬ TurnC 6 col 1 ∧ ¬ TurnC 6 col 3 ∧ ¬ TurnC 6 col 5) := by
 have hg : Z.G 6 := .inr rfl
 have c := fun i j (hi : i < 6) (hj : j < 6) => cl_tt (g := 6) (col := col) hg (i := i) (j := j) hi hj
 have k := tur6 (decide (TurnC 6 col 1)) (decide (TurnC 6 col 2)) (decide (TurnC 6 col 3)) (decide (TurnC 6 col 4)) (decide (TurnC 6 col 5))
  (by simpa using fun h => c 1 1 (by omega) (by omega) h h) (by simpa using fun h => c 2 2 (by omega) (by omega) h h) (by simpa using fun h => c 4 4 (by omega) (by omega) h h) (by simpa using fun h => c 5 5 (by omega) (by omega) h h)
  (by simpa using fun h h2 => c 1 2 (by omega) (by omega) h h2) (by simpa using fun h h2 => c 5 4 (by omega) (by omega) h h2)
  (by simpa using fun h h2 => c 1 4 (by omega) (by omega) h h2) (by simpa using fun h h2 => c 5 2 (by omega) (by omega) h h2)
  (by simpa using fun h h2 => c 3 2 (by omega) (by omega) h h2) (by simpa using fun h h2 => c 3 4 (by omega) (by omega) h h2)
 rw [cnt6, decide_eq_true (turn_zero hg)]
 simpa using k
end
theorem glide_across {g : Int} {col : Z.Pt → Int} (hg : Z.G g) {t u : Nat} (ht : t < g.toNat) (hu : u < g.toNat) (hr : ∀ z, rf g u z = neg (rf g t z)) (hm : MirC g col t) (hl : GliC g col t) (hf : FlipC g col u) : GliC g col u := by
 obtain ⟨o, ko, s0, a1, a2, a3⟩ := hm
 obtain ⟨o', ko', hno⟩ := hl
 obtain ⟨q, kq⟩ := hf
 have hs := Z.stp_sub col
 have hz := Z.flip_diff hg ht ko ko'
 obtain ⟨z, hzz⟩ : ∃ z, add o' (neg o) = z := ⟨_, rfl⟩
 rw [hzz] at hz
 have eo : o' = add o z := by rw [← hzz]; apply Z.ext2 <;> simp [add, neg] <;> omega
 by_cases h1 : LineP g col u q
 ·by_cases h2 : LineP g col u (add q z)
  ·exfalso
   obtain ⟨s, b1, b2, b3⟩ := h1
   obtain ⟨s', c1, c2, c3⟩ := h2
   refine hno ⟨add (add s0 (neg z)) (add s (neg s')), hs.add _ _ (hs.add _ _ a1 (hs.neg _ hz)) (hs.add _ _ b1 (hs.neg _ c1)), ?_, ?_⟩
   all_goals
    rw [hr] at b2 c2
    rw [Z.al_add] at c3
    unfold al at a3 b3 c3
    rw [hr] at b3 c3
    rw [hr] at c3
    have ers : rf g t s = neg s := by
     have q1 := congrArg Prod.fst b2; have q2 := congrArg Prod.snd b2
     simp only [neg] at q1 q2
     apply Z.ext2 <;> simp only [neg] <;> omega
    have ers' : rf g t s' = neg s' := by
     have q1 := congrArg Prod.fst c2; have q2 := congrArg Prod.snd c2
     simp only [neg] at q1 q2
     apply Z.ext2 <;> simp only [neg] <;> omega
    have rneg : ∀ y, rf g t (neg y) = neg (rf g t y) := fun y => by
     have e : neg y = sml (-1) y := by apply Z.ext2 <;> simp [neg, sml]
     rw [e, Z.rf_sml]
     apply Z.ext2 <;> simp [neg, sml]
    try rw [eo]
    simp only [al, Z.rf_add, rneg, a2, ers, ers']
    have p1 := congrArg Prod.fst a3; have p2 := congrArg Prod.snd a3
    have p3 := congrArg Prod.fst b3; have p4 := congrArg Prod.snd b3
    have p5 := congrArg Prod.fst c3; have p6 := congrArg Prod.snd c3
    simp only [add, neg] at p1 p2 p3 p4 p5 p6
    apply Z.ext2
    ·simp only [add, neg]; omega
    ·simp only [add, neg]; omega
  ·exact ⟨_, Z.keep_shift kq hz, h2⟩
 ·exact ⟨_, kq, h1⟩
end
end Go.Proofs.YtajdoobkfbdgoaaGreatDoor
