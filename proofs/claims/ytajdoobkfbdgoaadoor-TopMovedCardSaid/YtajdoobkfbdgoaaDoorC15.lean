/- Lemmas on which the law of this seat rests; each states its own conditions. -/
import Derived.Test.YtajdoobkfbdgoaaDoorC10
import Derived.Test.YtajdoobkfbdgoaaDoorC02
import Derived.Test.YtajdoobkfbdgoaaDoorC14
set_option linter.unusedVariables false
set_option linter.unusedSimpArgs false
namespace Go.Proofs.YtajdoobkfbdgoaaDoor
namespace Z
def TurnC (g : Int) (col : Pt → Int) (t : Nat) : Prop := ∃ o, Keep g col ⟨t, false, o⟩
def FlipC (g : Int) (col : Pt → Int) (t : Nat) : Prop := ∃ o, Keep g col ⟨t, true, o⟩
def ShoC (g : Int) (col : Pt → Int) (z : Pt) : Prop := Stp col z ∧ z ≠ (0, 0) ∧ ∀ y, Stp col y → y ≠ (0, 0) → nrm g z ≤ nrm g y
def AlongC (g : Int) (col : Pt → Int) : Prop := ∃ t, t < g.toNat ∧ FlipC g col t ∧ ∃ z, ShoC g col z ∧ rf g t z = z
section
variable {g : Int} {col : Pt → Int}
theorem kshL_spec {a b c : Int} (hg : G g) : ∀ k,
    ((∀ i, i < k → kwpt i ≠ (0, 0) → latB a b c (kwpt i) = true → (kshL g a b c k).1 ≠ 0 ∧ (kshL g a b c k).1 ≤ nrm g (kwpt i)) ∧
     (∀ z, z ∈ (kshL g a b c k).2 ↔ (∃ i, i < k ∧ kwpt i = z) ∧ z ≠ (0, 0) ∧ latB a b c z = true ∧ nrm g z = (kshL g a b c k).1) ∧ ((kshL g a b c k).1 ≠ 0 → ∃ z, z ∈ (kshL g a b c k).2))
  | 0 => by simp [kshL]
  | k + 1 => by
    obtain ⟨h1, h2, h4⟩ := kshL_spec (a := a) (b := b) (c := c) hg k
    rw [kshL_succ]
    generalize kshL g a b c k = st at *
    unfold kbst
    by_cases e1 : kwpt k = (0, 0) ∨ latB a b c (kwpt k) = false
    · rw [if_pos e1]
      refine ⟨?_, ?_, h4⟩
      · intro i hi n1 n2
        by_cases e : i = k
        · subst e
          rcases e1 with e1 | e1
          · exact absurd e1 n1
          · rw [n2] at e1; cases e1
        · exact h1 i (by omega) n1 n2
      · intro z
        rw [h2]
        constructor
        · rintro ⟨⟨i, hi, he⟩, k2⟩
          exact ⟨⟨i, by omega, he⟩, k2⟩
        · rintro ⟨⟨i, hi, he⟩, k2⟩
          refine ⟨⟨i, ?_, he⟩, k2⟩
          by_cases e : i = k
          · subst e
            rcases e1 with e1 | e1
            · exact absurd (he ▸ e1) k2.1
            · rw [he, k2.2.1] at e1; cases e1
          · omega
    · rw [if_neg e1]
      have hz0 : kwpt k ≠ (0, 0) := fun e => e1 (.inl e)
      have hl : latB a b c (kwpt k) = true := by
        cases h : latB a b c (kwpt k)
        · exact absurd (.inr h) e1
        · rfl
      have hp := nrm_pos hg hz0
      by_cases e2 : st.1 = 0 ∨ nrm g (kwpt k) < st.1
      · rw [if_pos e2]
        have hno : ∀ i, i < k → kwpt i ≠ (0, 0) → latB a b c (kwpt i) = true → nrm g (kwpt k) < nrm g (kwpt i) := fun i hi n1 n2 => by
          have := h1 i hi n1 n2
          omega
        refine ⟨?_, ?_, fun _ => ⟨_, List.mem_singleton.2 rfl⟩⟩
        · intro i hi n1 n2
          simp only
          by_cases e : i = k
          · subst e; omega
          · have := hno i (by omega) n1 n2; omega
        · intro z
          simp only [List.mem_singleton]
          constructor
          · rintro rfl
            exact ⟨⟨k, by omega, rfl⟩, hz0, hl, rfl⟩
          · rintro ⟨⟨i, hi, rfl⟩, n1, n2, n3⟩
            by_cases e : i = k
            · subst e; rfl
            · have := hno i (by omega) n1 n2; omega
      · rw [if_neg e2]
        have h3 : ∀ i, i < k + 1 → kwpt i ≠ (0, 0) → latB a b c (kwpt i) = true → st.1 ≠ 0 ∧ st.1 ≤ nrm g (kwpt i) := fun i hi n1 n2 => by
          by_cases e : i = k
          · subst e; omega
          · exact h1 i (by omega) n1 n2
        by_cases e3 : nrm g (kwpt k) = st.1
        · rw [if_pos e3]
          refine ⟨h3, fun z => ?_, fun _ => ⟨_, List.mem_append_right _ (List.mem_singleton.2 rfl)⟩⟩
          simp only [List.mem_append, List.mem_singleton]
          rw [h2]
          constructor
          · rintro (⟨⟨i, hi, he⟩, k2⟩ | rfl)
            · exact ⟨⟨i, by omega, he⟩, k2⟩
            · exact ⟨⟨k, by omega, rfl⟩, hz0, hl, e3⟩
          · rintro ⟨⟨i, hi, he⟩, k2⟩
            by_cases e : i = k
            · subst e; exact .inr he.symm
            · exact .inl ⟨⟨i, by omega, he⟩, k2⟩
        · rw [if_neg e3]
          refine ⟨h3, fun z => ?_, h4⟩
          rw [h2]
          constructor
          · rintro ⟨⟨i, hi, he⟩, k2⟩
            exact ⟨⟨i, by omega, he⟩, k2⟩
          · rintro ⟨⟨i, hi, he⟩, k2⟩
            refine ⟨⟨i, ?_, he⟩, k2⟩
            by_cases e : i = k
            · subst e
              rw [he] at e3
              exact absurd k2.2.2 e3
            · omega
theorem kwpt_all {z : Pt} (h : (-72 ≤ z.1 ∧ z.1 ≤ 72) ∧ (-72 ≤ z.2 ∧ z.2 ≤ 72)) : ∃ i, i < 21025 ∧ kwpt i = z := by
 obtain ⟨x, y⟩ := z
 simp only at h
 refine ⟨(y + 72).toNat * 145 + (x + 72).toNat, by omega, ?_⟩
 rw [kwpt_at (by omega)]
 apply ext2 <;> simp only <;> omega
theorem ksh_all {a b c : Int} (hg : G g) (hf : Fine (Stp col) a b c) (ha : a ≤ 24) (z : Pt) : z ∈ (kshL g a b c 21025).2 ↔ ShoC g col z := by
 obtain ⟨h1, h2, h4⟩ := kshL_spec (g := g) (a := a) (b := b) (c := c) hg 21025
 have ha0 := hf.a0
 have hA : ((a, 0) : Pt) ≠ (0, 0) := fun e => by have : a = 0 := congrArg Prod.fst e; omega
 have hnA : nrm g (a, 0) = a * a := by rcases hg with rfl | rfl <;> simp [nrm4, nrm6]
 have hA2 : a * a ≤ 24 * 24 := Int.mul_le_mul ha ha (by omega) (by omega)
 have hbox : ∀ y, nrm g y ≤ 576 → (-72 ≤ y.1 ∧ y.1 ≤ 72) ∧ (-72 ≤ y.2 ∧ y.2 ≤ 72) := fun y hy => part_bd hg (by omega) (by omega)
 obtain ⟨iA, hiA, heA⟩ := kwpt_all (z := (a, 0)) (by simp only; omega)
 have hmA := h1 iA hiA (by rw [heA]; exact hA) (by rw [heA, latB_stp hf]; exact hf.sa)
 rw [heA, hnA] at hmA
 rw [h2, latB_stp hf]
 constructor
 ·rintro ⟨_, n1, n2, n3⟩
  refine ⟨n2, n1, fun y hy hy0 => ?_⟩
  by_cases e : nrm g y ≤ 576
  ·obtain ⟨i, hi, rfl⟩ := kwpt_all (hbox y e)
   have := h1 i hi hy0 ((latB_stp hf _).2 hy)
   omega
  ·omega
 ·rintro ⟨n2, n1, n3⟩
  have h5 := n3 _ hf.sa hA
  rw [hnA] at h5
  obtain ⟨i, hi, hie⟩ := kwpt_all (hbox z (by omega))
  refine ⟨⟨i, hi, hie⟩, n1, n2, ?_⟩
  have h6 := (h1 i hi (by rw [hie]; exact n1) (by rw [hie, latB_stp hf]; exact n2)).2
  rw [hie] at h6
  -- the least is that of a step
  have h7 : nrm g z ≤ (kshL g a b c 21025).1 := by
   have hex : ∃ y, y ∈ (kshL g a b c 21025).2 := h4 hmA.1
   obtain ⟨y, hy⟩ := hex
   obtain ⟨_, k1, k2, k3⟩ := (h2 y).1 hy
   rw [← k3]
   exact n3 y ((latB_stp hf _).1 k2) k1
  omega
def cjM (g : Int) (m h : Mv) : Mv := both g (both g m h) (inv g m)
theorem cj_ok (hg : G g) (m h : Mv) : okT g (cjM g m h) := both_ok hg _ _
theorem cj_To (hg : G g) {m h : Mv} (hm : okT g m) (hh : okT g h) (z : Pt) : To g (cjM g m h) (To g m z) = To g m (To g h z) := by
 unfold cjM
 rw [To_both hg (inv_ok hg hm), To_both hg hh, ← To_both hg hm (f := inv g m) (h := m), (both_inv hg hm).1, To_idm]
theorem cj_back (hg : G g) {m h : Mv} (hm : okT g m) (hh : okT g h) : cjM g (inv g m) (cjM g m h) = h := by
 have hi := inv_ok hg hm
 refine ext_maps hg (cj_ok hg _ _) hh fun z => ?_
 have h1 := cj_To hg hi (cj_ok hg m h) (To g m z)
 rw [← To_both hg hm, (both_inv hg hm).1, To_idm, cj_To hg hm hh, ← To_both hg hm, (both_inv hg hm).1, To_idm] at h1
 exact h1
theorem cj_f (m h : Mv) : (cjM g m h).f = h.f := by
 unfold cjM both inv
 simp only
 cases m.f <;> cases h.f <;> rfl
theorem cj_keep (hg : G g) {m h : Mv} (hm : okT g m) (hh : okT g h) (k : Keep g col h) : Keep g (movd g m col) (cjM g m h) := keep_conj hg hm hh k
theorem klin_zero (t : Nat) (f : Bool) : lin g t f (0, 0) = (0, 0) := by
 have h := lin_add g t f (0, 0) (0, 0)
 have e : add ((0, 0) : Pt) (0, 0) = (0, 0) := by apply ext2 <;> simp [add]
 rw [e] at h
 have h1 : (lin g t f (0, 0)).1 = (lin g t f (0, 0)).1 + (lin g t f (0, 0)).1 := congrArg Prod.fst h
 have h2 : (lin g t f (0, 0)).2 = (lin g t f (0, 0)).2 + (lin g t f (0, 0)).2 := congrArg Prod.snd h
 apply ext2 <;> simp only <;> omega
theorem To_add (m : Mv) (y z : Pt) : To g m (add y z) = add (To g m y) (lin g m.t m.f z) := by
 unfold To
 rw [lin_add]
 apply ext2 <;> simp [add] <;> omega
theorem cj_lin (hg : G g) {m h : Mv} (hm : okT g m) (hh : okT g h) (z : Pt) : lin g (cjM g m h).t (cjM g m h).f (lin g m.t m.f z) = lin g m.t m.f (lin g h.t h.f z) := by
 have h1 := cj_To hg hm hh (add (0, 0) z)
 rw [To_add, To_add, cj_To hg hm hh, To_add, To_add] at h1
 have e1 := congrArg Prod.fst h1
 have e2 := congrArg Prod.snd h1
 simp only [add] at e1 e2
 apply ext2 <;> omega
theorem flip_twice (hg : G g) (t : Nat) (o z : Pt) : To g ⟨t, true, o⟩ (To g ⟨t, true, o⟩ z) = add z (al g t o) := by
 have h1 : ∀ z, To g ⟨t, true, o⟩ z = add (rf g t z) o := fun z => rfl
 rw [h1, h1, rf_add, rf_rf hg]
 unfold al
 apply ext2 <;> simp [add] <;> omega
theorem stp_moved (hg : G g) {m : Mv} (hm : okT g m) {z : Pt} (h : Stp col z) : Stp (movd g m col) (lin g m.t m.f z) := by
 intro p
 have e : To g m (To g (inv g m) p) = p := by rw [← To_both hg (inv_ok hg hm), (both_inv hg hm).2, To_idm]
 generalize To g (inv g m) p = q at e
 subst e
 rw [← To_add, movd_at hg hm, movd_at hg hm, h]
theorem movd_inv (hg : G g) {m : Mv} (hm : okT g m) : movd g (inv g m) (movd g m col) = col := funext fun z => movd_back hg hm z
def cjT (g : Int) (m : Mv) (t : Nat) : Nat := bothT g (both g m ⟨t, true, (0, 0)⟩) (inv g m)
theorem cj_flip (m : Mv) (t : Nat) (o : Pt) : cjM g m ⟨t, true, o⟩ = ⟨cjT g m t, true, (cjM g m ⟨t, true, o⟩).o⟩ := by
 have h1 := cj_f (g := g) m ⟨t, true, o⟩
 have h2 : (cjM g m ⟨t, true, o⟩).t = cjT g m t := rfl
 generalize cjM g m ⟨t, true, o⟩ = x at *
 obtain ⟨xt, xf, xo⟩ := x
 simp only at h1 h2
 rw [h1, h2]
theorem cjT_lt (hg : G g) (m : Mv) (t : Nat) : cjT g m t < g.toNat := both_ok hg _ _
theorem cjT_back (hg : G g) {m : Mv} (hm : okT g m) {t : Nat} (ht : t < g.toNat) : cjT g m (cjT g (inv g m) t) = t := by
 have hi := inv_ok hg hm
 have h1 := cj_back hg hi (h := ⟨t, true, (0, 0)⟩) ht
 have e : inv g (inv g m) = m := by
  refine ext_maps hg (inv_ok hg hi) hm fun z => ?_
  have e1 : To g (inv g m) (To g m z) = z := by rw [← To_both hg hm, (both_inv hg hm).1, To_idm]
  have e2 : To g (inv g (inv g m)) (To g (inv g m) (To g m z)) = To g m z := by rw [← To_both hg hi, (both_inv hg hi).1, To_idm]
  rw [e1] at e2
  exact e2
 rw [e, cj_flip] at h1
 have h2 := congrArg Mv.t h1
 exact h2
theorem line_moved (hg : G g) {m : Mv} (hm : okT g m) {t : Nat} (ht : t < g.toNat) {o : Pt} (h : LineP g col t o) : LineP g (movd g m col) (cjT g m t) (cjM g m ⟨t, true, o⟩).o := by
 obtain ⟨s, s1, s2, s3⟩ := h
 have hh : okT g (⟨t, true, o⟩ : Mv) := ht
 have hL := cj_lin hg hm hh
 have hT := cj_To hg hm hh
 rw [cj_flip] at hL hT
 simp only at hL
 generalize (cjM g m ⟨t, true, o⟩).o = o' at *
 have ha : al g (cjT g m t) o' = lin g m.t m.f (al g t o) := by
  have h1 := flip_twice hg (cjT g m t) o' (To g m (0, 0))
  rw [hT, hT, flip_twice hg, To_add] at h1
  have e1 := congrArg Prod.fst h1
  have e2 := congrArg Prod.snd h1
  simp only [add] at e1 e2
  apply ext2 <;> omega
 refine ⟨lin g m.t m.f s, stp_moved hg hm s1, ?_, ?_⟩
 ·have := hL s
  rw [show lin g t true s = s from s2] at this
  exact this
 ·rw [ha, ← lin_add, ← lin_add, s3, klin_zero]
theorem flip_moved (hg : G g) {m : Mv} (hm : okT g m) {t : Nat} (ht : t < g.toNat) (h : FlipC g col t) : FlipC g (movd g m col) (cjT g m t) := by
 obtain ⟨o, k⟩ := h
 have := cj_keep hg hm (h := ⟨t, true, o⟩) ht k
 rw [cj_flip] at this
 exact ⟨_, this⟩
theorem mir_moved (hg : G g) {m : Mv} (hm : okT g m) {t : Nat} (ht : t < g.toNat) (h : MirC g col t) : MirC g (movd g m col) (cjT g m t) := by
 obtain ⟨o, k, l⟩ := h
 have := cj_keep hg hm (h := ⟨t, true, o⟩) ht k
 rw [cj_flip] at this
 exact ⟨_, this, line_moved hg hm ht l⟩
theorem gli_moved (hg : G g) {m : Mv} (hm : okT g m) {t : Nat} (ht : t < g.toNat) (h : GliC g col t) : GliC g (movd g m col) (cjT g m t) := by
 obtain ⟨o, k, l⟩ := h
 have h1 := cj_keep hg hm (h := ⟨t, true, o⟩) ht k
 have hb := cj_back hg hm (h := ⟨t, true, o⟩) ht
 rw [cj_flip] at h1 hb
 refine ⟨_, h1, fun hl => l ?_⟩
 have h2 := line_moved hg (inv_ok hg hm) (cjT_lt hg m t) hl
 rw [movd_inv hg hm, hb] at h2
 rw [cj_flip] at hb
 have h3 := congrArg Mv.t hb
 simp only at h3
 rw [h3] at h2
 exact h2
theorem sho_moved (hg : G g) {m : Mv} (hm : okT g m) {z : Pt} (h : ShoC g col z) : ShoC g (movd g m col) (lin g m.t m.f z) := by
 obtain ⟨h1, h2, h3⟩ := h
 have hn : ∀ y, nrm g (lin g m.t m.f y) = nrm g y := fun y => nrm_lin hg _ _ _
 refine ⟨stp_moved hg hm h1, fun e => ?_, fun y hy hy0 => ?_⟩
 ·have := hn z
  rw [e] at this
  have h4 := nrm_pos hg h2
  have h5 : nrm g (0, 0) = 0 := by rcases hg with rfl | rfl <;> simp [nrm4, nrm6]
  omega
 ·have k1 := stp_moved hg (inv_ok hg hm) hy
  rw [movd_inv hg hm] at k1
  have k2 : nrm g (lin g (inv g m).t (inv g m).f y) = nrm g y := nrm_lin hg _ _ _
  rw [hn, ← k2]
  refine h3 _ k1 fun e => ?_
  rw [e] at k2
  have h4 := nrm_pos hg hy0
  have h5 : nrm g (0, 0) = 0 := by rcases hg with rfl | rfl <;> simp [nrm4, nrm6]
  omega
theorem along_moved (hg : G g) {m : Mv} (hm : okT g m) (h : AlongC g col) : AlongC g (movd g m col) := by
 obtain ⟨t, ht, hf, z, hz, hr⟩ := h
 refine ⟨_, cjT_lt hg m t, flip_moved hg hm ht hf, _, sho_moved hg hm hz, ?_⟩
 have := cj_lin hg hm (h := ⟨t, true, (0, 0)⟩) ht z
 rw [cj_flip] at this
 simp only at this
 rw [show lin g t true z = z from hr] at this
 exact this
theorem turn_moved (hg : G g) {m : Mv} (hm : okT g m) {t : Nat} (ht : t < g.toNat) (h : TurnC g col t) : TurnC g (movd g m col) t := by
 obtain ⟨o, k⟩ := h
 have hn : G g := hg
 have h1 : ∀ h : Mv, okT g h → h.f = false → Keep g col h → TurnC g (movd g m col) (cjM g m h).t := fun h hh hf k => by
  have k2 := cj_keep hg hm hh k
  have hf2 := cj_f (g := g) m h
  rw [hf] at hf2
  generalize cjM g m h = x at *
  obtain ⟨xt, xf, xo⟩ := x
  simp only at hf2
  subst hf2
  exact ⟨_, k2⟩
 have k1 := Keep.inv hg (m := ⟨t, false, o⟩) ht k
 have hi := inv_ok hg (f := ⟨t, false, o⟩) ht
 have c1 := h1 ⟨t, false, o⟩ ht rfl k
 have c2 := h1 _ hi rfl k1
 have e : (cjM g m ⟨t, false, o⟩).t = t ∨ (cjM g m (inv g ⟨t, false, o⟩)).t = t := by
  unfold okT at hm
  unfold cjM both inv bothT invT
  simp only
  cases m.f <;> simp
  ·left
   generalize g.toNat = n at *
   generalize m.t = s at *
   rw [show s + t + (n - s) = t + n by omega]
   simp [Nat.mod_eq_of_lt ht]
  ·right
   generalize g.toNat = n at *
   generalize m.t = s at *
   by_cases hs : t = 0
   ·subst hs
    simp
    rw [show s + n + (n - s) = n * 2 by omega]; simp
   ·rw [Nat.mod_eq_of_lt (show n - t < n by omega)]
    rw [show s + (n - (n - t)) = s + t by omega]
    rw [show s + t + (n - s) = t + n by omega]
    simp [Nat.mod_eq_of_lt ht]
 rcases e with e | e
 ·rw [e] at c1; exact c1
 ·rw [e] at c2; exact c2
end
end Z
namespace Z
open Classical in
structure SameSig (g : Int) (col col' : Pt → Int) : Prop where
 turn : ∀ t, t < g.toNat → (TurnC g col t ↔ TurnC g col' t)
 ways : ∀ Q : Bool → Bool → Prop, (∀ t, t < g.toNat → FlipC g col t → Q (decide (MirC g col t)) (decide (GliC g col t))) ↔ (∀ t, t < g.toNat → FlipC g col' t → Q (decide (MirC g col' t)) (decide (GliC g col' t)))
 along : AlongC g col ↔ AlongC g col'
theorem sig_moved {g : Int} {col : Pt → Int} (hg : G g) {m : Mv} (hm : okT g m) : SameSig g col (movd g m col) := by
 have hi := inv_ok hg hm
 have hc := movd_inv (col := col) hg hm
 refine ⟨fun t ht => ⟨turn_moved hg hm ht, fun h => ?_⟩, fun Q => ⟨fun h t ht hf => ?_, fun h t ht hf => ?_⟩, ⟨along_moved hg hm, fun h => ?_⟩⟩
 ·have := turn_moved hg hi ht h
  rwa [hc] at this
 ·have h1 := flip_moved hg hi ht hf
  rw [hc] at h1
  have hb := cjT_back hg hm ht
  have hl := cjT_lt hg (inv g m) t
  have h2 := h _ hl h1
  have e1 : MirC g col (cjT g (inv g m) t) ↔ MirC g (movd g m col) t := ⟨fun k => by have := mir_moved hg hm hl k; rwa [hb] at this, fun k => by have := mir_moved hg hi ht k; rwa [hc] at this⟩
  have e2 : GliC g col (cjT g (inv g m) t) ↔ GliC g (movd g m col) t := ⟨fun k => by have := gli_moved hg hm hl k; rwa [hb] at this, fun k => by have := gli_moved hg hi ht k; rwa [hc] at this⟩
  rw [decide_eq_decide.2 e1, decide_eq_decide.2 e2] at h2
  exact h2
 ·have h1 := flip_moved hg hm ht hf
  have hl := cjT_lt hg m t
  have hb : cjT g (inv g m) (cjT g m t) = t := by
   have h9 := cj_back hg hm (h := ⟨t, true, (0, 0)⟩) ht
   rw [cj_flip, cj_flip] at h9
   exact congrArg Mv.t h9
  have h2 := h _ hl h1
  have e1 : MirC g (movd g m col) (cjT g m t) ↔ MirC g col t := ⟨fun k => by have := mir_moved hg hi hl k; rwa [hc, hb] at this, fun k => mir_moved hg hm ht k⟩
  have e2 : GliC g (movd g m col) (cjT g m t) ↔ GliC g col t := ⟨fun k => by have := gli_moved hg hi hl k; rwa [hc, hb] at this, fun k => gli_moved hg hm ht k⟩
  rw [decide_eq_decide.2 e1, decide_eq_decide.2 e2] at h2
  exact h2
 ·have := along_moved hg hi h
  rwa [hc] at this
theorem mem_waysF_way (g a b c : Int) (P : Nat × Bool × Bool → Prop) (L : List Mv) : ∀ E : List (Nat × Bool × Bool), (∀ e ∈ E, P e) → (∀ m ∈ L, m.f = true → P (m.t, wayP g a b c m)) → ∀ e ∈ L.foldl (wayS g a b c) E, P e := by
 induction L with
 | nil => intro E h _; exact h
 | cons x L ih =>
  intro E h hL
  refine ih _ ?_ (fun m hm => hL m (List.mem_cons_of_mem _ hm))
  unfold wayS
  split
  ·exact h
  ·rename_i hn
   intro e he
   rcases List.mem_append.1 he with he | he
   ·exact h e he
   ·rw [List.mem_singleton] at he
    subst he
    refine hL x (List.mem_cons_self ..) ?_
    cases hx : x.f
    ·exact absurd (.inl hx) hn
    ·rfl
section
variable {g : Nat} {n : Nat} {col : Pt → Int} {L : List Mv}
theorem hasT_keep (h : Grp (g : Int) n col L) (hg : G (g : Int)) (hn : 0 < n) (hp : Per n col) (f : Bool) {t : Nat} (ht : t < g) : hasT L f t = true ↔ ∃ o, Keep (g : Int) col ⟨t, f, o⟩ := by
 rw [hasT_iff]
 constructor
 ·rintro ⟨m, hm, rfl, rfl⟩
  exact ⟨m.o, h.keep hm⟩
 ·rintro ⟨o, k⟩
  exact ⟨_, h.red (by omega) hp (m := ⟨t, f, o⟩) (show t < ((g : Int)).toNat by omega) k, rfl, rfl⟩
open Classical in
theorem kind_sig (h : Grp (g : Int) n col L) (hg : G (g : Int)) (hn : 0 < n) (hp : Per n col) {a b c : Int} (hf : Fine (Stp col) a b c) (ha : a ≤ 24) :
  ((turnsF L).length = (List.range g).countP fun t => decide (TurnC g col t)) ∧
  (∀ Q : Bool → Bool → Prop, (∀ e ∈ waysF g a b c L, Q e.2.1 e.2.2) ↔ (∀ t, t < (g : Int).toNat → FlipC g col t → Q (decide (MirC g col t)) (decide (GliC g col t)))) ∧
  (alongB g a b c (waysF g a b c L) = true ↔ AlongC g col) := by
 have hway : ∀ e ∈ waysF g a b c L, ∃ o, Keep (g : Int) col ⟨e.1, true, o⟩ ∧ e.1 < g ∧ e.2 = (decide (MirC g col e.1), decide (GliC g col e.1)) := by
  refine mem_waysF_way g a b c _ L [] (by simp) fun m hm hmf => ?_
  obtain ⟨mt, mf, mo⟩ := m
  simp only at hmf
  subst hmf
  have hok := h.ok hm
  have hk := h.keep hm
  have hs := way_spec hg hf hok hk
  refine ⟨mo, hk, by show mt < g; unfold okT at hok; simp only at hok; omega, ?_⟩
  simp only
  apply Prod.ext
  ·rw [Bool.eq_iff_iff, hs.1, decide_eq_true_eq]
  ·rw [Bool.eq_iff_iff, hs.2, decide_eq_true_eq]
 refine ⟨?_, fun Q => ?_, ?_⟩
 ·rw [turns_len h]
  refine List.countP_congr fun t ht => ?_
  rw [hasT_keep h hg hn hp false (List.mem_range.1 ht), decide_eq_true_eq]
  rfl
 ·constructor
  ·intro k t ht hfl
   have h1 := (hasT_keep h hg hn hp true (t := t) (by omega)).2 hfl
   obtain ⟨m, hm, h2, h3⟩ := hasT_iff.1 h1
   obtain ⟨e, he, h4⟩ := List.mem_map.1 (mem_ways (g := g) (a := a) (b := b) (c := c).2 ⟨m, hm, h2, h3⟩)
   obtain ⟨o, _, _, h5⟩ := hway e he
   have h6 := k e he
   rw [h5, h4] at h6
   exact h6
  ·intro k e he
   obtain ⟨o, h1, h2, h3⟩ := hway e he
   rw [h3]
   exact k e.1 (by omega) ⟨o, h1⟩
 ·unfold alongB AlongC
  rw [List.any_eq_true]
  constructor
  ·rintro ⟨e, he, hz⟩
   rw [List.any_eq_true] at hz
   obtain ⟨z, hz1, hz2⟩ := hz
   obtain ⟨o, h1, h2, h3⟩ := hway e he
   exact ⟨e.1, by omega, ⟨o, h1⟩, z, (ksh_all hg hf ha z).1 hz1, of_decide_eq_true hz2⟩
  ·rintro ⟨t, ht, hfl, z, hz1, hz2⟩
   have h1 := (hasT_keep h hg hn hp true (t := t) (by omega)).2 hfl
   obtain ⟨m, hm, h2, h3⟩ := hasT_iff.1 h1
   obtain ⟨e, he, h4⟩ := List.mem_map.1 (mem_ways (g := g) (a := a) (b := b) (c := c).2 ⟨m, hm, h2, h3⟩)
   refine ⟨e, he, ?_⟩
   rw [List.any_eq_true]
   exact ⟨z, (ksh_all hg hf ha z).2 hz1, by rw [h4]; exact decide_eq_true hz2⟩
end
theorem kindP_congr {tn : Nat} {al1 al2 : Bool} {E E' : List (Nat × Bool × Bool)} (hal : al1 = al2) (h : ∀ Q : Bool → Bool → Prop, (∀ e ∈ E, Q e.2.1 e.2.2) ↔ (∀ e ∈ E', Q e.2.1 e.2.2)) : kindP tn al1 E = kindP tn al2 E' := by
 have h0 : E = [] ↔ E' = [] := by
  have := h (fun _ _ => False)
  constructor
  ·rintro rfl
   cases E' with
   | nil => rfl
   | cons e E' => exact (this.1 (by simp) e (List.mem_cons_self ..)).elim
  ·rintro rfl
   cases E with
   | nil => rfl
   | cons e E => exact (this.2 (by simp) e (List.mem_cons_self ..)).elim
 have hq : ∀ p q : Bool, (∀ e ∈ E, e.2 = (p, q)) ↔ (∀ e ∈ E', e.2 = (p, q)) := fun p q => by
  have := h (fun x y => x = p ∧ y = q)
  simp only [Prod.ext_iff]
  exact this
 have hm : (∀ e ∈ E, e.2.1 = true) ↔ (∀ e ∈ E', e.2.1 = true) := h (fun x _ => x = true)
 unfold kindP
 simp only [h0, hq, hm, hal]
open Classical in
theorem kind_same {g n n' : Nat} {col col' : Pt → Int} {L L' : List Mv} (h : Grp (g : Int) n col L) (h' : Grp (g : Int) n' col' L') (hg : G (g : Int)) (hn : 0 < n) (hn' : 0 < n') (hp : Per n col) (hp' : Per n' col') {a b c a' b' c' : Int} (hf : Fine (Stp col) a b c) (hf' : Fine (Stp col') a' b' c') (ha : a ≤ 24) (ha' : a' ≤ 24) (hs : SameSig g col col') :
  kindP (turnsF L).length (alongB g a b c (waysF g a b c L)) (waysF g a b c L) = kindP (turnsF L').length (alongB g a' b' c' (waysF g a' b' c' L')) (waysF g a' b' c' L') := by
 obtain ⟨h1, h2, h3⟩ := kind_sig h hg hn hp hf ha
 obtain ⟨k1, k2, k3⟩ := kind_sig h' hg hn' hp' hf' ha'
 have ht : (turnsF L).length = (turnsF L').length := by
  rw [h1, k1]
  exact List.countP_congr fun t ht => by rw [decide_eq_true_eq, decide_eq_true_eq]; exact hs.turn t (by have := List.mem_range.1 ht; omega)
 rw [ht]
 refine kindP_congr ?_ fun Q => ?_
 ·rw [Bool.eq_iff_iff, h3, k3]
  exact hs.along
 ·rw [h2, k2]
  exact hs.ways Q
end Z
section
open Go.RowKit
open Z (torN place pnt Mv To lin okT nrm both idm md stepB Grp Per Keep Stp Fine LineP MirC GliC FlipC TurnC AlongC add neg sml al rf Eqm redM hasT torusL turnsF waysF alongB kindP movesL)
section
variable {g : Int} {n : Nat} {col : Z.Pt → Int} {L : List Mv}
end
end
section
open Go.RowKit
open Z (torN place pnt Mv To lin okT nrm both idm md stepB Grp Per Keep Stp Fine LineP MirC GliC FlipC TurnC AlongC add neg sml al rf Eqm redM hasT torusL turnsF waysF alongB kindP movesL)
section
variable {g : Int} {col : Z.Pt → Int}
end
section
variable {col : Z.Pt → Int}
end
end
section
open Go.RowKit
open Z (torN place pnt Mv To lin okT nrm both idm md stepB Grp Per Keep Stp Fine LineP MirC GliC FlipC TurnC AlongC ShoC add neg sml al rf dir Eqm redM hasT torusL turnsF waysF alongB kindP movesL)
section
variable {col : Z.Pt → Int}
end
end
section
open Go.RowKit
open Z (torN place pnt Mv To lin okT nrm both idm md stepB Grp Per Keep Stp Fine LineP MirC GliC FlipC TurnC AlongC ShoC add neg sml al rf dir Eqm redM hasT torusL turnsF waysF alongB kindP movesL bothT)
section
variable {g : Int} {n : Nat} {col : Z.Pt → Int} {L : List Mv}
end
section
variable {n : Nat} {col : Z.Pt → Int} {L : List Mv}
end
end
section
open Go.RowKit
open Z (torN place pnt Mv To lin okT nrm both idm md stepB Grp Per Keep Stp Fine LineP MirC GliC FlipC TurnC AlongC ShoC add neg sml al rf dir Eqm redM hasT torusL turnsF waysF alongB kindP movesL bothT)
section
variable {n : Nat} {col : Z.Pt → Int} {L : List Mv}
end
end
section
open Go.RowKit
open Z (torN place pnt Mv To lin okT nrm both idm md stepB Grp Per Keep Stp Fine LineP MirC GliC FlipC TurnC AlongC ShoC add neg sml al rf dir Eqm redM hasT torusL turnsF waysF alongB kindP movesL bothT movd inv cjT)
section
variable {n : Nat} {col : Z.Pt → Int} {L : List Mv}
end
end
end Go.Proofs.YtajdoobkfbdgoaaDoor
