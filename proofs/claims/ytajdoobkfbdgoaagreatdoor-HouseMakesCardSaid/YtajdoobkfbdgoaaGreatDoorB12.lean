/- Lemmas on which the law of this seat rests; each states its own conditions. -/
import Derived.Test.YtajdoobkfbdgoaaGreatDoorB11
import Derived.Test.YtajdoobkfbdgoaaGreatDoorB08
set_option linter.unusedVariables false
set_option linter.unusedSimpArgs false
namespace Go.Proofs.YtajdoobkfbdgoaaGreatDoor
namespace Z
def dir (g : Int) (t : Nat) : Pt :=
 if g = 4 then (if t = 0 then (1, 0) else if t = 1 then (1, 1) else if t = 2 then (0, 1) else (1, -1))
 else (if t = 0 then (1, 0) else if t = 1 then (1, 1) else if t = 2 then (0, 1) else if t = 3 then (1, -2) else if t = 4 then (1, -1) else (2, -1))
theorem fix_dir {g : Int} (hg : G g) {t : Nat} (ht : t < g.toNat) (z : Pt) : rf g t z = z ↔ ∃ k, z = sml k (dir g t) := by
 obtain ⟨x, y⟩ := z
 rcases hg with rfl | rfl
 ·rw [rf4 t ht]
  have h4 : t = 0 ∨ t = 1 ∨ t = 2 ∨ t = 3 := by have : t < 4 := ht; omega
  rcases h4 with rfl | rfl | rfl | rfl <;> simp [dir, sml] <;> first
   | exact ⟨fun h => ⟨x, by omega, by omega⟩, fun ⟨k, h1, h2⟩ => by omega⟩
   | exact ⟨fun h => ⟨x, by omega⟩, fun ⟨k, h⟩ => by omega⟩
   | omega
 ·rw [rf6 t ht]
  have h6 : t = 0 ∨ t = 1 ∨ t = 2 ∨ t = 3 ∨ t = 4 ∨ t = 5 := by have : t < 6 := ht; omega
  rcases h6 with rfl | rfl | rfl | rfl | rfl | rfl <;> simp [dir, sml] <;> first
   | exact ⟨fun h => ⟨x, by omega, by omega⟩, fun ⟨k, h1, h2⟩ => by omega⟩
   | exact ⟨fun h => ⟨-y, by omega, by omega⟩, fun ⟨k, h1, h2⟩ => by omega⟩
   | omega
theorem dir_ne (g : Int) (t : Nat) : dir g t ≠ (0, 0) := by
 unfold dir
 (repeat' split) <;> decide
theorem dir_dvd (g : Int) (t : Nat) (n k : Int) (h1 : n ∣ k * (dir g t).1) (h2 : n ∣ k * (dir g t).2) : n ∣ k := by
 unfold dir at h1 h2
 (repeat' split at h1) <;> simp_all [Int.dvd_neg]
theorem al_add (g : Int) (t : Nat) (y z : Pt) : al g t (add y z) = add (al g t y) (al g t z) := by
 unfold al
 rw [rf_add]
 apply ext2 <;> simp [add] <;> omega
theorem al_sml (g k : Int) (t : Nat) (z : Pt) : al g t (sml k z) = sml k (al g t z) := by
 unfold al
 rw [rf_sml]
 apply ext2 <;> simp [add, sml, Int.mul_add]
theorem sml_add (a b : Int) (d : Pt) : add (sml a d) (sml b d) = sml (a + b) d := by apply ext2 <;> simp [add, sml, Int.add_mul]
theorem sml_sml (a b : Int) (d : Pt) : sml a (sml b d) = sml (a * b) d := by apply ext2 <;> simp [sml, Int.mul_assoc]
theorem sml_inj {a b : Int} {d : Pt} (hd : d ≠ (0, 0)) (h : sml a d = sml b d) : a = b := by
 have h1 : a * d.1 = b * d.1 := congrArg Prod.fst h
 have h2 : a * d.2 = b * d.2 := congrArg Prod.snd h
 by_cases e : d.1 = 0
 ·have e2 : d.2 ≠ 0 := fun e3 => hd (ext2 e e3)
  exact Int.eq_of_mul_eq_mul_right e2 h2
 ·exact Int.eq_of_mul_eq_mul_right e h1
theorem sml_zero (d : Pt) : sml 0 d = (0, 0) := by apply ext2 <;> simp [sml]
theorem shoN_max {a b c : Int} {v : Pt} {m : Nat} (h : dvN a b c v m = true) : ∀ n, m ≤ n → m ≤ shoN a b c v n
 | 0, hm => by omega
 | n + 1, hm => by
  rw [shoN]
  split
  ·exact hm
  ·rename_i h2
   by_cases e : m = n + 1
   ·subst e; exact absurd h h2
   ·exact shoN_max h n (by omega)
theorem shoN_mem {a b c : Int} {v : Pt} (hv : v ≠ (0, 0)) (h : latB a b c v = true) : 1 ≤ shoN a b c v (szP v) ∧ dvN a b c v (shoN a b c v (szP v)) = true := by
 have := shoN_spec (dvN_one h) (szP v) (szP_pos hv)
 exact ⟨this.1, this.2.2⟩
theorem sho_gen {S : Pt → Prop} (hs : Sub S) {a b c : Int} (hl : ∀ z, latB a b c z = true ↔ S z) {d : Pt} (hd0 : d ≠ (0, 0)) (hd : ∀ n k : Int, n ∣ k * d.1 → n ∣ k * d.2 → n ∣ k) {kv : Int} (hv : kv ≠ 0) (hS : S (sml kv d)) :
  ∃ kp, kp ≠ 0 ∧ shoP a b c (sml kv d) = sml kp d ∧ ∀ k, S (sml k d) → kp ∣ k := by
 have hv0 : sml kv d ≠ (0, 0) := fun e => hv (sml_inj hd0 (e.trans (sml_zero d).symm))
 obtain ⟨hN1, hdv⟩ := shoN_mem hv0 ((hl _).2 hS)
 have hmax : ∀ m, dvN a b c (sml kv d) m = true → m ≤ szP (sml kv d) → m ≤ shoN a b c (sml kv d) (szP (sml kv d)) := fun m h h2 => shoN_max h _ h2
 unfold shoP
 generalize shoN a b c (sml kv d) (szP (sml kv d)) = N at *
 unfold dvN at hdv
 rw [Bool.and_eq_true, Bool.and_eq_true, decide_eq_true_eq, decide_eq_true_eq] at hdv
 obtain ⟨⟨e1, e2⟩, e3⟩ := hdv
 obtain ⟨kp, hkp⟩ := hd N kv (Int.dvd_of_emod_eq_zero e1) (Int.dvd_of_emod_eq_zero e2)
 have hp : ∀ M k : Int, M ≠ 0 → kv = M * k → ((sml kv d).1 / M, (sml kv d).2 / M) = sml k d := fun M k hM h => by
  apply ext2
  ·show kv * d.1 / M = k * d.1
   rw [h, Int.mul_assoc, Int.mul_ediv_cancel_left _ hM]
  ·show kv * d.2 / M = k * d.2
   rw [h, Int.mul_assoc, Int.mul_ediv_cancel_left _ hM]
 have hp1 := hp N kp (by omega) hkp
 rw [hp1] at e3
 have hSp := (hl _).1 e3
 have hkp0 : kp ≠ 0 := by rintro rfl; simp at hkp; exact hv hkp
 refine ⟨kp, hkp0, hp1, ?_⟩
 -- the least step of the line
 classical
 have hsz : kv.natAbs ≤ szP (sml kv d) := by
  unfold szP
  show kv.natAbs ≤ (kv * d.1).natAbs + (kv * d.2).natAbs
  rw [Int.natAbs_mul, Int.natAbs_mul]
  by_cases e : d.1 = 0
  ·have e2 : d.2 ≠ 0 := fun e3 => hd0 (ext2 e e3)
   have := Nat.le_mul_of_pos_right kv.natAbs (show 0 < d.2.natAbs by omega)
   omega
  ·have := Nat.le_mul_of_pos_right kv.natAbs (show 0 < d.1.natAbs by omega)
   omega
 have hneg : ∀ k, S (sml k d) → S (sml (-k) d) := fun k h => by
  have := hs.neg _ h
  rwa [show neg (sml k d) = sml (-k) d by apply ext2 <;> simp [neg, sml, Int.neg_mul]] at this
 have hadd : ∀ j k, S (sml j d) → S (sml k d) → S (sml (j + k) d) := fun j k h1 h2 => by
  have := hs.add _ _ h1 h2
  rwa [sml_add] at this
 have hmul : ∀ j k, S (sml k d) → S (sml (j * k) d) := fun j k h => by
  have := hs.sml h j
  rwa [show ((j * (sml k d).1, j * (sml k d).2) : Pt) = sml (j * k) d by apply ext2 <;> simp [sml, Int.mul_assoc]] at this
 obtain ⟨k0, _, hk0, hmin⟩ := least (fun n => decide (0 < n ∧ S (sml (n : Int) d))) kv.natAbs (by
  rw [decide_eq_true_eq]
  refine ⟨by omega, ?_⟩
  rcases Int.natAbs_eq kv with e | e
  ·rw [← e]; exact hS
  ·have h1 := hneg _ hS
   rw [show -kv = (kv.natAbs : Int) by omega] at h1
   exact h1)
 rw [decide_eq_true_eq] at hk0
 obtain ⟨hk0p, hk0S⟩ := hk0
 have hdvd : ∀ k, S (sml k d) → (k0 : Int) ∣ k := fun k hk => by
  have h1 := hadd _ _ hk (hmul (-(k / (k0 : Int))) _ hk0S)
  have e : k + -(k / (k0 : Int)) * (k0 : Int) = k % (k0 : Int) := by have := Int.emod_add_ediv_mul k k0; rw [Int.neg_mul]; omega
  rw [e] at h1
  have h2 := Int.emod_nonneg k (show (k0 : Int) ≠ 0 by omega)
  have h3 := Int.emod_lt_of_pos k (show (0 : Int) < k0 by omega)
  by_cases h4 : k % (k0 : Int) = 0
  ·exact Int.dvd_of_emod_eq_zero h4
  ·have h5 := hmin (k % (k0 : Int)).toNat (by omega)
   rw [decide_eq_false_iff_not] at h5
   exact absurd ⟨by omega, by rw [show (((k % (k0 : Int)).toNat : Nat) : Int) = k % (k0 : Int) by omega]; exact h1⟩ h5
 intro k hk
 obtain ⟨j, hj⟩ := hdvd kp hSp
 have hj0 : j ≠ 0 := by rintro rfl; simp at hj; exact hkp0 hj
 have h1 : dvN a b c (sml kv d) (N * j.natAbs) = true := by
  have hM : ((N * j.natAbs : Nat) : Int) ≠ 0 := by
   have : 0 < N * j.natAbs := Nat.mul_pos hN1 (by omega)
   omega
  obtain ⟨s, hs1, hs2⟩ : ∃ s : Int, kv = ((N * j.natAbs : Nat) : Int) * s ∧ S (sml s d) := by
   rcases Int.natAbs_eq j with e | e
   ·refine ⟨k0, ?_, hk0S⟩
    rw [hkp, hj]
    push_cast
    rw [show ((j.natAbs : Nat) : Int) = j from e.symm, Int.mul_assoc, Int.mul_comm (k0 : Int) j]
   ·refine ⟨-(k0 : Int), ?_, hneg _ hk0S⟩
    rw [hkp, hj]
    push_cast
    rw [show ((j.natAbs : Nat) : Int) = -j by omega, Int.mul_assoc, Int.neg_mul_neg, Int.mul_comm (k0 : Int) j]
  unfold dvN
  rw [hp _ s hM hs1, (hl _).2 hs2, Bool.and_true, Bool.and_eq_true, decide_eq_true_eq, decide_eq_true_eq]
  constructor
  ·show kv * d.1 % _ = 0
   rw [hs1, Int.mul_assoc]
   exact Int.mul_emod_right _ _
  ·show kv * d.2 % _ = 0
   rw [hs1, Int.mul_assoc]
   exact Int.mul_emod_right _ _
 have h2 : N * j.natAbs ≤ szP (sml kv d) := by
  refine Nat.le_trans ?_ hsz
  refine Nat.le_of_dvd (by omega) ?_
  rw [hkp, hj, Int.natAbs_mul, Int.natAbs_mul, Int.natAbs_natCast]
  exact Nat.mul_dvd_mul (Nat.dvd_refl _) (Nat.dvd_mul_left _ _)
 have h3 := hmax _ h1 h2
 have h4 : j.natAbs = 1 := by
  have h5 : N * j.natAbs ≤ N * 1 := by omega
  have := Nat.le_of_mul_le_mul_left h5 (by omega)
  omega
 obtain ⟨q, hq⟩ := hdvd k hk
 rw [hj, hq]
 rcases Int.natAbs_eq j with e | e
 ·rw [show j = 1 by omega, Int.mul_one]; exact Int.dvd_mul_right _ _
 ·rw [show j = -1 by omega, Int.mul_neg, Int.mul_one, Int.neg_dvd]; exact Int.dvd_mul_right _ _
theorem tms_mul {d : Pt} (hd : d ≠ (0, 0)) {kp : Int} (hk : kp ≠ 0) (k : Int) : tms (sml (k * kp) d) (sml kp d) = k := by
 unfold tms
 show (if kp * d.1 ≠ 0 then Int.tdiv (k * kp * d.1) (kp * d.1) else Int.tdiv (k * kp * d.2) (kp * d.2)) = k
 by_cases e : d.1 = 0
 ·have e2 : d.2 ≠ 0 := fun e3 => hd (ext2 e e3)
  rw [if_neg (by rw [e]; simp), Int.mul_assoc, Int.mul_tdiv_cancel _ (Int.mul_ne_zero hk e2)]
 ·rw [if_pos (Int.mul_ne_zero hk e), Int.mul_assoc, Int.mul_tdiv_cancel _ (Int.mul_ne_zero hk e)]
def LineP (g : Int) (col : Pt → Int) (t : Nat) (o : Pt) : Prop := ∃ s, Stp col s ∧ rf g t s = s ∧ add (al g t o) (add s s) = (0, 0)
def MirC (g : Int) (col : Pt → Int) (t : Nat) : Prop := ∃ o, Keep g col ⟨t, true, o⟩ ∧ LineP g col t o
def GliC (g : Int) (col : Pt → Int) (t : Nat) : Prop := ∃ o, Keep g col ⟨t, true, o⟩ ∧ ¬ LineP g col t o
section
variable {g : Int} {col : Pt → Int} {t : Nat} {a b c : Int}
theorem flip_diff (hg : G g) (ht : t < g.toNat) {o o' : Pt} (h : Keep g col ⟨t, true, o⟩) (h' : Keep g col ⟨t, true, o'⟩) : Stp col (add o' (neg o)) := by
 intro p
 have hi : okT g (⟨t, true, o⟩ : Mv) := ht
 have hb := both_inv hg hi
 have hk := Keep.inv hg hi h
 have e : ∀ q, To g ⟨t, true, o'⟩ q = add (To g ⟨t, true, o⟩ q) (add o' (neg o)) := fun q => by unfold To; apply ext2 <;> simp [add, neg] <;> omega
 have h1 := h' (To g (inv g ⟨t, true, o⟩) p)
 rw [e, ← To_both hg (inv_ok hg hi), hb.2, To_idm] at h1
 rw [h1]
 exact hk p
theorem keep_shift {o : Pt} (h : Keep g col ⟨t, true, o⟩) {z : Pt} (hz : Stp col z) : Keep g col ⟨t, true, add o z⟩ := fun q => by
 have e : To g ⟨t, true, add o z⟩ q = add (To g ⟨t, true, o⟩ q) z := by unfold To; apply ext2 <;> simp [add] <;> omega
 rw [e, hz, h]
theorem al_keep (hg : G g) (ht : t < g.toNat) {o : Pt} (h : Keep g col ⟨t, true, o⟩) : Stp col (al g t o) := by
 have h2 := Keep.both hg (m := ⟨t, true, o⟩) (h := ⟨t, true, o⟩) ht h h
 rw [← stp_keep (g := g)]
 have hb : bothT g ⟨t, true, o⟩ ⟨t, true, o⟩ = 0 := by
  unfold bothT
  simp only [if_true]
  rw [show t + (g.toNat - t) = g.toNat by omega, Nat.mod_self]
 have e : both g ⟨t, true, o⟩ ⟨t, true, o⟩ = ⟨0, false, al g t o⟩ := by
  unfold both
  rw [hb]
  have : To g ⟨t, true, o⟩ o = al g t o := by unfold To al rf; apply ext2 <;> simp [add] <;> omega
  simp only [this, Bool.xor_self]
 rw [e] at h2
 exact h2
theorem both_o (o : Pt) : (both g ⟨t, true, o⟩ ⟨t, true, o⟩).o = al g t o := by
 show To g ⟨t, true, o⟩ o = al g t o
 unfold To al rf
 apply ext2 <;> simp [add] <;> omega
theorem way_parts (hg : G g) (hf : Fine (Stp col) a b c) (ht : t < g.toNat) {o : Pt} (h : Keep g col ⟨t, true, o⟩) :
  ∃ kp, kp ≠ 0 ∧ shoP a b c (if al g t (a, 0) = (0, 0) then al g t (c, b) else al g t (a, 0)) = sml kp (dir g t) ∧ (∀ k, Stp col (sml k (dir g t)) ↔ kp ∣ k) ∧
   ∃ m0 m1, al g t (a, 0) = sml (m0 * kp) (dir g t) ∧ al g t (c, b) = sml (m1 * kp) (dir g t) := by
 have hs := stp_sub col
 have hok : okT g (⟨t, true, o⟩ : Mv) := ht
 have hsa : Stp col (al g t (a, 0)) := stp_al hg hok h rfl hf.sa
 have hsb : Stp col (al g t (c, b)) := stp_al hg hok h rfl hf.sb
 obtain ⟨k0, hk0⟩ := (fix_dir hg ht _).1 (al_fix hg t (a, 0))
 obtain ⟨k1, hk1⟩ := (fix_dir hg ht _).1 (al_fix hg t (c, b))
 have hd0 := dir_ne g t
 have hd := dir_dvd g t
 have hone : al g t (a, 0) = (0, 0) → al g t (c, b) ≠ (0, 0) := fun e => al_one hg ht hf.a0 hf.b0 e
 rw [hk0] at hsa hone ⊢
 rw [hk1] at hsb hone ⊢
 generalize dir g t = d at *
 have hz : ∀ k, sml k d = (0, 0) ↔ k = 0 := fun k => ⟨fun e => sml_inj hd0 (e.trans (sml_zero d).symm), fun e => by rw [e, sml_zero]⟩
 have hv : ∃ kv, kv ≠ 0 ∧ Stp col (sml kv d) ∧ (if sml k0 d = (0, 0) then sml k1 d else sml k0 d) = sml kv d := by
  by_cases e : k0 = 0
  ·rw [if_pos ((hz k0).2 e)]
   exact ⟨k1, fun e1 => hone ((hz k0).2 e) ((hz k1).2 e1), hsb, rfl⟩
  ·rw [if_neg (fun e1 => e ((hz k0).1 e1))]
   exact ⟨k0, e, hsa, rfl⟩
 obtain ⟨kv, hkv, hSv, he⟩ := hv
 rw [he]
 obtain ⟨kp, h1, h2, h3⟩ := sho_gen hs (fun z => latB_stp hf z) hd0 hd hkv hSv
 have hp : Stp col (sml kp d) := by
  rw [← h2]
  have := (shoP_spec (a := a) (b := b) (c := c) (v := sml kv d) (fun e => hkv ((hz _).1 e)) ((latB_stp hf _).2 hSv)).1
  exact (latB_stp hf _).1 this
 obtain ⟨m0, e0⟩ := h3 k0 hsa
 obtain ⟨m1, e1⟩ := h3 k1 hsb
 refine ⟨kp, h1, h2, fun k => ⟨h3 k, ?_⟩, m0, m1, by rw [e0, Int.mul_comm], by rw [e1, Int.mul_comm]⟩
 rintro ⟨j, rfl⟩
 have := hs.sml hp j
 rwa [show ((j * (sml kp d).1, j * (sml kp d).2) : Pt) = sml (kp * j) d by apply ext2 <;> simp [sml, Int.mul_assoc, Int.mul_comm, Int.mul_left_comm]] at this
theorem way_spec (hg : G g) (hf : Fine (Stp col) a b c) (ht : t < g.toNat) {o : Pt} (h : Keep g col ⟨t, true, o⟩) :
  ((wayP g a b c ⟨t, true, o⟩).1 = true ↔ MirC g col t) ∧ ((wayP g a b c ⟨t, true, o⟩).2 = true ↔ GliC g col t) := by
 obtain ⟨kp, hkp, hsho, hgen, m0, m1, h0, h1⟩ := way_parts hg hf ht h
 have hd0 := dir_ne g t
 have hs := stp_sub col
 have hw : ∀ o', Keep g col ⟨t, true, o'⟩ → ∃ m, al g t o' = sml (m * kp) (dir g t) ∧ (LineP g col t o' ↔ m % 2 = 0) := fun o' h' => by
  obtain ⟨k, hk⟩ := (fix_dir hg ht _).1 (al_fix hg t o')
  have hS := al_keep hg ht h'
  rw [hk] at hS
  obtain ⟨m, hm⟩ := (hgen k).1 hS
  refine ⟨m, by rw [hk, hm, Int.mul_comm], ?_⟩
  constructor
  ·rintro ⟨s, s1, s2, s3⟩
   obtain ⟨ks, rfl⟩ := (fix_dir hg ht _).1 s2
   obtain ⟨j, hj⟩ := (hgen ks).1 s1
   rw [hk, sml_add, sml_add] at s3
   have e := sml_inj hd0 (s3.trans (sml_zero _).symm)
   have e2 : kp * (m + 2 * j) = kp * 0 := by rw [Int.mul_add, ← hm, show kp * (2 * j) = ks + ks by rw [Int.mul_left_comm, ← hj]; omega, Int.mul_zero]; exact e
   have := Int.eq_of_mul_eq_mul_left hkp e2
   omega
  ·intro e
   obtain ⟨j, hj⟩ : ∃ j, m = 2 * j := ⟨m / 2, by omega⟩
   refine ⟨sml (kp * -j) (dir g t), (hgen _).2 ⟨_, rfl⟩, (fix_dir hg ht _).2 ⟨_, rfl⟩, ?_⟩
   rw [hk, sml_add, sml_add, hm, hj]
   rw [show kp * (2 * j) + (kp * -j + kp * -j) = 0 by rw [Int.mul_left_comm, Int.mul_neg]; omega, sml_zero]
 have hz : ∀ z, Stp col z → ∃ i j, al g t z = sml ((i * m0 + j * m1) * kp) (dir g t) := fun z hz => by
  obtain ⟨⟨j, hj⟩, i, hi⟩ := (hf.spec hs z).1 hz
  have hb := hf.b0
  have hj2 : z.2 / b = j := by rw [hj]; exact Int.mul_ediv_cancel_left _ (by omega)
  rw [hj2] at hi
  refine ⟨i, j, ?_⟩
  have e : z = add (sml i (a, 0)) (sml j (c, b)) := by
   apply ext2
   ·show z.1 = i * a + j * c
    rw [Int.mul_comm i a]; omega
   ·show z.2 = i * 0 + j * b
    rw [hj, Int.mul_comm]; omega
  rw [e, al_add, al_sml, al_sml, h0, h1, sml_sml, sml_sml, sml_add]
  congr 1
  rw [Int.add_mul, Int.mul_assoc, Int.mul_assoc]
 obtain ⟨mw, hmw, hL⟩ := hw o h
 have hwp : wayP g a b c ⟨t, true, o⟩ = if m0 % 2 ≠ 0 ∨ m1 % 2 ≠ 0 then (true, true) else (decide (mw % 2 = 0), !decide (mw % 2 = 0)) := by
  unfold wayP
  simp only [both_o]
  rw [hsho, h0, h1, hmw, tms_mul hd0 hkp, tms_mul hd0 hkp, tms_mul hd0 hkp]
  have e2 : ∀ m : Int, Int.tmod m 2 = 0 ↔ m % 2 = 0 := fun m => by
   rw [← Int.dvd_iff_tmod_eq_zero]; omega
  simp only [ne_eq, e2]
 rw [hwp]
 by_cases hodd : m0 % 2 ≠ 0 ∨ m1 % 2 ≠ 0
 ·rw [if_pos hodd]
  -- a step that changes it
  obtain ⟨z, hzS, mz, hmz, hmo⟩ : ∃ z, Stp col z ∧ ∃ mz, al g t z = sml (mz * kp) (dir g t) ∧ mz % 2 ≠ 0 := by
   rcases hodd with e | e
   ·exact ⟨_, hf.sa, m0, h0, e⟩
   ·exact ⟨_, hf.sb, m1, h1, e⟩
  have h' := keep_shift h hzS
  obtain ⟨m', hm', hL'⟩ := hw _ h'
  have e : m' = mw + mz := by
   rw [al_add, hmw, hmz, sml_add, ← Int.add_mul] at hm'
   exact (Int.eq_of_mul_eq_mul_right hkp (sml_inj hd0 hm')).symm
  refine ⟨⟨fun _ => ?_, fun _ => rfl⟩, ⟨fun _ => ?_, fun _ => rfl⟩⟩
  ·by_cases e2 : mw % 2 = 0
   ·exact ⟨o, h, hL.2 e2⟩
   ·exact ⟨_, h', hL'.2 (by omega)⟩
  ·by_cases e2 : mw % 2 = 0
   ·exact ⟨_, h', fun hl => by have := hL'.1 hl; omega⟩
   ·exact ⟨o, h, fun hl => e2 (hL.1 hl)⟩
 ·rw [if_neg hodd]
  have hall : ∀ o', Keep g col ⟨t, true, o'⟩ → (LineP g col t o' ↔ mw % 2 = 0) := fun o' h' => by
   obtain ⟨m', hm', hL'⟩ := hw o' h'
   obtain ⟨i, j, hij⟩ := hz _ (flip_diff hg ht h h')
   have e : o' = add o (add o' (neg o)) := by apply ext2 <;> simp [add, neg] <;> omega
   rw [e, al_add, hmw, hij, sml_add, ← Int.add_mul] at hm'
   have e3 := (Int.eq_of_mul_eq_mul_right hkp (sml_inj hd0 hm')).symm
   rw [hL']
   have p0 : m0 % 2 = 0 := by omega
   have p1 : m1 % 2 = 0 := by omega
   have q0 : (i * m0) % 2 = 0 := by rw [Int.mul_emod, p0]; simp
   have q1 : (j * m1) % 2 = 0 := by rw [Int.mul_emod, p1]; simp
   omega
  constructor
  ·rw [decide_eq_true_eq]
   exact ⟨fun e => ⟨o, h, hL.2 e⟩, fun ⟨o', k1, k2⟩ => (hall o' k1).1 k2⟩
  ·simp only [Bool.not_eq_true', decide_eq_false_iff_not]
   exact ⟨fun e => ⟨o, h, fun hl => e (hL.1 hl)⟩, fun ⟨o', k1, k2⟩ e => k2 ((hall o' k1).2 e)⟩
end
end Z
section
open Go.RowKit
open Z (torN place pnt Mv To lin okT nrm both idm md stepB)
@[go_sem] theorem mv_field2 (a b c d : Value) (w : World) : (Instr.field 91 (.agg #[a, b, c, d]) 2).run Tryz.prog w = .ok (.agg #[c, d]) w := by kernel_rfl
set_option maxRecDepth 100000 in
set_option maxHeartbeats 8000000 in
theorem Twice_any (g : Int) (t : Nat) (f : Bool) (x y : Int) (w : World) (hg : g = 4 ∨ g = 6) (ht : t < g.toNat) (hn : nrm g (x, y) ≤ 10000000000000000) :
  Calls Tryz.prog 88 #[.int .i64 (g), .agg #[.int .i64 (t), .bool (f), .int .i64 (x), .int .i64 (y)]] w fun e w' => e = .returned (mvV (both g ⟨t, f, (x, y)⟩ ⟨t, f, (x, y)⟩)) ∧ Below w.heap.size w w' := by
 have HT := Lib.hid (fun w => rThen_any g x y x y t t f f w hg ht ht hn hn)
 obtain ⟨T, F, X, Y, hB⟩ : ∃ (T : Nat) (F : Bool) (X Y : Int), both g ⟨t, f, (x, y)⟩ ⟨t, f, (x, y)⟩ = ⟨T, F, (X, Y)⟩ := ⟨_, _, _, _, rfl⟩
 rw [hB] at HT ⊢
 have hV : mvV ⟨T, F, (X, Y)⟩ = .agg #[.int .i64 (T), .bool (F), .int .i64 (X), .int .i64 (Y)] := rfl
 rw [hV] at HT ⊢
 clear hg ht hn hB hV
 go_enter Tryz.func88, Tryz.ntmps88
 (go_wp2_with fail; refine (HT.out _).mono ?_; rintro r w1 ⟨rfl, hb⟩; obtain ⟨E, d, rfl⟩ := bExt hb; clear hb)
 go_wp2
 refine bodyPost_ret (v := .agg #[.int .i64 (T), .bool (F), .int .i64 (X), .int .i64 (Y)]) (by simp [results, Tryz.results88, go_sem]) rfl ⟨rfl, blw⟩
set_option maxRecDepth 100000 in
set_option maxHeartbeats 8000000 in
theorem shifted_any (n i j : Int) (t : Nat) (f : Bool) (x y : Int) (w : World) (hn : 0 ≤ n ∧ n ≤ 1000) (hi : -10 ≤ i ∧ i ≤ 10) (hj : -10 ≤ j ∧ j ≤ 10) (hx : -1000000 ≤ x ∧ x ≤ 1000000) (hy : -1000000 ≤ y ∧ y ≤ 1000000) :
  Calls Tryz.prog 45 #[.int .i64 (n), .agg #[.int .i64 (t), .bool (f), .int .i64 (x), .int .i64 (y)], .int .i64 (i), .int .i64 (j)] w fun e w' => e = .returned (mvV ⟨t, f, (x + n * i, y + n * j)⟩) ∧ Below w.heap.size w w' := by
 have b1 : -10000 ≤ n * i ∧ n * i ≤ 10000 := by
  constructor
  ·have := Int.mul_le_mul_of_nonneg_left hi.1 hn.1; omega
  ·have := Int.mul_le_mul_of_nonneg_left hi.2 hn.1; omega
 have b2 : -10000 ≤ n * j ∧ n * j ≤ 10000 := by
  constructor
  ·have := Int.mul_le_mul_of_nonneg_left hj.1 hn.1; omega
  ·have := Int.mul_le_mul_of_nonneg_left hj.2 hn.1; omega
 have hV : mvV ⟨t, f, (x + n * i, y + n * j)⟩ = .agg #[.int .i64 (t), .bool (f), .int .i64 (x + n * i), .int .i64 (y + n * j)] := rfl
 rw [hV]
 have v1 : IntKind.i64.wrap (n * i) = n * i := IntWalk.i64_in _ (by omega)
 have v2 : IntKind.i64.wrap (n * j) = n * j := IntWalk.i64_in _ (by omega)
 have v3 : IntKind.i64.wrap (x + n * i) = x + n * i := IntWalk.i64_in _ (by omega)
 have v4 : IntKind.i64.wrap (y + n * j) = y + n * j := IntWalk.i64_in _ (by omega)
 clear b1 b2 hV
 go_enter Tryz.func45, Tryz.ntmps45
 go_wp2
 refine bodyPost_ret (v := .agg #[.int .i64 (t), .bool (f), .int .i64 (x + n * i), .int .i64 (y + n * j)]) (by simp [results, Tryz.results45, go_sem]) rfl ⟨rfl, blw⟩
set_option maxRecDepth 100000 in
set_option maxHeartbeats 8000000 in
theorem Step_ok (L : List Mv) (k n : Nat) (x y : Int) (a : Option Addr) (c : Nat) (w : World) (hL : IsMoves w a k L) (hk : k ≤ 100000000) (hn : 0 < n) (h24 : n ≤ 64) (hx : (-9223372036854775808 ≤ x ∧ x ≤ 9223372036854775807)) (hy : (-9223372036854775808 ≤ y ∧ y ≤ 9223372036854775807)) :
  Calls Tryz.prog 89 #[.slice a k c, .int .i64 (n), .agg #[.int .i64 (x), .int .i64 (y)]] w fun e w' => e = .returned (.bool (stepB L (md n (x, y)))) ∧ Below w.heap.size w w' := by
 have HON := Lib.hid (fun w => On_ok n x y w hn h24 hx hy)
 have hmd : md n (x, y) = (x % (n : Int), y % (n : Int)) := rfl
 rw [hmd]
 generalize x % (n : Int) = p at *
 generalize y % (n : Int) = q at *
 have HT : Hid ((⟨0, false, (p, q)⟩ : Mv) ∈ L → stepB L (p, q) = true) := Lib.hid fun h => decide_eq_true h
 have HF : Hid ((∀ j, j < k → L.getD j idm ≠ (⟨0, false, (p, q)⟩ : Mv)) → stepB L (p, q) = false) := Lib.hid fun h => decide_eq_false (fun hm => by
  obtain ⟨j, hj, e⟩ := List.mem_iff_getElem.1 hm
  refine h j (by rw [← hL.1]; exact hj) ?_
  rw [List.getD_eq_getElem?_getD, List.getElem?_eq_getElem hj, ← e]; rfl)
 have HM : Hid (∀ j, j < k → L.getD j idm ∈ L) := Lib.hid fun j hj => by
  have hjl : j < L.length := by rw [hL.1]; exact hj
  rw [List.getD_eq_getElem?_getD, List.getElem?_eq_getElem hjl]
  exact List.getElem_mem hjl
 have HL := Lib.hid hL
 generalize stepB L (p, q) = hb at *
 clear hL hmd hx hy hn
 go_enter Tryz.func89, Tryz.ntmps89
 go_wp2_with fail
 go_loopw [11] (fun iv wr => ∃ (j : Nat) (E : Array Obj) (d : Nat), j ≤ k ∧ iv = .int .i64 j ∧ Hid (∀ i, i < j → L.getD i idm ≠ (⟨0, false, (p, q)⟩ : Mv)) ∧ wr = extW (w.alloc (.cells #[.int .i64 x, .int .i64 y] 71)) E d) (fun iv _ => k - (intOf iv).toNat)
 case atStart =>
  obtain ⟨E0, d0, h0⟩ := bExt (Below.refl (w.alloc (.cells #[.int .i64 x, .int .i64 y] 71)).heap.size (w.alloc (.cells #[.int .i64 x, .int .i64 y] 71)))
  exact ⟨0, E0, d0, by omega, rfl, Lib.hid fun i h => absurd h (by omega), h0⟩
 case round =>
  obtain ⟨j, E1, d1, hj, rfl, HN, rfl⟩ := hrel
  by_cases hjk : j < k
  ·have dj : decide ((j : Int) < (k : Int)) = true := by simpa using hjk
   have vj : IntKind.i64.wrap ((j : Int) + 1) = (j : Int) + 1 := IntWalk.i64_in _ (by omega)
   obtain ⟨b, o, rfl, hb, hc⟩ := HL.out.2 (by omega)
   obtain ⟨c0, c1, c2, c3⟩ := hc j hjk
   have lb : LtW b w := hb
   have HMj := Lib.hid (HM.out j hjk)
   obtain ⟨m, hm⟩ : ∃ m, L.getD j idm = m := ⟨_, rfl⟩
   rw [hm] at c0 c1 c2 c3 HMj
   have HMM := Lib.hid hm
   clear hb hc hm
   obtain ⟨t', f', x', y'⟩ := m
   simp only at c0 c1 c2 c3
   by_cases hall : f' = false ∧ t' = 0 ∧ x' = p ∧ y' = q
   ·obtain ⟨rfl, rfl, rfl, rfl⟩ := hall
    have HV := Lib.hid (HT.out HMj.out)
    clear HT HF HM
    go_wp2_with fail
    (refine wp_region_ext (by kernel_rfl) (by kernel_rfl) ?_; (repeat (first | ((with_reducible refine ext_step (fun K hK => ?_)); go_simp; first | (refine hK _ ?_; clear hK K) | (apply Exists.intro; refine ⟨fun _ _ => ?_, hK _ ?_⟩; ((go_at_call 50; exact extOf (HON.out _))); clear hK K)))); refine wpQuiet_nil ?_; intro E d)
    go_wp2
    go_ret
    exact ⟨by rw [HV.out]; rfl, blw⟩
   ·have HNE : Hid ((⟨t', f', (x', y')⟩ : Mv) ≠ ⟨0, false, (p, q)⟩) := Lib.hid (by
     intro e
     injection e with e1 e2 e3
     injection e3 with e3 e4
     exact hall ⟨e2, e1, e3, e4⟩)
    have hcase : f' = true ∨ (f' = false ∧ (((t' : Int) == 0) = false)) ∨ (f' = false ∧ t' = 0 ∧ (x' == p) = false) ∨ (f' = false ∧ t' = 0 ∧ (x' == p) = true ∧ (y' == q) = false) := by
     cases f' with
     | true => exact .inl rfl
     | false =>
      by_cases e1 : t' = 0
      ·by_cases e3 : x' = p
       ·by_cases e4 : y' = q
        ·exact absurd ⟨rfl, e1, e3, e4⟩ hall
        ·exact .inr (.inr (.inr ⟨rfl, e1, by simpa using e3, by simpa using e4⟩))
       ·exact .inr (.inr (.inl ⟨rfl, e1, by simpa using e3⟩))
      ·exact .inr (.inl ⟨rfl, by simp; omega⟩)
    clear hall HT HF HM
    have HN2 : Hid (∀ i, i < j + 1 → L.getD i idm ≠ (⟨0, false, (p, q)⟩ : Mv)) := Lib.hid fun i hi => by
     by_cases e : i = j
     ·subst e; rw [HMM.out]; exact HNE.out
     ·exact HN.out i (by omega)
    clear HNE HMM HMj HN
    rcases hcase with rfl | ⟨rfl, e2⟩ | ⟨rfl, rfl, e3⟩ | ⟨rfl, rfl, e3, e4⟩
    all_goals
     go_wp2_with fail
     (refine wp_region_ext (by kernel_rfl) (by kernel_rfl) ?_; (repeat (first | ((with_reducible refine ext_step (fun K hK => ?_)); go_simp; first | (refine hK _ ?_; clear hK K) | (apply Exists.intro; refine ⟨fun _ _ => ?_, hK _ ?_⟩; ((go_at_call 50; exact extOf (HON.out _))); clear hK K)))); refine wpQuiet_nil ?_; intro E d)
     go_wp2
     go_roundw
     case rel => exact ⟨j + 1, _, _, by omega, by go_num, HN2, by simp only [alloc_extW, extW_extW]; rfl⟩
     case measure => simp [intOf]; omega
  ·obtain rfl : j = k := by omega
   have dj : decide ((j : Int) < (j : Int)) = false := by simp
   have HV := Lib.hid (HF.out HN.out)
   clear HT HF HM
   go_wp2
   go_ret
   exact ⟨by rw [HV.out]; rfl, blw⟩
def lnB (g : Int) (L : List Mv) (n : Int) (t : Nat) (o : Z.Pt) : Bool :=
 decide (Int.tmod (Z.al g t o).1 2 = 0) && (decide (Int.tmod (Z.al g t o).2 2 = 0) && (stepB L (md n (Int.tdiv (-(Z.al g t o).1) 2, Int.tdiv (-(Z.al g t o).2) 2)) && decide (Z.rf g t (Int.tdiv (-(Z.al g t o).1) 2, Int.tdiv (-(Z.al g t o).2) 2) = (Int.tdiv (-(Z.al g t o).1) 2, Int.tdiv (-(Z.al g t o).2) 2))))
theorem tdiv2_bd {u : Int} (h : -4000000 ≤ u ∧ u ≤ 4000000) : -4000000 ≤ Int.tdiv u 2 ∧ Int.tdiv u 2 ≤ 4000000 := by
 have h1 : Int.tmod u 2 + 2 * Int.tdiv u 2 = u := Int.tmod_add_mul_tdiv u 2
 have h2 : Int.tmod u 2 < 2 := Int.tmod_lt_of_pos _ (by omega)
 have h3 : -2 < Int.tmod u 2 := by
  have := Int.lt_tmod_of_pos u (show (0:Int) < 2 by omega)
  omega
 omega
theorem lfTk20 {P : Prop} (h : P := by
 clear hg ht hL hk hn h24
 go_enter Tryz.func44, Tryz.ntmps44
 (go_wp2_with fail; refine (HTW.out _).mono ?_; rintro r w1 ⟨rfl, hb⟩; obtain ⟨E, d, rfl⟩ := bExt hb; clear hb)
 go_wp2
 go_ret
 exact ⟨rfl, blw⟩) : P := h
set_option maxRecDepth 100000 in
set_option maxHeartbeats 8000000 in
theorem Line_ok (g : Int) (L : List Mv) (k n t : Nat) (x y : Int) (a : Option Addr) (c : Nat) (w : World) (hg : g = 4 ∨ g = 6) (ht : t < g.toNat) (hL : IsMoves w a k L) (hk : k ≤ 100000000) (hn : 0 < n) (h24 : n ≤ 64) (hx : -1000000 ≤ x ∧ x ≤ 1000000) (hy : -1000000 ≤ y ∧ y ≤ 1000000) :
  Calls Tryz.prog 44 #[.int .i64 (g), .slice a k c, .int .i64 (n), .agg #[.int .i64 (t), .bool (true), .int .i64 (x), .int .i64 (y)]] w fun e w' => e = .returned (.bool (lnB g L n t (x, y))) ∧ Below w.heap.size w w' := by
 have hN : nrm g (x, y) ≤ 3 * (1000000 * 1000000) := Z.nrm_bd hg (a := (x, y)) (B := 1000000) (by simp only; omega) (by simp only; omega)
 have HTW := Lib.hid (fun w => Twice_any g t true x y w hg ht (Int.le_trans hN (by decide)))
 have hr := Z.rf_bd hg ht (x := x) (y := y) (B := 1000000) ⟨hx.1, hx.2, hy.1, hy.2⟩
 obtain ⟨u, v, hw⟩ : ∃ u v, Z.al g t (x, y) = (u, v) := ⟨_, _, rfl⟩
 have hu1 : u = x + (Z.rf g t (x, y)).1 := (congrArg Prod.fst hw).symm
 have hu2 : v = y + (Z.rf g t (x, y)).2 := (congrArg Prod.snd hw).symm
 have hu : -4000000 ≤ u ∧ u ≤ 4000000 := by omega
 have hv : -4000000 ≤ v ∧ v ≤ 4000000 := by omega
 have hB : ∃ (T : Nat), both g ⟨t, true, (x, y)⟩ ⟨t, true, (x, y)⟩ = ⟨T, false, (u, v)⟩ := ⟨_, by
  have h1 := Z.both_o (g := g) (t := t) (x, y)
  rw [hw] at h1
  unfold both at h1 ⊢
  rw [show To g ⟨t, true, (x, y)⟩ (x, y) = (u, v) from h1]
  rfl⟩
 obtain ⟨T, hB⟩ := hB
 have hV : mvV ⟨T, false, (u, v)⟩ = .agg #[.int .i64 (T), .bool (false), .int .i64 (u), .int .i64 (v)] := rfl
 rw [hB, hV] at HTW
 unfold lnB
 rw [hw]
 clear hr hu1 hu2 hB hV hN hw
 have wu : IntKind.i64.wrap (-u) = -u := IntWalk.i64_in _ (by omega)
 have wv : IntKind.i64.wrap (-v) = -v := IntWalk.i64_in _ (by omega)
 have HL := Lib.hid hL
 simp only
 by_cases h1 : Int.tmod u 2 = 0
 ·by_cases h2 : Int.tmod v 2 = 0
  ·have e1 : (Int.tmod u 2 != 0) = false := by simpa using h1
   have e2 : (Int.tmod v 2 != 0) = false := by simpa using h2
   rw [decide_eq_true h1, decide_eq_true h2, Bool.true_and, Bool.true_and]
   have bp : -4000000 ≤ Int.tdiv (-u) 2 ∧ Int.tdiv (-u) 2 ≤ 4000000 := tdiv2_bd (by omega)
   have bq : -4000000 ≤ Int.tdiv (-v) 2 ∧ Int.tdiv (-v) 2 ≤ 4000000 := tdiv2_bd (by omega)
   obtain ⟨p, hp⟩ : ∃ p, Int.tdiv (-u) 2 = p := ⟨_, rfl⟩
   obtain ⟨q, hq⟩ : ∃ q, Int.tdiv (-v) 2 = q := ⟨_, rfl⟩
   rw [hp] at bp
   rw [hq] at bq
   rw [hp, hq]
   have HST := Lib.hid (fun w (h : IsMoves w a k L) => Step_ok L k n p q a c w h hk hn h24 (by omega) (by omega))
   obtain ⟨rx, ry, hrr⟩ : ∃ rx ry, Z.rf g t (p, q) = (rx, ry) := ⟨_, _, rfl⟩
   have hto : To g ⟨t, true, (0, 0)⟩ (p, q) = (rx, ry) := by
    rw [← hrr]
    unfold To Z.rf
    simp only [Z.add, Int.add_zero]
   have hnp : nrm g (p, q) ≤ 3 * (4000000 * 4000000) := Z.nrm_bd hg (a := (p, q)) (B := 4000000) bp bq
   have ht6 : t ≤ 6 := by rcases hg with rfl | rfl <;> (have : t < 6 := by simp at ht; omega) <;> omega
   have HTO := Lib.hid (fun w => rToV (w := w) (x := p) (y := q) (px := rx) (py := ry) (t := t) (f := true) (ox := 0) (oy := 0) hg ht6 (Int.le_trans hnp (by decide)) (by omega) (by omega) hto)
   rw [hrr]
   generalize stepB L (md n (p, q)) = sb at *
   have hd : decide (((rx, ry) : Z.Pt) = (p, q)) = ((rx == p) && (ry == q)) := by
    by_cases e1 : rx = p <;> by_cases e2 : ry = q <;> simp [e1, e2]
   rw [hd]
   clear hd hrr hto hnp hg ht hL hk hn h24
   cases sb with
   | false =>
    rw [Bool.false_and]
    go_enter Tryz.func44, Tryz.ntmps44
    (go_wp2_with fail; refine (HTW.out _).mono ?_; rintro r w1 ⟨rfl, hb⟩; obtain ⟨E, d, rfl⟩ := bExt hb; clear hb)
    go_wp2_with fail
    (refine wp_region_ext (by kernel_rfl) (by kernel_rfl) ?_; (repeat (first | ((with_reducible refine ext_step (fun K hK => ?_)); go_simp; first | (refine hK _ ?_; clear hK K) | (apply Exists.intro; refine ⟨fun _ _ => ?_, hK _ ?_⟩; ((go_at_call 89; exact extOf (HST.out _ (HL.out.below blw)))); clear hK K)))); refine wpQuiet_nil ?_; intro E d)
    go_wp2
    go_ret
    exact ⟨rfl, blw⟩
   | true =>
    rw [Bool.true_and]
    have hc : (rx == p) = false ∨ ((rx == p) = true ∧ (ry == q) = false) ∨ ((rx == p) = true ∧ (ry == q) = true) := by
     cases rx == p <;> cases ry == q <;> simp
    rcases hc with c1 | ⟨c1, c2⟩ | ⟨c1, c2⟩
    all_goals
     go_enter Tryz.func44, Tryz.ntmps44
     (go_wp2_with fail; refine (HTW.out _).mono ?_; rintro r w1 ⟨rfl, hb⟩; obtain ⟨E, d, rfl⟩ := bExt hb; clear hb)
     go_wp2_with fail
     (refine wp_region_ext (by kernel_rfl) (by kernel_rfl) ?_; (repeat (first | ((with_reducible refine ext_step (fun K hK => ?_)); go_simp; first | (refine hK _ ?_; clear hK K) | (apply Exists.intro; refine ⟨fun _ _ => ?_, hK _ ?_⟩; (first | ((go_at_call 89; exact extOf (HST.out _ (HL.out.below blw)))) | ((go_at_call 51; exact extOf (HTO.out _)))); clear hK K)))); refine wpQuiet_nil ?_; intro E d)
     go_wp2
     go_ret
     exact ⟨by simp_all, blw⟩
  ·have e1 : (Int.tmod u 2 != 0) = false := by simpa using h1
   have e2 : (Int.tmod v 2 != 0) = true := by simpa using h2
   rw [decide_eq_false h2, Bool.false_and, Bool.and_false]
   exact lfTk20
 ·have e1 : (Int.tmod u 2 != 0) = true := by simpa using h1
  rw [decide_eq_false h1, Bool.false_and]
  exact lfTk20
end
section
open Go.RowKit
open Z (torN place pnt Mv To lin okT nrm both idm md stepB)
structure BoxM (fb : Nat) (m : Mv) (v : Value) (w : World) : Prop where
 c0 : w.cell? ⟨fb, 0, none⟩ = some (.int .i64 (m.t : Int))
 c1 : w.cell? ⟨fb, 1, none⟩ = some (.bool m.f)
 c2 : w.cell? ⟨fb, 2, none⟩ = some (.int .i64 m.o.1)
 c3 : w.cell? ⟨fb, 3, none⟩ = some (.int .i64 m.o.2)
 lt : fb < w.heap.size
 ne : v.ownBlock ≠ some fb
theorem BoxM.below {fb : Nat} {m : Mv} {v : Value} {w w' : World} (h : BoxM fb m v w) (hb : Below w.heap.size w w') : BoxM fb m v w' :=
 ⟨bCs hb h.c0, bCs hb h.c1, bCs hb h.c2, bCs hb h.c3, Nat.lt_of_lt_of_le h.lt hb.size, h.ne⟩
theorem BoxM.app {fb k : Nat} {m : Mv} {v v' : Value} {w w' : World} (h : BoxM fb m v w) (hg : w.grownBy w' v.ownBlock) (hv : v'.ownBlock = v.ownBlock ∨ v'.ownBlock = some k) (hk : w.heap.size ≤ k) : BoxM fb m v' w' := by
 have he := hg.block fb h.lt (fun e => h.ne e.symm)
 refine ⟨(World.cell?_of_block he).trans h.c0, (World.cell?_of_block he).trans h.c1, (World.cell?_of_block he).trans h.c2, (World.cell?_of_block he).trans h.c3, Nat.lt_of_lt_of_le h.lt hg.size, ?_⟩
 rcases hv with e | e
 ·rw [e]; exact h.ne
 ·rw [e]; intro e2; injection e2 with e3; have := h.lt; omega
theorem BoxM.made {m : Mv} {v : Value} {w : World} {base n e s : Nat} {xs : List Value} (h : w.ownsRow base e s v n xs) : BoxM w.heap.size m v (w.alloc (.cells #[.int .i64 (m.t : Int), .bool m.f, .int .i64 m.o.1, .int .i64 m.o.2] 91)) :=
 ⟨by simp [go_sem], by simp [go_sem], by simp [go_sem], by simp [go_sem], by simp, fun e => by have := (h.lt _ e).2; omega⟩
theorem wpAppMV {W : World} {ops : Array Oper} {rest : List Oper} {o : Oper} {a : Act} {Q : Exit → Act → World → Prop} {t e size bytes : Nat} {z : Value} (hE : ElemOk t e size bytes z)
  (hgd : o.guard = none) (s x : Operand) (ho : o.op = .call { callee := .builtin .append, args := #[s, x], argTypes := #[t, t] })
  (base : Nat) (v : Value) (n : Nat) (xs : List Value) (cs : Array Value) (hs : a.eval s = v) (hown : W.ownsRow base e size v n xs)
  (hx : a.eval x = .slice (some ⟨W.heap.size, 0, none⟩) 1 1) (hl : cs.size = size) (h1 : ∀ u ∈ cs.toList, u.oneCell' = true)
  (hb : bytes ≤ 4096) (hn : n ≤ 1000000000) (hbase : base ≤ W.heap.size)
  (h : ∀ v' w', w'.ownsRow base e size v' (n + 1) (xs ++ cs.toList) → (W.alloc (.cells cs e)).grownBy w' v.ownBlock → (v'.ownBlock = v.ownBlock ∨ v'.ownBlock = some (W.alloc (.cells cs e)).heap.size) → Below base W w' → wpList Tryz.prog ops Q rest (a.put o.dst v') w') : wpList Tryz.prog ops Q (o :: rest) a (W.alloc (.cells cs e)) := by
 obtain ⟨h2, h3, h4, h5⟩ := hE
 obtain ⟨i0, hi, hz0, hz1, hz2⟩ := info_parts h3
 refine wpList_append_own_at _ hgd s x t ho base e i0 z size bytes h2 hi hz0 hz1 hz2 h4 h5 v n xs hs (hown.alloc _) ⟨W.heap.size, 0, none⟩ 1 1 cs.toList hx (by simpa using hl) ?_ h1 (by unfold maxLen; omega) ?_ (by simp; omega) ?_
 ·intro j u hj
  have : (⟨W.heap.size, 0, none⟩ : Addr).add j = ⟨W.heap.size, j, none⟩ := by rw [Addr.add_lit]; simp
  rw [this, World.cell?_alloc_new]
  simpa using hj
 ·calc (n + 1) * bytes ≤ 1000000001 * 4096 := Nat.mul_le_mul (by omega) hb
   _ ≤ 140737488355328 := by omega
 ·intro v' w' hown' hg _ hv
  refine h v' w' hown' hg hv ?_
  have hk := hown.lt
  exact ((Below.refl base W).alloc hbase _).trans (belowGrown hg (by simp; omega) fun k hk' => (hk k hk').1)
def shM (n : Int) (m : Mv) (i j : Int) : Mv := ⟨m.t, m.f, (m.o.1 + n * i, m.o.2 + n * j)⟩
def mirB (g : Int) (m : Mv) : Bool := decide (Z.al g m.t m.o = (0, 0))
def mrR (g n : Int) (m : Mv) (j i : Nat) : List Mv := ((List.range i).map fun (i : Nat) => shM n m ((i : Int) - 5) ((j : Int) - 5)).filter (mirB g)
def mrC (g n : Int) (m : Mv) (j : Nat) : List Mv := (List.range j).flatMap fun j => mrR g n m j 11
def mrL (g n : Int) (L : List Mv) (k : Nat) : List Mv := (L.take k).flatMap fun m => if m.f then mrC g n m 11 else []
theorem mrR_succ (g n : Int) (m : Mv) (j i : Nat) : mrR g n m j (i + 1) = if mirB g (shM n m ((i : Int) - 5) ((j : Int) - 5)) then mrR g n m j i ++ [shM n m ((i : Int) - 5) ((j : Int) - 5)] else mrR g n m j i := by
 unfold mrR
 rw [List.range_succ, List.map_append, List.filter_append]
 simp only [List.map_cons, List.map_nil, List.filter_cons, List.filter_nil]
 split <;> simp
theorem mrC_succ (g n : Int) (m : Mv) (j : Nat) : mrC g n m (j + 1) = mrC g n m j ++ mrR g n m j 11 := by
 unfold mrC; rw [List.range_succ, List.flatMap_append]; simp
theorem mrL_succ (g n : Int) (L : List Mv) (k : Nat) (hk : k < L.length) : mrL g n L (k + 1) = mrL g n L k ++ (if (L.getD k idm).f then mrC g n (L.getD k idm) 11 else []) := by
 have h : L.take (k + 1) = L.take k ++ [L[k]] := by rw [List.take_add_one, List.getElem?_eq_getElem hk]; rfl
 have h2 : L.getD k idm = L[k] := by rw [List.getD_eq_getElem?_getD, List.getElem?_eq_getElem hk]; rfl
 unfold mrL
 rw [h, h2, List.flatMap_append, List.flatMap_cons, List.flatMap_nil, List.append_nil]
theorem both_flip {g : Int} (hg : Z.G g) {t : Nat} (ht : t < g.toNat) (x y : Int) : both g ⟨t, true, (x, y)⟩ ⟨t, true, (x, y)⟩ = ⟨0, false, Z.al g t (x, y)⟩ := by
 have h1 := Z.both_o (g := g) (t := t) (x, y)
 unfold both at h1 ⊢
 simp only at h1
 rw [h1]
 have e : Z.bothT g ⟨t, true, (x, y)⟩ ⟨t, true, (x, y)⟩ = 0 := by
  unfold Z.bothT
  simp only [if_true]
  rw [show t + (g.toNat - t) = g.toNat by omega, Nat.mod_self]
 rw [e]
 rfl
theorem mem_mrL {g n : Int} {L : List Mv} {m : Mv} : m ∈ mrL g n L L.length ↔ ∃ h ∈ L, h.f = true ∧ ∃ i j : Int, (-5 ≤ i ∧ i ≤ 5) ∧ (-5 ≤ j ∧ j ≤ 5) ∧ m = shM n h i j ∧ Z.al g m.t m.o = (0, 0) := by
 unfold mrL
 rw [List.take_length, List.mem_flatMap]
 refine exists_congr fun h => and_congr_right fun hm => ?_
 cases hf : h.f with
 | false => simp
 | true =>
  simp only [if_true, true_and]
  unfold mrC mrR
  simp only [List.mem_flatMap, List.mem_range, List.mem_filter, List.mem_map, mirB, decide_eq_true_eq]
  constructor
  ·rintro ⟨j, hj, ⟨i, hi, rfl⟩, h2⟩
   exact ⟨(i : Int) - 5, (j : Int) - 5, by omega, by omega, rfl, h2⟩
  ·rintro ⟨i, j, hi, hj, rfl, h2⟩
   refine ⟨(j + 5).toNat, by omega, ⟨(i + 5).toNat, by omega, ?_⟩, h2⟩
   rw [show (((i + 5).toNat : Nat) : Int) - 5 = i by omega, show (((j + 5).toNat : Nat) : Int) - 5 = j by omega]
end
end Go.Proofs.YtajdoobkfbdgoaaGreatDoor
