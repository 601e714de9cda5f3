/- Lemmas on which the law of this seat rests; each states its own conditions. -/
import Derived.Test.YtajdoobkfbdgoaaDoorB01
import Derived.Deep.OwnRows
set_option linter.unusedVariables false
set_option linter.unusedSimpArgs false
namespace Go.Proofs.YtajdoobkfbdgoaaDoor
section
open Go.RowKit
namespace Z
structure Sub (S : Pt → Prop) : Prop where
 zero : S (0, 0)
 add : ∀ a b, S a → S b → S (add a b)
 neg : ∀ a, S a → S (neg a)
theorem Sub.sml {S : Pt → Prop} (h : Sub S) {a : Pt} (ha : S a) : ∀ k : Int, S (k * a.1, k * a.2) := by
 have hn : ∀ k : Nat, S ((k : Int) * a.1, (k : Int) * a.2) := by
  intro k
  induction k with
  | zero => simpa using h.zero
  | succ k ih =>
   have := h.add _ _ ih ha
   unfold Z.add at this
   simp only at this
   rw [show (((k + 1 : Nat) : Int)) * a.1 = (k : Int) * a.1 + a.1 by rw [Int.natCast_add, Int.add_mul]; simp, show (((k + 1 : Nat) : Int)) * a.2 = (k : Int) * a.2 + a.2 by rw [Int.natCast_add, Int.add_mul]; simp]
   exact this
 intro k
 rcases Int.le_total 0 k with hk | hk
 ·obtain ⟨m, rfl⟩ := Int.eq_ofNat_of_zero_le hk
  exact hn m
 ·obtain ⟨m, hm⟩ := Int.eq_ofNat_of_zero_le (show 0 ≤ -k by omega)
  have := h.neg _ (hn m)
  unfold Z.neg at this
  simp only at this
  rw [← hm] at this
  rw [show -(-k * a.1) = k * a.1 by rw [Int.neg_mul, Int.neg_neg], show -(-k * a.2) = k * a.2 by rw [Int.neg_mul, Int.neg_neg]] at this
  exact this
structure Fine (S : Pt → Prop) (a b c : Int) : Prop where
 a0 : 0 < a
 sa : S (a, 0)
 amin : ∀ x, 0 < x → x < a → ¬ S (x, 0)
 b0 : 0 < b
 c0 : 0 ≤ c
 c1 : c < a
 sb : S (c, b)
 bmin : ∀ x y, 0 < y → y < b → 0 ≤ x → x < a → ¬ S (x, y)
theorem Fine.row {S : Pt → Prop} {a b c : Int} (hs : Sub S) (h : Fine S a b c) (x : Int) : S (x, 0) ↔ a ∣ x := by
 constructor
 ·intro hx
  have h1 := hs.add _ _ hx (hs.sml h.sa (-(x / a)))
  unfold Z.add at h1
  simp only [Int.mul_zero, Int.add_zero] at h1
  have e : x + -(x / a) * a = x % a := by have := Int.emod_add_ediv_mul x a; rw [Int.neg_mul]; omega
  rw [e] at h1
  have h2 := Int.emod_nonneg x (show a ≠ 0 by have := h.a0; omega)
  have h3 := Int.emod_lt_of_pos x h.a0
  by_cases h4 : x % a = 0
  ·exact Int.dvd_of_emod_eq_zero h4
  ·exact absurd h1 (h.amin _ (by omega) h3)
 ·rintro ⟨k, rfl⟩
  have := hs.sml h.sa k
  simpa [Int.mul_comm] using this
theorem Fine.spec {S : Pt → Prop} {a b c : Int} (hs : Sub S) (h : Fine S a b c) (z : Pt) : S z ↔ b ∣ z.2 ∧ a ∣ z.1 - z.2 / b * c := by
 have hb := h.b0
 have back : ∀ k : Int, S z ↔ S (z.1 - k * c, z.2 - k * b) := fun k => by
  constructor
  ·intro hz
   have h1 := hs.add _ _ hz (hs.sml h.sb (-k))
   unfold Z.add at h1
   simp only at h1
   rw [show z.1 + -k * c = z.1 - k * c by rw [Int.neg_mul]; omega, show z.2 + -k * b = z.2 - k * b by rw [Int.neg_mul]; omega] at h1
   exact h1
  ·intro hz
   have h1 := hs.add _ _ hz (hs.sml h.sb k)
   unfold Z.add at h1
   simp only at h1
   rw [show z.1 - k * c + k * c = z.1 by omega, show z.2 - k * b + k * b = z.2 by omega] at h1
   exact h1
 constructor
 ·intro hz
  have h1 := (back (z.2 / b)).1 hz
  have e : z.2 - z.2 / b * b = z.2 % b := by have := Int.emod_add_ediv_mul z.2 b; omega
  rw [e] at h1
  have h2 := Int.emod_nonneg z.2 (show b ≠ 0 by omega)
  have h3 := Int.emod_lt_of_pos z.2 hb
  have hm : z.2 % b = 0 := by
   by_cases h4 : z.2 % b = 0
   ·exact h4
   ·exfalso
    -- the first part, brought below a
    have h5 := hs.add _ _ h1 (hs.sml h.sa (-((z.1 - z.2 / b * c) / a)))
    unfold Z.add at h5
    simp only [Int.mul_zero, Int.add_zero] at h5
    have e2 : z.1 - z.2 / b * c + -((z.1 - z.2 / b * c) / a) * a = (z.1 - z.2 / b * c) % a := by
     have := Int.emod_add_ediv_mul (z.1 - z.2 / b * c) a; rw [Int.neg_mul]; omega
    rw [e2] at h5
    exact h.bmin _ _ (by omega) h3 (Int.emod_nonneg _ (by have := h.a0; omega)) (Int.emod_lt_of_pos _ h.a0) h5
  rw [hm] at h1
  exact ⟨Int.dvd_of_emod_eq_zero hm, (h.row hs _).1 h1⟩
 ·rintro ⟨⟨k, hk⟩, h2⟩
  have e : z.2 / b = k := by rw [hk]; exact Int.mul_ediv_cancel_left k (by omega)
  rw [e] at h2
  rw [back k, show z.2 - k * b = 0 by rw [hk, Int.mul_comm]; omega]
  exact (h.row hs _).2 h2
theorem count_res {a n : Nat} (ha : 0 < a) (t : Nat) (ht : t < a) : ∀ k, n = a * k → (List.range n).countP (fun x => decide (x % a = t)) = k := by
 intro k
 induction k generalizing n with
 | zero => intro h; rw [h, Nat.mul_zero]; rfl
 | succ k ih =>
  intro h
  rw [h, Nat.mul_add, Nat.mul_one, List.range_add, List.countP_append, ih rfl, List.countP_map]
  have : (List.range a).countP ((fun x => decide (x % a = t)) ∘ fun x => a * k + x) = 1 := by
   have e : (List.range a).countP ((fun x => decide (x % a = t)) ∘ fun x => a * k + x) = (List.range a).countP (fun x => x == t) := by
    refine List.countP_congr fun x hx => ?_
    rw [List.mem_range] at hx
    simp [Nat.mul_add_mod, Nat.mod_eq_of_lt hx]
   rw [e]
   have := List.nodup_range.count (a := t) (l := List.range a)
   rw [if_pos (List.mem_range.2 ht)] at this
   exact this
  rw [this]
end Z
end
section
open Go.RowKit
namespace Z
section
variable {g n : Int} {col : Pt → Int} {L : List Mv}
theorem Grp.ok (h : Grp g n col L) {m : Mv} (hm : m ∈ L) : okT g m := ((h.mem m).1 hm).1
theorem Grp.keep (h : Grp g n col L) {m : Mv} (hm : m ∈ L) : Keep g col m := ((h.mem m).1 hm).2.1
theorem Grp.bd (h : Grp g n col L) {m : Mv} (hm : m ∈ L) : 0 ≤ m.o.1 ∧ m.o.1 < n ∧ 0 ≤ m.o.2 ∧ m.o.2 < n := ((h.mem m).1 hm).2.2
theorem Grp.one (h : Grp g n col L) (hg : G g) (hn : 0 < n) : idm ∈ L :=
 (h.mem _).2 ⟨idm_ok hg, Keep.id g col, by simp [idm]; omega⟩
theorem Grp.mul (h : Grp g n col L) (hg : G g) (hn : 0 < n) (hp : Per n col) {a b : Mv} (ha : a ∈ L) (hb : b ∈ L) : mulM g n a b ∈ L :=
 h.red hn hp (both_ok hg a b) ((h.keep ha).both hg (h.ok hb) (h.keep hb))
theorem Grp.inv (h : Grp g n col L) (hg : G g) (hn : 0 < n) (hp : Per n col) {a : Mv} (ha : a ∈ L) : invM g n a ∈ L :=
 h.red hn hp (inv_ok hg (h.ok ha)) ((h.keep ha).inv hg (h.ok ha))
theorem act_one {z : Pt} (hz : 0 ≤ z.1 ∧ z.1 < n ∧ 0 ≤ z.2 ∧ z.2 < n) : act g n idm z = z := by
 unfold act; rw [To_idm, md_self hz]
theorem redM_idm (hn : 0 < n) : redM n idm = idm := redM_self (by simp [idm]; omega)
theorem mulM_inv (hg : G g) (hn : 0 < n) {f : Mv} (hf : okT g f) : mulM g n (invM g n f) f = idm ∧ mulM g n f (invM g n f) = idm := by
 unfold mulM invM
 rw [both_redL, both_redR, (both_inv hg hf).1, (both_inv hg hf).2, redM_idm hn]
 exact ⟨rfl, rfl⟩
theorem act_inv (hg : G g) (hn : 0 < n) {f : Mv} (hf : okT g f) {z : Pt} (hz : 0 ≤ z.1 ∧ z.1 < n ∧ 0 ≤ z.2 ∧ z.2 < n) : act g n (invM g n f) (act g n f z) = z := by
 rw [← act_mul hg hf, (mulM_inv hg hn hf).1, act_one hz]
end
def torusL (n : Nat) : List Pt := (List.range (n * n)).map fun k => (((k % n : Nat) : Int), ((k / n : Nat) : Int))
theorem mem_torus {n : Nat} {z : Pt} : z ∈ torusL n ↔ 0 ≤ z.1 ∧ z.1 < n ∧ 0 ≤ z.2 ∧ z.2 < n := by
 unfold torusL
 rw [List.mem_map]
 constructor
 ·rintro ⟨k, hk, rfl⟩
  rw [List.mem_range] at hk
  have hn : 0 < n := by
   rcases Nat.eq_zero_or_pos n with h | h
   ·subst h; omega
   ·exact h
  have h1 := Nat.mod_lt k hn
  have h2 : k / n < n := Nat.div_lt_of_lt_mul hk
  exact ⟨Int.natCast_nonneg _, Int.ofNat_lt.2 h1, Int.natCast_nonneg _, Int.ofNat_lt.2 h2⟩
 ·rintro ⟨h1, h2, h3, h4⟩
  refine ⟨z.2.toNat * n + z.1.toNat, ?_, ?_⟩
  ·rw [List.mem_range]
   have : (z.2.toNat + 1) * n ≤ n * n := Nat.mul_le_mul_right n (by omega)
   rw [Nat.add_mul, Nat.one_mul] at this
   omega
  ·have hx : z.1.toNat < n := by omega
   apply ext2
   ·simp only
    rw [Nat.mul_comm, Nat.mul_add_mod, Nat.mod_eq_of_lt hx]; omega
   ·simp only
    rw [Nat.mul_comm, Nat.mul_add_div (by omega), Nat.div_eq_of_lt hx]; omega
theorem nodup_torus (n : Nat) : (torusL n).Nodup := by
 unfold torusL List.Nodup
 rw [List.pairwise_map]
 refine List.Pairwise.imp_of_mem ?_ List.nodup_range
 intro a b ha hb hne e
 rw [List.mem_range] at ha hb
 have h1 : a % n = b % n := by have := congrArg Prod.fst e; simp only at this; omega
 have h2 : a / n = b / n := by have := congrArg Prod.snd e; simp only at this; omega
 apply hne
 rw [← Nat.div_add_mod a n, ← Nat.div_add_mod b n, h1, h2]
def rankP (n : Nat) (z : Pt) : Nat := z.2.toNat * n + z.1.toNat
theorem rankP_inj {n : Nat} {y z : Pt} (hy : y ∈ torusL n) (hz : z ∈ torusL n) (h : rankP n y = rankP n z) : y = z := by
  rw [mem_torus] at hy hz
  unfold rankP at h
  have h1 : y.1.toNat < n := by omega
  have h2 : z.1.toNat < n := by omega
  have e1 := congrArg (· % n) h
  have e2 := congrArg (· / n) h
  simp only [Nat.mul_comm _ n, Nat.mul_add_mod, Nat.mod_eq_of_lt h1, Nat.mod_eq_of_lt h2, Nat.mul_add_div (show 0 < n by omega), Nat.div_eq_of_lt h1, Nat.div_eq_of_lt h2] at e1 e2
  apply ext2 <;> omega
theorem act_mem {g : Int} {n : Nat} (hn : 0 < n) (f : Mv) (z : Pt) : act g n f z ∈ torusL n := mem_torus.2 (md_bd (by omega) _)
def firstB (g : Int) (n : Nat) (L : List Mv) (z : Pt) : Bool := L.all fun f => decide (rankP n z ≤ rankP n (act g n f z))
theorem firstB_iff {g : Int} {n : Nat} {L : List Mv} {z : Pt} : firstB g n L z = true ↔ ∀ f ∈ L, rankP n z ≤ rankP n (act g n f z) := by
 unfold firstB; rw [List.all_eq_true]; exact ⟨fun h f hf => of_decide_eq_true (h f hf), fun h f hf => decide_eq_true (h f hf)⟩
theorem first_alone {g : Int} (hg : G g) {n : Nat} (hn : 0 < n) {col : Pt → Int} (hp : Per n col) {L : List Mv} (h : Grp g n col L) {y z : Pt} (hy : y ∈ torusL n) (hz : z ∈ torusL n) (fy : firstB g n L y = true) (fz : firstB g n L z = true) {f : Mv} (hf : f ∈ L) (e : act g n f y = z) : y = z := by
 have hn2 : (0 : Int) < n := by omega
 refine rankP_inj hy hz (Nat.le_antisymm ?_ ?_)
 ·have := firstB_iff.1 fy f hf
  rwa [e] at this
 ·have := firstB_iff.1 fz _ (h.inv hg hn2 hp hf)
  rw [← e, act_inv hg hn2 (h.ok hf) (mem_torus.1 hy), e] at this
  exact this
end Z
end
section
open Go.RowKit
namespace Z
theorem perm_length {α : Type} [DecidableEq α] {a b : List α} (ha : a.Nodup) (hb : b.Nodup) (h : ∀ x, x ∈ a ↔ x ∈ b) : a.length = b.length := by
 have : a.Perm b := by
  rw [List.perm_iff_count]
  intro x
  rw [ha.count, hb.count]
  by_cases hx : x ∈ a
  ·rw [if_pos hx, if_pos ((h x).1 hx)]
  ·rw [if_neg hx, if_neg fun e => hx ((h x).2 e)]
 exact this.length_eq
theorem countP_grid (n : Nat) (hn : 0 < n) (p : Nat → Nat → Bool) : ∀ m, (List.range (m * n)).countP (fun k => p (k % n) (k / n)) = sumL (List.range m) (fun y => (List.range n).countP fun x => p x y) := by
 intro m
 induction m with
 | zero => simp [sumL]
 | succ m ih =>
  rw [Nat.add_mul, Nat.one_mul, List.range_add, List.countP_append, ih, List.countP_map, List.range_succ]
  unfold sumL
  rw [List.map_append, List.sum_append]
  congr 1
  simp only [List.map_cons, List.map_nil, List.sum_cons, List.sum_nil, Nat.add_zero]
  refine List.countP_congr fun x hx => ?_
  rw [List.mem_range] at hx
  simp only [Function.comp]
  rw [Nat.mul_comm m n, Nat.mul_add_mod, Nat.mod_eq_of_lt hx, Nat.mul_add_div hn, Nat.div_eq_of_lt hx, Nat.add_zero]
theorem sumL_countP {α : Type} (l : List α) (p : α → Bool) (c : Nat) : sumL l (fun x => if p x then c else 0) = l.countP p * c := by
 induction l with
 | nil => simp [sumL]
 | cons a l ih =>
  rw [sumL_cons, ih, List.countP_cons]
  cases p a <;> simp [Nat.add_mul, Nat.add_comm]
theorem dvd_sub_iff {a x : Nat} {t : Int} (ha : 0 < a) : (a : Int) ∣ (x : Int) - t ↔ x % a = (t % (a : Int)).toNat := by
 have h1 := Int.emod_nonneg t (show (a : Int) ≠ 0 by omega)
 have h2 : ((x % a : Nat) : Int) = (x : Int) % (a : Int) := Int.natCast_emod x a
 rw [Int.dvd_iff_emod_eq_zero, ← Int.emod_eq_emod_iff_emod_sub_eq_zero, ← h2]
 constructor
 ·intro h; omega
 ·intro h; omega
theorem grid_count {n a b : Nat} (ha : 0 < a) (hb : 0 < b) (hn : 0 < n) (da : a ∣ n) (db : b ∣ n) (c : Nat → Int) :
  (List.range (n * n)).countP (fun k => decide (b ∣ k / n) && decide ((a : Int) ∣ ((k % n : Nat) : Int) - c (k / n))) * (a * b) = n * n := by
 obtain ⟨ka, hka⟩ := da
 obtain ⟨kb, hkb⟩ := db
 have e := countP_grid n hn (fun (x y : Nat) => decide (b ∣ y) && decide ((a : Int) ∣ (x : Int) - c y)) n
 rw [e]
 have e2 : sumL (List.range n) (fun y => (List.range n).countP fun (x : Nat) => decide (b ∣ y) && decide ((a : Int) ∣ (x : Int) - c y)) = sumL (List.range n) (fun y => if decide (b ∣ y) then ka else 0) := sumL_congr fun y _ => by
  by_cases hy : b ∣ y
  ·rw [decide_eq_true hy, if_pos rfl]
   have h0 := Int.emod_nonneg (c y) (show (a : Int) ≠ 0 by omega)
   have h1 := Int.emod_lt_of_pos (c y) (show (0 : Int) < a by omega)
   rw [← count_res ha (c y % (a : Int)).toNat (by omega) ka hka]
   refine List.countP_congr fun x _ => ?_
   simp only [Bool.true_and, decide_eq_true_eq]
   exact dvd_sub_iff ha
  ·rw [decide_eq_false hy, if_neg (by simp)]
   rw [List.countP_eq_zero]
   intro x _ h
   simp at h
 rw [e2, sumL_countP]
 have e3 : (List.range n).countP (fun y => decide (b ∣ y)) = kb := by
  rw [← count_res hb 0 hb kb hkb]
  refine List.countP_congr fun x _ => ?_
  simp only [decide_eq_true_eq]
  exact Nat.dvd_iff_mod_eq_zero
 rw [e3, show kb * ka * (a * b) = (a * ka) * (b * kb) by rw [Nat.mul_comm kb ka, Nat.mul_assoc, Nat.mul_comm a ka, ← Nat.mul_assoc kb a b, Nat.mul_comm kb a, Nat.mul_assoc a kb b, Nat.mul_comm kb b, Nat.mul_assoc ka a (b * kb)], ← hka, ← hkb]
def Stp (col : Pt → Int) (z : Pt) : Prop := ∀ p, col (add p z) = col p
theorem stp_keep {g : Int} {col : Pt → Int} (z : Pt) : Keep g col ⟨0, false, z⟩ ↔ Stp col z := by
 unfold Keep Stp
 have : ∀ p, To g ⟨0, false, z⟩ p = add p z := fun p => by unfold To lin mir tn; simp
 constructor
 ·intro h p; rw [← this p]; exact h p
 ·intro h p; rw [this p]; exact h p
theorem stp_sub (col : Pt → Int) : Sub (Stp col) := by
 refine ⟨fun p => ?_, fun a b ha hb p => ?_, fun a ha p => ?_⟩
 ·rw [show add p (0, 0) = p by unfold add; simp]
 ·rw [← add_assoc, hb, ha]
 ·have := ha (add p (neg a))
  rw [add_assoc, (neg_eq 0 a).2] at this
  rw [← this, show add p (0, 0) = p by unfold add; simp]
theorem stp_per {n : Int} {col : Pt → Int} (hp : Per n col) {a b : Pt} (h : Eqm n a b) : Stp col a ↔ Stp col b := by
 constructor
 ·intro ha p
  rw [← ha p]; exact hp _ _ ((Eqm.refl n p).add h.symm)
 ·intro hb p
  rw [← hb p]; exact hp _ _ ((Eqm.refl n p).add h)
theorem fine_dvd {n : Nat} {col : Pt → Int} (hp : Per n col) {a b c : Int} (h : Fine (Stp col) a b c) : a ∣ (n : Int) ∧ b ∣ (n : Int) := by
 have s0 := (stp_sub col).zero
 have h1 : Stp col ((n : Int), 0) := (stp_per hp ⟨(1, 0), by unfold add sml; simp⟩).2 s0
 have h2 : Stp col (0, (n : Int)) := (stp_per hp ⟨(0, 1), by unfold add sml; simp⟩).2 s0
 exact ⟨(h.row (stp_sub col) _).1 h1, ((h.spec (stp_sub col) (0, (n : Int))).1 h2).1⟩
end Z
end
section
open Go.RowKit
namespace Z
section
variable {g : Int} {n : Nat} {col : Pt → Int} {L : List Mv}
def stepB (L : List Mv) (z : Pt) : Bool := decide ((⟨0, false, z⟩ : Mv) ∈ L)
theorem stepB_iff (h : Grp g n col L) (hg : G g) {z : Pt} (hz : z ∈ torusL n) : stepB L z = true ↔ Stp col z := by
 unfold stepB
 rw [decide_eq_true_iff, h.mem, stp_keep]
 rw [mem_torus] at hz
 exact ⟨fun x => x.2.1, fun x => ⟨by rcases hg with rfl | rfl <;> simp [okT], x, hz⟩⟩
theorem steps_count (h : Grp g n col L) (hg : G g) (hn : 0 < n) (hp : Per n col) {a b : Nat} {c : Int} (hf : Fine (Stp col) a b c) : (torusL n).countP (stepB L) * (a * b) = n * n := by
 obtain ⟨d1, d2⟩ := fine_dvd hp hf
 have ha : 0 < a := by have := hf.a0; omega
 have hb : 0 < b := by have := hf.b0; omega
 have da : a ∣ n := Int.natCast_dvd_natCast.1 d1
 have db : b ∣ n := Int.natCast_dvd_natCast.1 d2
 rw [← grid_count ha hb hn da db (fun y => ((y / b : Nat) : Int) * c)]
 congr 1
 unfold torusL
 rw [List.countP_map]
 refine List.countP_congr fun k hk => ?_
 have hz : (((k % n : Nat) : Int), ((k / n : Nat) : Int)) ∈ torusL n := List.mem_map.2 ⟨k, hk, rfl⟩
 simp only [Function.comp, Bool.and_eq_true, decide_eq_true_eq]
 rw [stepB_iff h hg hz, hf.spec (stp_sub col)]
 simp only
 constructor
 ·rintro ⟨h1, h2⟩
  exact ⟨Int.natCast_dvd_natCast.1 h1, h2⟩
 ·rintro ⟨h1, h2⟩
  exact ⟨Int.natCast_dvd_natCast.2 h1, h2⟩
def keyB (t : Nat) (f : Bool) (m : Mv) : Bool := decide (m.t = t) && (m.f == f)
theorem keyB_iff {t : Nat} {f : Bool} {m : Mv} : keyB t f m = true ↔ m.t = t ∧ m.f = f := by unfold keyB; simp
theorem block_count (h : Grp g n col L) (hg : G g) (hn : 0 < n) (hp : Per n col) {m0 : Mv} (h0 : m0 ∈ L) : L.countP (keyB m0.t m0.f) = (torusL n).countP (stepB L) := by
 have hn2 : (0 : Int) < n := by omega
 rw [List.countP_eq_length_filter, List.countP_eq_length_filter]
 have hinj : ∀ x ∈ L.filter (keyB m0.t m0.f), ∀ y ∈ L.filter (keyB m0.t m0.f), md n (add x.o (neg m0.o)) = md n (add y.o (neg m0.o)) → x = y := by
  intro x hx y hy e
  obtain ⟨x1, x2⟩ := List.mem_filter.1 hx
  obtain ⟨y1, y2⟩ := List.mem_filter.1 hy
  rw [keyB_iff] at x2 y2
  have e2 := (eqm_iff.2 e).add (Eqm.refl (n : Int) m0.o)
  rw [add_assoc, add_assoc, (neg_eq 0 m0.o).2] at e2
  have e3 := md_eq e2
  rw [show add x.o (0, 0) = x.o by unfold add; simp, show add y.o (0, 0) = y.o by unfold add; simp, md_self (h.bd x1), md_self (h.bd y1)] at e3
  cases x; cases y
  simp only at x2 y2 e3
  rw [x2.1, x2.2, y2.1, y2.2, e3]
 have hnod : ((L.filter (keyB m0.t m0.f)).map fun m => md n (add m.o (neg m0.o))).Nodup := by
  unfold List.Nodup
  rw [List.pairwise_map]
  refine List.Pairwise.imp_of_mem ?_ (List.Pairwise.filter _ h.nod)
  intro x y hx hy hne e
  exact hne (hinj x hx y hy e)
 have := perm_length hnod (List.Pairwise.filter (stepB L) (nodup_torus n)) (fun z => by
  rw [List.mem_map, List.mem_filter]
  constructor
  ·rintro ⟨m, hm, rfl⟩
   obtain ⟨m1, m2⟩ := List.mem_filter.1 hm
   rw [keyB_iff] at m2
   have hz : md n (add m.o (neg m0.o)) ∈ torusL n := mem_torus.2 (md_bd hn2 _)
   refine ⟨hz, (stepB_iff h hg hz).2 ?_⟩
   rw [← stp_per hp (eqm_md n _)]
   -- m behind what undoes m0 is a step
   have k1 := (h.keep m1).both hg (inv_ok hg (h.ok h0)) ((h.keep h0).inv hg (h.ok h0))
   intro p
   have k2 := k1 (add p (0, 0))
   rw [show add p (0, 0) = p by unfold add; simp, To_both hg (inv_ok hg (h.ok h0))] at k2
   have e : To g m (To g (inv g m0) p) = add p (add m.o (neg m0.o)) := by
    have e1 : To g m (To g (inv g m0) p) = add (To g m0 (To g (inv g m0) p)) (add m.o (neg m0.o)) := by
     unfold To
     rw [m2.1, m2.2]
     unfold add neg
     apply ext2 <;> simp only <;> omega
    rw [e1, ← To_both hg (inv_ok hg (h.ok h0)), (both_inv hg (h.ok h0)).2, To_idm]
   rw [e] at k2
   exact k2
  ·rintro ⟨hz, hs⟩
   have hz2 := mem_torus.1 hz
   rw [stepB_iff h hg hz] at hs
   refine ⟨⟨m0.t, m0.f, md n (add z m0.o)⟩, List.mem_filter.2 ⟨(h.mem _).2 ⟨(show okT g m0 from h.ok h0), ?_, md_bd hn2 _⟩, keyB_iff.2 ⟨rfl, rfl⟩⟩, ?_⟩
   ·have k : Keep g col ⟨m0.t, m0.f, add z m0.o⟩ := fun p => by
     rw [← h.keep h0 p, ← hs (To g m0 p)]
     congr 1
     unfold To add
     apply ext2 <;> simp only <;> omega
    exact Keep.eqm (m := ⟨m0.t, m0.f, add z m0.o⟩) hp rfl rfl (eqm_md n _) k
   ·simp only
    have e : Eqm (n : Int) (add (md n (add z m0.o)) (neg m0.o)) z := by
     have := (eqm_md (n : Int) (add z m0.o)).symm.add (Eqm.refl (n : Int) (neg m0.o))
     rw [add_assoc, (neg_eq 0 m0.o).1, show add z (0, 0) = z by unfold add; simp] at this
     exact this
    rw [md_eq e, md_self hz2])
 rw [List.length_map] at this
 exact this
end
end Z
end
section
open Go.RowKit
namespace Z
section
variable {g : Int} {n : Nat} {col : Pt → Int} {L L' : List Mv} {f : Mv}
end
end Z
end
section
open Go.RowKit
namespace Z
def torN (W H : Nat) : Nat := W / Nat.gcd W H * H
theorem torN_eq (W H : Nat) : torN W H = W * (H / Nat.gcd W H) := by
 unfold torN
 rw [Nat.div_mul_right_comm (Nat.gcd_dvd_left W H), Nat.mul_div_assoc _ (Nat.gcd_dvd_right W H)]
theorem torN_dvd (W H : Nat) : W ∣ torN W H ∧ H ∣ torN W H :=
 ⟨⟨_, torN_eq W H⟩, ⟨W / Nat.gcd W H, by unfold torN; rw [Nat.mul_comm]⟩⟩
theorem torN_pos {W H : Nat} (hW : 0 < W) (hH : 0 < H) : 0 < torN W H := by
 unfold torN
 exact Nat.mul_pos (Nat.div_pos (Nat.le_of_dvd hW (Nat.gcd_dvd_left W H)) (Nat.gcd_pos_of_pos_left H hW)) hH
def colP (W H : Nat) (cs : List Int) (p : Pt) : Int := cs.getD ((p.2 % (H : Int)).toNat * W + (p.1 % (W : Int)).toNat) 0
theorem colP_per {W H n : Nat} (cs : List Int) (hW : W ∣ n) (hH : H ∣ n) : Per (n : Int) (colP W H cs) := by
 rintro a b ⟨k, rfl⟩
 unfold colP add sml
 simp only
 obtain ⟨x, rfl⟩ := hW
 obtain ⟨y, hy⟩ := hH
 have e1 : (b.1 + ((W * x : Nat) : Int) * k.1) % (W : Int) = b.1 % (W : Int) := by
  rw [Int.natCast_mul, Int.mul_assoc]; exact Int.add_mul_emod_self_left _ _ _
 have e2 : (b.2 + ((W * x : Nat) : Int) * k.2) % (H : Int) = b.2 % (H : Int) := by
  rw [hy, Int.natCast_mul, Int.mul_assoc]; exact Int.add_mul_emod_self_left _ _ _
 rw [e1, e2]
def place (n : Nat) (p : Pt) : Nat := (p.2 % (n : Int)).toNat * n + (p.1 % (n : Int)).toNat
def pnt (n k : Nat) : Pt := (((k % n : Nat) : Int), ((k / n : Nat) : Int))
theorem place_lt {n : Nat} (hn : 0 < n) (p : Pt) : place n p < n * n := by
 unfold place
 have h1 := Int.emod_nonneg p.1 (show (n : Int) ≠ 0 by omega); have h2 := Int.emod_lt_of_pos p.1 (show (0 : Int) < n by omega)
 have h3 := Int.emod_nonneg p.2 (show (n : Int) ≠ 0 by omega); have h4 := Int.emod_lt_of_pos p.2 (show (0 : Int) < n by omega)
 have : ((p.2 % (n : Int)).toNat + 1) * n ≤ n * n := Nat.mul_le_mul_right n (by omega)
 rw [Nat.add_mul, Nat.one_mul] at this
 omega
theorem pnt_place {n : Nat} (hn : 0 < n) (p : Pt) : pnt n (place n p) = md n p := by
 have h1 := Int.emod_nonneg p.1 (show (n : Int) ≠ 0 by omega); have h2 := Int.emod_lt_of_pos p.1 (show (0 : Int) < n by omega)
 have h3 := Int.emod_nonneg p.2 (show (n : Int) ≠ 0 by omega)
 have hx : (p.1 % (n : Int)).toNat < n := by omega
 unfold pnt place md
 apply ext2
 ·simp only
  rw [Nat.mul_comm, Nat.mul_add_mod, Nat.mod_eq_of_lt hx]; omega
 ·simp only
  rw [Nat.mul_comm, Nat.mul_add_div hn, Nat.div_eq_of_lt hx]; omega
def laidL (W H : Nat) (cs : List Int) (n : Nat) : List Int := (List.range (n * n)).map fun k => colP W H cs (pnt n k)
theorem laidL_len (W H : Nat) (cs : List Int) (n : Nat) : (laidL W H cs n).length = n * n := by simp [laidL]
theorem laidL_get {W H n k : Nat} {cs : List Int} (h : k < n * n) : (laidL W H cs n).getD k 0 = colP W H cs (pnt n k) := by
 unfold laidL
 rw [List.getD_eq_getElem?_getD, List.getElem?_map, List.getElem?_range h]; rfl
def imageL (g : Int) (n t : Nat) (f : Bool) : List Nat := (List.range (n * n)).map fun k => place n (lin g t f (pnt n k))
theorem imageL_len (g : Int) (n t : Nat) (f : Bool) : (imageL g n t f).length = n * n := by simp [imageL]
theorem imageL_get {g : Int} {n t k : Nat} {f : Bool} (h : k < n * n) : (imageL g n t f).getD k 0 = place n (lin g t f (pnt n k)) := by
 unfold imageL
 rw [List.getD_eq_getElem?_getD, List.getElem?_map, List.getElem?_range h]; rfl
def keepB (W H : Nat) (cs : List Int) (g : Int) (n : Nat) (m : Mv) : Bool := (List.range (n * n)).all fun k => decide (colP W H cs (pnt n k) = colP W H cs (To g m (pnt n k)))
theorem keepB_iff {W H n : Nat} {cs : List Int} {g : Int} {m : Mv} (hn : 0 < n) (hW : W ∣ n) (hH : H ∣ n) : keepB W H cs g n m = true ↔ Keep g (colP W H cs) m := by
 unfold keepB
 rw [List.all_eq_true, keep_torus (n := (n : Int)) (by omega) (colP_per cs hW hH)]
 constructor
 ·intro h x y x0 x1 y0 y1
  have hz : (x, y) ∈ torusL n := mem_torus.2 ⟨x0, x1, y0, y1⟩
  obtain ⟨k, hk, e⟩ := List.mem_map.1 hz
  have := of_decide_eq_true (h k hk)
  rw [show pnt n k = (x, y) from e] at this
  exact this.symm
 ·intro h k hk
  have hz : pnt n k ∈ torusL n := List.mem_map.2 ⟨k, hk, rfl⟩
  rw [mem_torus] at hz
  exact decide_eq_true (h _ _ hz.1 hz.2.1 hz.2.2.1 hz.2.2.2).symm
theorem keeps_at {W H n k : Nat} {cs : List Int} {g : Int} {t : Nat} {f : Bool} {o : Pt} (hn : 0 < n) (hW : W ∣ n) (hH : H ∣ n) (hk : k < n * n) :
  (laidL W H cs n).getD (place n (add (pnt n ((imageL g n t f).getD k 0)) o)) 0 = colP W H cs (To g ⟨t, f, o⟩ (pnt n k)) := by
 rw [laidL_get (place_lt hn _), pnt_place hn, imageL_get hk, pnt_place hn]
 refine colP_per cs hW hH _ _ ((eqm_md n _).symm.trans ?_)
 unfold To
 exact (eqm_md n _).symm.add (Eqm.refl _ _)
def allM (g : Int) (n : Nat) : List Mv := [false, true].flatMap fun f => (List.range g.toNat).flatMap fun t => (List.range (n * n)).map fun k => ⟨t, f, pnt n k⟩
def movesL (W H : Nat) (cs : List Int) (g : Int) (n : Nat) : List Mv := (allM g n).filter (keepB W H cs g n)
theorem mem_allM {g : Int} {n : Nat} {m : Mv} : m ∈ allM g n ↔ okT g m ∧ 0 ≤ m.o.1 ∧ m.o.1 < n ∧ 0 ≤ m.o.2 ∧ m.o.2 < n := by
 unfold allM okT
 simp only [List.mem_flatMap, List.mem_map, List.mem_range]
 constructor
 ·rintro ⟨f, _, t, ht, k, hk, rfl⟩
  exact ⟨ht, mem_torus.1 (List.mem_map.2 ⟨k, List.mem_range.2 hk, rfl⟩)⟩
 ·rintro ⟨h1, h2⟩
  obtain ⟨k, hk, e⟩ := List.mem_map.1 (mem_torus.2 h2)
  refine ⟨m.f, by cases m.f <;> simp, m.t, h1, k, List.mem_range.1 hk, ?_⟩
  cases m
  simp only [Mv.mk.injEq, true_and]
  exact e
theorem pnt_inj {n a b : Nat} (e : pnt n a = pnt n b) : a = b := by
 have h1 : a % n = b % n := by have := congrArg Prod.fst e; unfold pnt at this; simp only at this; omega
 have h2 : a / n = b / n := by have := congrArg Prod.snd e; unfold pnt at this; simp only at this; omega
 rw [← Nat.div_add_mod a n, ← Nat.div_add_mod b n, h1, h2]
theorem nodup_allM (g : Int) (n : Nat) : (allM g n).Nodup := by
 unfold allM List.Nodup
 rw [List.pairwise_flatMap]
 refine ⟨fun f _ => ?_, ?_⟩
 ·rw [List.pairwise_flatMap]
  refine ⟨fun t _ => ?_, ?_⟩
  ·rw [List.pairwise_map]
   refine List.Pairwise.imp_of_mem ?_ List.nodup_range
   intro a b _ _ hne e
   injection e with _ _ e
   exact hne (pnt_inj e)
  ·refine List.Pairwise.imp_of_mem ?_ List.nodup_range
   intro a b _ _ hne x hx y hy e
   simp only [List.mem_map] at hx hy
   obtain ⟨_, _, rfl⟩ := hx
   obtain ⟨_, _, rfl⟩ := hy
   injection e with e
   exact hne e
 ·simp only [List.pairwise_cons, List.mem_cons, List.not_mem_nil, or_false, List.Pairwise.nil, and_true]
  refine ⟨?_, fun _ h => h.elim⟩
  intro b hb x hx y hy e
  subst hb
  simp only [List.mem_flatMap, List.mem_map] at hx hy
  obtain ⟨_, _, _, _, rfl⟩ := hx
  obtain ⟨_, _, _, _, rfl⟩ := hy
  injection e with _ e
  cases e
theorem movesL_grp {W H n : Nat} {cs : List Int} {g : Int} (hn : 0 < n) (hW : W ∣ n) (hH : H ∣ n) : Grp g n (colP W H cs) (movesL W H cs g n) where
 nod := List.Pairwise.filter _ (nodup_allM g n)
 mem m := by
  unfold movesL
  rw [List.mem_filter, mem_allM, keepB_iff hn hW hH]
  exact ⟨fun h => ⟨h.1.1, h.2, h.1.2⟩, fun h => ⟨⟨h.1, h.2.2⟩, h.2.1⟩⟩
end Z
end
section
open Go.RowKit
namespace Z
theorem least (p : Nat → Bool) : ∀ n, p n = true → ∃ a, a ≤ n ∧ p a = true ∧ ∀ x, x < a → p x = false := by
 intro n
 induction n using Nat.strongRecOn with
 | _ n ih =>
  intro hn
  by_cases h : ∃ x, x < n ∧ p x = true
  ·obtain ⟨x, hx, hp⟩ := h
   obtain ⟨a, ha, h1, h2⟩ := ih x hx hp
   exact ⟨a, by omega, h1, h2⟩
  ·refine ⟨n, Nat.le_refl _, hn, fun x hx => ?_⟩
   cases hq : p x with
   | false => rfl
   | true => exact absurd ⟨x, hx, hq⟩ h
structure Sid (p : Nat → Nat → Bool) (n a : Nat) : Prop where
 a1 : 1 ≤ a
 an : a ≤ n
 ka : p a 0 = true
 mn : ∀ x, 1 ≤ x → x < a → p x 0 = false
structure Upw (p : Nat → Nat → Bool) (n a c b : Nat) : Prop where
 b1 : 1 ≤ b
 bn : b ≤ n
 ca : c < a
 kb : p c b = true
 mn : ∀ y x, 1 ≤ y → y < b → x < a → p x y = false
 mx : ∀ x, x < c → p x b = false
theorem Sid.ex {p : Nat → Nat → Bool} {n : Nat} (hn : 0 < n) (h : p n 0 = true) : ∃ a, Sid p n a := by
 obtain ⟨a, h1, h2, h3⟩ := least (fun x => p (x + 1) 0) (n - 1) (by rw [Nat.sub_add_cancel hn]; exact h)
 exact ⟨a + 1, by omega, by omega, h2, fun x h4 h5 => by have := h3 (x - 1) (by omega); rwa [Nat.sub_add_cancel h4] at this⟩
theorem Upw.ex {p : Nat → Nat → Bool} {n a : Nat} (hn : 0 < n) (ha : 1 ≤ a) (h : p 0 n = true) : ∃ c b, Upw p n a c b := by
 obtain ⟨b, h1, h2, h3⟩ := least (fun y => (List.range a).any fun x => p x (y + 1)) (n - 1) (by rw [Nat.sub_add_cancel hn, List.any_eq_true]; exact ⟨0, List.mem_range.2 ha, h⟩)
 rw [List.any_eq_true] at h2
 obtain ⟨x0, hx0, hp0⟩ := h2
 obtain ⟨c, h4, h5, h6⟩ := least (fun x => p x (b + 1)) x0 hp0
 refine ⟨c, b + 1, by omega, by omega, by have := List.mem_range.1 hx0; omega, h5, fun y x y1 y2 xa => ?_, h6⟩
 have := h3 (y - 1) (by omega)
 rw [Nat.sub_add_cancel y1, List.any_eq_false] at this
 cases hq : p x y with
 | false => rfl
 | true => exact absurd hq (this x (List.mem_range.2 xa))
def stK (W H : Nat) (cs : List Int) (g : Int) (n : Nat) (x y : Nat) : Bool := keepB W H cs g n ⟨0, false, ((x : Int), (y : Int))⟩
section
variable {W H n : Nat} {cs : List Int} {g : Int}
theorem stK_iff (hn : 0 < n) (hW : W ∣ n) (hH : H ∣ n) {x y : Nat} : stK W H cs g n x y = true ↔ Stp (colP W H cs) ((x : Int), (y : Int)) := by
 unfold stK; rw [keepB_iff hn hW hH, stp_keep]
theorem stK_n (hn : 0 < n) (hW : W ∣ n) (hH : H ∣ n) : stK W H cs g n n 0 = true ∧ stK W H cs g n 0 n = true := by
 have hp := colP_per cs hW hH
 have s0 := (stp_sub (colP W H cs)).zero
 rw [stK_iff hn hW hH, stK_iff hn hW hH]
 exact ⟨(stp_per hp ⟨(1, 0), by unfold add sml; simp⟩).2 s0, (stp_per hp ⟨(0, 1), by unfold add sml; simp⟩).2 s0⟩
theorem fine_ex (hn : 0 < n) (hW : W ∣ n) (hH : H ∣ n) : ∃ a c b, Sid (stK W H cs g n) n a ∧ Upw (stK W H cs g n) n a c b := by
 obtain ⟨h1, h2⟩ := stK_n (g := g) (cs := cs) hn hW hH
 obtain ⟨a, ha⟩ := Sid.ex hn h1
 obtain ⟨c, b, h⟩ := Upw.ex hn ha.a1 h2
 exact ⟨a, c, b, ha, h⟩
theorem fine_of (hn : 0 < n) (hW : W ∣ n) (hH : H ∣ n) {a c b : Nat} (ha : Sid (stK W H cs g n) n a) (hb : Upw (stK W H cs g n) n a c b) : Fine (Stp (colP W H cs)) a b c where
 a0 := by have := ha.a1; omega
 sa := (stK_iff hn hW hH).1 ha.ka
 amin x x0 xa hx := by
  obtain ⟨m, rfl⟩ := Int.eq_ofNat_of_zero_le (show 0 ≤ x by omega)
  have h := ha.mn m (by omega) (by omega)
  have h2 := (stK_iff (g := g) hn hW hH (x := m) (y := 0)).2 hx
  rw [h] at h2; cases h2
 b0 := by have := hb.b1; omega
 c0 := by omega
 c1 := by have := hb.ca; omega
 sb := (stK_iff hn hW hH).1 hb.kb
 bmin x y y0 yb x0 xa hx := by
  obtain ⟨m, rfl⟩ := Int.eq_ofNat_of_zero_le (show 0 ≤ x by omega)
  obtain ⟨k, rfl⟩ := Int.eq_ofNat_of_zero_le (show 0 ≤ y by omega)
  have h := hb.mn k m (by omega) (by omega) (by omega)
  have h2 := (stK_iff (g := g) hn hW hH (x := m) (y := k)).2 hx
  rw [h] at h2; cases h2
theorem pnt_mem (hn : 0 < n) {k : Nat} (hk : k < n * n) : pnt n k ∈ torusL n := List.mem_map.2 ⟨k, List.mem_range.2 hk, rfl⟩
theorem rank_pnt (n k : Nat) : rankP n (pnt n k) = k := by
 unfold rankP pnt
 simp only [Int.toNat_natCast]
 rw [Nat.mul_comm]; exact Nat.div_add_mod k n
theorem pnt_rank {z : Pt} (hz : z ∈ torusL n) : pnt n (rankP n z) = z := by
 obtain ⟨k, hk, rfl⟩ := List.mem_map.1 hz
 exact congrArg (pnt n) (rank_pnt n k)
theorem rank_lt {z : Pt} (hz : z ∈ torusL n) : rankP n z < n * n := by
 obtain ⟨k, hk, rfl⟩ := List.mem_map.1 hz
 rw [show rankP n (((k % n : Nat) : Int), ((k / n : Nat) : Int)) = k from rank_pnt n k]
 exact List.mem_range.1 hk
theorem first_ex {L : List Mv} {col : Pt → Int} (hg : G g) (hn : 0 < n) (hp : Per n col) (h : Grp g n col L) : ∀ k, k < n * n → ∃ p, p ≤ k ∧ firstB g n L (pnt n p) = true ∧ ∃ f ∈ L, rankP n (act g n f (pnt n p)) = k := by
 have hn2 : (0 : Int) < n := by omega
 intro k
 induction k using Nat.strongRecOn with
 | _ k ih =>
  intro hk
  have hz := pnt_mem hn hk
  cases hq : firstB g n L (pnt n k) with
  | true => exact ⟨k, Nat.le_refl _, hq, idm, h.one hg hn2, by rw [act_one (mem_torus.1 hz), rank_pnt]⟩
  | false =>
   unfold firstB at hq
   rw [List.all_eq_false] at hq
   obtain ⟨f, hf, hlt⟩ := hq
   have hlt2 : rankP n (act g n f (pnt n k)) < k := by
    have h3 := rank_pnt n k
    simp only [decide_eq_true_eq, h3] at hlt
    omega
   have hm := act_mem hn (g := g) f (pnt n k)
   obtain ⟨p, hpk, hfp, e, he, hr⟩ := ih _ hlt2 (rank_lt hm)
   refine ⟨p, by omega, hfp, mulM g n (invM g n f) e, h.mul hg hn2 hp (h.inv hg hn2 hp hf) he, ?_⟩
   have h4 : act g n e (pnt n p) = act g n f (pnt n k) := rankP_inj (act_mem hn _ _) hm hr
   rw [act_mul hg (h.ok he), h4, act_inv hg hn2 (h.ok hf) (mem_torus.1 hz), rank_pnt]
theorem seen_first {L : List Mv} {col : Pt → Int} (hg : G g) (hn : 0 < n) (hp : Per n col) (h : Grp g n col L) {k : Nat} (hk : k < n * n) :
  (∃ p, p < k ∧ firstB g n L (pnt n p) = true ∧ ∃ f ∈ L, rankP n (act g n f (pnt n p)) = k) ↔ firstB g n L (pnt n k) = false := by
 have hn2 : (0 : Int) < n := by omega
 constructor
 ·rintro ⟨p, hpk, hfp, f, hf, hr⟩
  cases hq : firstB g n L (pnt n k) with
  | false => rfl
  | true =>
   have hpn : p < n * n := by omega
   have e : act g n f (pnt n p) = pnt n k := by rw [← pnt_rank (act_mem hn f (pnt n p)), hr]
   have := first_alone hg hn hp h (pnt_mem hn hpn) (pnt_mem hn hk) hfp hq hf e
   exact absurd (pnt_inj this) (by omega)
 ·intro hq
  obtain ⟨p, hpk, hfp, f, hf, hr⟩ := first_ex hg hn hp h k hk
  refine ⟨p, ?_, hfp, f, hf, hr⟩
  rcases Nat.lt_or_ge p k with h1 | h1
  ·exact h1
  ·obtain rfl : p = k := by omega
   rw [hfp] at hq; cases hq
end
end Z
end
section
open Go.RowKit
def ElemOk (t e size bytes : Nat) (z : Value) : Prop :=
 Tryd.prog.underlying t = some (.slice e) ∧ (Tryd.prog.info? e).map (fun i => (i.zero, i.size, i.bytes)) = some (some z, size, bytes) ∧ z.cells.size = size ∧ 0 < size
theorem belowGrown {B : Nat} {W w' : World} {v : Value} (hg : W.grownBy w' v.ownBlock) (hB : B ≤ W.heap.size) (hr : ∀ k, v.ownBlock = some k → B ≤ k) : Below B W w' :=
 (Below.refl B W).grown hg hB hr
theorem wpApp {W : World} {ops : Array Oper} {rest : List Oper} {o : Oper} {a : Act} {Q : Exit → Act → World → Prop} {t e size bytes : Nat} {z : Value} (hE : ElemOk t e size bytes z)
  (hgd : o.guard = none) (s x : Operand) (ho : o.op = .call { callee := .builtin .append, args := #[s, x], argTypes := #[t, t] })
  (base : Nat) (v : Value) (n : Nat) (xs : List Value) (cs : Array Value) (hs : a.eval s = v) (hown : W.ownsRow base e size v n xs)
  (hx : a.eval x = .slice (some ⟨W.heap.size, 0, none⟩) 1 1) (hl : cs.size = size) (h1 : ∀ u ∈ cs.toList, u.oneCell' = true)
  (hb : bytes ≤ 4096) (hn : n ≤ 1000000000) (hbase : base ≤ W.heap.size)
  (h : ∀ v' w', w'.ownsRow base e size v' (n + 1) (xs ++ cs.toList) → Below base W w' → wpList Tryd.prog ops Q rest (a.put o.dst v') w') : wpList Tryd.prog ops Q (o :: rest) a (W.alloc (.cells cs e)) := by
 obtain ⟨h2, h3, h4, h5⟩ := hE
 obtain ⟨i0, hi, hz0, hz1, hz2⟩ := info_parts h3
 refine wpList_append_own _ hgd s x t ho base e i0 z size bytes h2 hi hz0 hz1 hz2 h4 h5 v n xs hs (hown.alloc _) ⟨W.heap.size, 0, none⟩ 1 1 cs.toList hx (by simpa using hl) ?_ h1 (by unfold maxLen; omega) ?_ (by simp; omega) ?_
 ·intro j u hj
  have : (⟨W.heap.size, 0, none⟩ : Addr).add j = ⟨W.heap.size, j, none⟩ := by rw [Addr.add_lit]; simp
  rw [this, World.cell?_alloc_new]
  simpa using hj
 ·calc (n + 1) * bytes ≤ 1000000001 * 4096 := Nat.mul_le_mul (by omega) hb
   _ ≤ 140737488355328 := by omega
 ·intro v' w' hown' hg _
  refine h v' w' hown' ?_
  have hk := hown.lt
  exact ((Below.refl base W).alloc hbase _).trans (belowGrown hg (by simp; omega) fun k hk' => (hk k hk').1)
def IsInts (w : World) (a : Option Addr) (n : Nat) (zs : List Int) : Prop :=
 zs.length = n ∧ (0 < n → ∃ b o, a = some ⟨b, o, none⟩ ∧ b < w.heap.size ∧ ∀ j, j < n → w.cell? ⟨b, o + j, none⟩ = some (.int .i64 (zs.getD j 0)))
theorem IsInts.below {w w' : World} {a : Option Addr} {n : Nat} {zs : List Int} (h : IsInts w a n zs) (hb : Below w.heap.size w w') : IsInts w' a n zs := by
 refine ⟨h.1, fun hn => ?_⟩
 obtain ⟨b, o, h1, h2, h3⟩ := h.2 hn
 exact ⟨b, o, h1, Nat.lt_of_lt_of_le h2 hb.size, fun j hj => bCs hb (h3 j hj)⟩
theorem makeRow {t e bytes : Nat} {z : Value} (hE : ElemOk t e 1 bytes z) (hz : z.cells = #[z]) (n : Nat) (hb : bytes ≤ 4096) (hn : n ≤ 1000000000) : ∀ w : World,
  (Instr.makeSlice t (.int .i64 (n : Int)) (.int .i64 (n : Int))).run Tryd.prog w = .ok (.slice (some ⟨w.heap.size, 0, none⟩) n n) (w.alloc (.cells (madeCells #[z] n) e)) :=
 run_make_row' t e z bytes hE.1 hE.2.1 hz .i64 .i64 n (Nat.le_trans (Nat.mul_le_mul hb hn) (by omega)) (by omega)
theorem rowBelow {w w' : World} {b t n B : Nat} {f : Nat → Value} (h : w.rowIs b t n f) (hb : Below B w w') (hB : b < B) : w'.rowIs b t n f := h.of_block (hb.block b hB)
end
end Go.Proofs.YtajdoobkfbdgoaaDoor
