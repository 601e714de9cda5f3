/- Lemmas on which the law of this seat rests; each states its own conditions. -/
import Derived.Test.YtajdoobkfbdgoaaGreatDoorB01
set_option linter.unusedVariables false
set_option linter.unusedSimpArgs false
namespace Go.Proofs.YtajdoobkfbdgoaaGreatDoor
section
open Go.RowKit
namespace Z
def md (n : Int) (p : Pt) : Pt := (p.1 % n, p.2 % n)
def sml (k : Int) (p : Pt) : Pt := (k * p.1, k * p.2)
theorem turn_sml (g k : Int) (p : Pt) : turn g (sml k p) = sml k (turn g p) := by
 unfold turn sml
 apply ext2
 ·simp only; grind
 ·simp only; split <;> grind
theorem tn_sml (g k : Int) (p : Pt) : ∀ t, tn g t (sml k p) = sml k (tn g t p)
 | 0 => rfl
 | t + 1 => by
  show turn g (tn g t (sml k p)) = sml k (turn g (tn g t p))
  rw [tn_sml g k p t, turn_sml]
theorem mir_sml (g k : Int) (f : Bool) (p : Pt) : mir g f (sml k p) = sml k (mir g f p) := by
 unfold mir
 cases f with
 | false => rfl
 | true =>
  simp only [if_true]
  unfold conj sml miX
  apply ext2
  ·simp only; (try split) <;> grind
  ·simp only; grind
theorem lin_sml (g k : Int) (t : Nat) (f : Bool) (p : Pt) : lin g t f (sml k p) = sml k (lin g t f p) := by
 unfold lin; rw [mir_sml, tn_sml]
def Eqm (n : Int) (a b : Pt) : Prop := ∃ k, a = add b (sml n k)
theorem Eqm.refl (n : Int) (a : Pt) : Eqm n a a := ⟨(0, 0), by unfold add sml; simp⟩
theorem Eqm.symm {n : Int} {a b : Pt} (h : Eqm n a b) : Eqm n b a := by
 obtain ⟨k, rfl⟩ := h
 refine ⟨neg k, ?_⟩
 unfold add sml neg
 apply ext2 <;> simp only <;> grind
theorem Eqm.trans {n : Int} {a b c : Pt} (h : Eqm n a b) (k : Eqm n b c) : Eqm n a c := by
 obtain ⟨x, rfl⟩ := h
 obtain ⟨y, rfl⟩ := k
 refine ⟨add y x, ?_⟩
 unfold add sml
 apply ext2 <;> simp only <;> grind
theorem eqm_md (n : Int) (a : Pt) : Eqm n a (md n a) := by
 refine ⟨(a.1 / n, a.2 / n), ?_⟩
 unfold add sml md
 apply ext2
 ·exact (Int.emod_add_mul_ediv a.1 n).symm
 ·exact (Int.emod_add_mul_ediv a.2 n).symm
theorem md_eq {n : Int} {a b : Pt} (h : Eqm n a b) : md n a = md n b := by
 obtain ⟨k, rfl⟩ := h
 unfold md add sml
 apply ext2
 ·exact Int.add_mul_emod_self_left _ _ _
 ·exact Int.add_mul_emod_self_left _ _ _
theorem eqm_iff {n : Int} {a b : Pt} : Eqm n a b ↔ md n a = md n b :=
 ⟨md_eq, fun h => (eqm_md n a).trans (by rw [h]; exact (eqm_md n b).symm)⟩
theorem Eqm.add {n : Int} {a b c d : Pt} (h : Eqm n a b) (k : Eqm n c d) : Eqm n (add a c) (add b d) := by
 obtain ⟨x, rfl⟩ := h
 obtain ⟨y, rfl⟩ := k
 refine ⟨Z.add x y, ?_⟩
 unfold Z.add sml
 apply ext2 <;> simp only <;> grind
theorem Eqm.lin {n g : Int} {t : Nat} {f : Bool} {a b : Pt} (h : Eqm n a b) : Eqm n (lin g t f a) (lin g t f b) := by
 obtain ⟨x, rfl⟩ := h
 exact ⟨Z.lin g t f x, by rw [lin_add, lin_sml]⟩
def redM (n : Int) (m : Mv) : Mv := ⟨m.t, m.f, md n m.o⟩
theorem To_eqm {n g : Int} {m h : Mv} (ht : m.t = h.t) (hf : m.f = h.f) (ho : Eqm n m.o h.o) {a b : Pt} (hab : Eqm n a b) : Eqm n (To g m a) (To g h b) := by
 unfold To
 rw [ht, hf]
 exact hab.lin.add ho
theorem To_red {n g : Int} (m : Mv) (a : Pt) : Eqm n (To g m a) (To g (redM n m) a) := To_eqm (m := m) (h := redM n m) rfl rfl (eqm_md n m.o) (Eqm.refl n a)
def Per (n : Int) (col : Pt → Int) : Prop := ∀ a b, Eqm n a b → col a = col b
def Keep (g : Int) (col : Pt → Int) (m : Mv) : Prop := ∀ z, col (To g m z) = col z
theorem Keep.id (g : Int) (col : Pt → Int) : Keep g col idm := fun z => by
 have : To g idm z = z := by unfold To lin idm mir tn; apply ext2 <;> simp [Z.add]
 rw [this]
theorem Keep.both {g : Int} (hg : G g) {col : Pt → Int} {m h : Mv} (hh : okT g h) (km : Keep g col m) (kh : Keep g col h) : Keep g col (both g m h) := fun z => by
 rw [To_both hg hh, km, kh]
theorem Keep.inv {g : Int} (hg : G g) {col : Pt → Int} {m : Mv} (hm : okT g m) (km : Keep g col m) : Keep g col (inv g m) := fun z => by
 have h1 := km (To g (Z.inv g m) z)
 rw [← To_both hg (inv_ok hg hm), (both_inv hg hm).2] at h1
 have : To g idm z = z := by unfold To lin idm mir tn; apply ext2 <;> simp [Z.add]
 rw [this] at h1
 exact h1.symm
theorem Keep.eqm {n g : Int} {col : Pt → Int} (hp : Per n col) {m h : Mv} (ht : m.t = h.t) (hf : m.f = h.f) (ho : Eqm n m.o h.o) (k : Keep g col m) : Keep g col h := fun z => by
 rw [← k z]
 exact (hp _ _ (To_eqm ht hf ho (Eqm.refl n z))).symm
theorem keep_red {n g : Int} {col : Pt → Int} (hp : Per n col) (m : Mv) : Keep g col (redM n m) ↔ Keep g col m :=
 ⟨fun k => Keep.eqm (m := redM n m) (h := m) hp rfl rfl (eqm_md n m.o).symm k, fun k => Keep.eqm (m := m) (h := redM n m) hp rfl rfl (eqm_md n m.o) k⟩
theorem keep_torus {n g : Int} (hn : 0 < n) {col : Pt → Int} (hp : Per n col) (m : Mv) : Keep g col m ↔ ∀ x y : Int, 0 ≤ x → x < n → 0 ≤ y → y < n → col (To g m (x, y)) = col (x, y) := by
 refine ⟨fun k x y _ _ _ _ => k (x, y), fun h z => ?_⟩
 have e := eqm_md n z
 have h1 := h (md n z).1 (md n z).2 (Int.emod_nonneg _ (by omega)) (Int.emod_lt_of_pos _ hn) (Int.emod_nonneg _ (by omega)) (Int.emod_lt_of_pos _ hn)
 rw [hp _ _ e, ← h1]
 exact hp _ _ (To_eqm rfl rfl (Eqm.refl n _) e)
structure Grp (g n : Int) (col : Pt → Int) (L : List Mv) : Prop where
 nod : L.Nodup
 mem : ∀ m, m ∈ L ↔ okT g m ∧ Keep g col m ∧ 0 ≤ m.o.1 ∧ m.o.1 < n ∧ 0 ≤ m.o.2 ∧ m.o.2 < n
theorem md_bd {n : Int} (hn : 0 < n) (p : Pt) : 0 ≤ (md n p).1 ∧ (md n p).1 < n ∧ 0 ≤ (md n p).2 ∧ (md n p).2 < n :=
 ⟨Int.emod_nonneg _ (by omega), Int.emod_lt_of_pos _ hn, Int.emod_nonneg _ (by omega), Int.emod_lt_of_pos _ hn⟩
theorem md_self {n : Int} {p : Pt} (h : 0 ≤ p.1 ∧ p.1 < n ∧ 0 ≤ p.2 ∧ p.2 < n) : md n p = p := by
 unfold md
 rw [Int.emod_eq_of_lt h.1 h.2.1, Int.emod_eq_of_lt h.2.2.1 h.2.2.2]
theorem Grp.red {g n : Int} {col : Pt → Int} {L : List Mv} (h : Grp g n col L) (hn : 0 < n) (hp : Per n col) {m : Mv} (ho : okT g m) (k : Keep g col m) : redM n m ∈ L :=
 (h.mem _).2 ⟨ho, (keep_red hp m).2 k, md_bd hn m.o⟩
def mulM (g n : Int) (f h : Mv) : Mv := redM n (both g f h)
def invM (g n : Int) (f : Mv) : Mv := redM n (inv g f)
def act (g n : Int) (m : Mv) (z : Pt) : Pt := md n (To g m z)
theorem act_mul {g n : Int} (hg : G g) {f h : Mv} (hh : okT g h) (z : Pt) : act g n (mulM g n f h) z = act g n f (act g n h z) := by
 unfold act mulM
 rw [← md_eq (To_red (both g f h) z), To_both hg hh]
 exact md_eq (To_eqm rfl rfl (Eqm.refl n _) (eqm_md n _))
theorem both_eqm {g n : Int} {f f' h h' : Mv} (e1 : f.t = f'.t) (e2 : f.f = f'.f) (e3 : Eqm n f.o f'.o) (e4 : h.t = h'.t) (e5 : h.f = h'.f) (e6 : Eqm n h.o h'.o) : redM n (both g f h) = redM n (both g f' h') := by
 unfold redM both bothT
 simp only [Mv.mk.injEq]
 refine ⟨by rw [e1, e2, e4], by rw [e2, e5], md_eq (To_eqm e1 e2 e3 e6)⟩
theorem both_redL (g n : Int) (f h : Mv) : redM n (both g (redM n f) h) = redM n (both g f h) :=
 both_eqm (f := redM n f) (f' := f) (h := h) (h' := h) rfl rfl (eqm_md n _).symm rfl rfl (Eqm.refl n _)
theorem both_redR (g n : Int) (f h : Mv) : redM n (both g f (redM n h)) = redM n (both g f h) :=
 both_eqm (f := f) (f' := f) (h := redM n h) (h' := h) rfl rfl (Eqm.refl n _) rfl rfl (eqm_md n _).symm
theorem redM_self {n : Int} {m : Mv} (h : 0 ≤ m.o.1 ∧ m.o.1 < n ∧ 0 ≤ m.o.2 ∧ m.o.2 < n) : redM n m = m := by
 unfold redM; rw [md_self h]
theorem To_idm (g : Int) (z : Pt) : To g idm z = z := by unfold To lin idm mir tn; apply ext2 <;> simp [Z.add]
def sumL {α : Type} (l : List α) (f : α → Nat) : Nat := (l.map f).sum
theorem sumL_cons {α : Type} (a : α) (l : List α) (f : α → Nat) : sumL (a :: l) f = f a + sumL l f := by simp [sumL]
theorem sumL_congr {α : Type} {l : List α} {f h : α → Nat} (e : ∀ x ∈ l, f x = h x) : sumL l f = sumL l h := by
 unfold sumL; rw [List.map_congr_left e]
theorem sumL_zero {α : Type} {l : List α} {f : α → Nat} (e : ∀ x ∈ l, f x = 0) : sumL l f = 0 := by
 induction l with
 | nil => rfl
 | cons a l ih => rw [sumL_cons, e a (by simp), ih fun x hx => e x (by simp [hx])]
theorem sumL_add {α : Type} (l : List α) (f h : α → Nat) : sumL l (fun x => f x + h x) = sumL l f + sumL l h := by
 induction l with
 | nil => rfl
 | cons a l ih => rw [sumL_cons, sumL_cons, sumL_cons, ih]; omega
theorem sumL_one {α : Type} [DecidableEq α] {l : List α} (hl : l.Nodup) {f : α → Nat} {m : α} (hm : m ∈ l) (h0 : ∀ x ∈ l, x ≠ m → f x = 0) : sumL l f = f m := by
 induction l with
 | nil => cases hm
 | cons a l ih =>
  rw [sumL_cons]
  rw [List.nodup_cons] at hl
  by_cases e : a = m
  ·subst e
   rw [sumL_zero fun x hx => h0 x (by simp [hx]) fun e => hl.1 (e ▸ hx), Nat.add_zero]
  ·rw [h0 a (by simp) e, Nat.zero_add]
   exact ih hl.2 ((List.mem_cons.1 hm).resolve_left fun x => e x.symm) fun x hx => h0 x (by simp [hx])
end Z
end
section
open Go.RowKit
namespace Z
structure Sub (S : Pt → Prop) : Prop where
 zero : S (0, 0)
 add : ∀ a b, S a → S b → S (add a b)
 neg : ∀ a, S a → S (neg a)
theorem Sub.sml {S : Pt → Prop} (h : Sub S) {a : Pt} (ha : S a) : ∀ k : Int, S (k * a.1, k * a.2) := by
 have hn : ∀ k : Nat, S ((k : Int) * a.1, (k : Int) * a.2) := by
  intro k
  induction k with
  | zero => simpa using h.zero
  | succ k ih =>
   have := h.add _ _ ih ha
   unfold Z.add at this
   simp only at this
   rw [show (((k + 1 : Nat) : Int)) * a.1 = (k : Int) * a.1 + a.1 by rw [Int.natCast_add, Int.add_mul]; simp, show (((k + 1 : Nat) : Int)) * a.2 = (k : Int) * a.2 + a.2 by rw [Int.natCast_add, Int.add_mul]; simp]
   exact this
 intro k
 rcases Int.le_total 0 k with hk | hk
 ·obtain ⟨m, rfl⟩ := Int.eq_ofNat_of_zero_le hk
  exact hn m
 ·obtain ⟨m, hm⟩ := Int.eq_ofNat_of_zero_le (show 0 ≤ -k by omega)
  have := h.neg _ (hn m)
  unfold Z.neg at this
  simp only at this
  rw [← hm] at this
  rw [show -(-k * a.1) = k * a.1 by rw [Int.neg_mul, Int.neg_neg], show -(-k * a.2) = k * a.2 by rw [Int.neg_mul, Int.neg_neg]] at this
  exact this
structure Fine (S : Pt → Prop) (a b c : Int) : Prop where
 a0 : 0 < a
 sa : S (a, 0)
 amin : ∀ x, 0 < x → x < a → ¬ S (x, 0)
 b0 : 0 < b
 c0 : 0 ≤ c
 c1 : c < a
 sb : S (c, b)
 bmin : ∀ x y, 0 < y → y < b → 0 ≤ x → x < a → ¬ S (x, y)
theorem Fine.row {S : Pt → Prop} {a b c : Int} (hs : Sub S) (h : Fine S a b c) (x : Int) : S (x, 0) ↔ a ∣ x := by
 constructor
 ·intro hx
  have h1 := hs.add _ _ hx (hs.sml h.sa (-(x / a)))
  unfold Z.add at h1
  simp only [Int.mul_zero, Int.add_zero] at h1
  have e : x + -(x / a) * a = x % a := by have := Int.emod_add_ediv_mul x a; rw [Int.neg_mul]; omega
  rw [e] at h1
  have h2 := Int.emod_nonneg x (show a ≠ 0 by have := h.a0; omega)
  have h3 := Int.emod_lt_of_pos x h.a0
  by_cases h4 : x % a = 0
  ·exact Int.dvd_of_emod_eq_zero h4
  ·exact absurd h1 (h.amin _ (by omega) h3)
 ·rintro ⟨k, rfl⟩
  have := hs.sml h.sa k
  simpa [Int.mul_comm] using this
theorem Fine.spec {S : Pt → Prop} {a b c : Int} (hs : Sub S) (h : Fine S a b c) (z : Pt) : S z ↔ b ∣ z.2 ∧ a ∣ z.1 - z.2 / b * c := by
 have hb := h.b0
 have back : ∀ k : Int, S z ↔ S (z.1 - k * c, z.2 - k * b) := fun k => by
  constructor
  ·intro hz
   have h1 := hs.add _ _ hz (hs.sml h.sb (-k))
   unfold Z.add at h1
   simp only at h1
   rw [show z.1 + -k * c = z.1 - k * c by rw [Int.neg_mul]; omega, show z.2 + -k * b = z.2 - k * b by rw [Int.neg_mul]; omega] at h1
   exact h1
  ·intro hz
   have h1 := hs.add _ _ hz (hs.sml h.sb k)
   unfold Z.add at h1
   simp only at h1
   rw [show z.1 - k * c + k * c = z.1 by omega, show z.2 - k * b + k * b = z.2 by omega] at h1
   exact h1
 constructor
 ·intro hz
  have h1 := (back (z.2 / b)).1 hz
  have e : z.2 - z.2 / b * b = z.2 % b := by have := Int.emod_add_ediv_mul z.2 b; omega
  rw [e] at h1
  have h2 := Int.emod_nonneg z.2 (show b ≠ 0 by omega)
  have h3 := Int.emod_lt_of_pos z.2 hb
  have hm : z.2 % b = 0 := by
   by_cases h4 : z.2 % b = 0
   ·exact h4
   ·exfalso
    -- the first part, brought below a
    have h5 := hs.add _ _ h1 (hs.sml h.sa (-((z.1 - z.2 / b * c) / a)))
    unfold Z.add at h5
    simp only [Int.mul_zero, Int.add_zero] at h5
    have e2 : z.1 - z.2 / b * c + -((z.1 - z.2 / b * c) / a) * a = (z.1 - z.2 / b * c) % a := by
     have := Int.emod_add_ediv_mul (z.1 - z.2 / b * c) a; rw [Int.neg_mul]; omega
    rw [e2] at h5
    exact h.bmin _ _ (by omega) h3 (Int.emod_nonneg _ (by have := h.a0; omega)) (Int.emod_lt_of_pos _ h.a0) h5
  rw [hm] at h1
  exact ⟨Int.dvd_of_emod_eq_zero hm, (h.row hs _).1 h1⟩
 ·rintro ⟨⟨k, hk⟩, h2⟩
  have e : z.2 / b = k := by rw [hk]; exact Int.mul_ediv_cancel_left k (by omega)
  rw [e] at h2
  rw [back k, show z.2 - k * b = 0 by rw [hk, Int.mul_comm]; omega]
  exact (h.row hs _).2 h2
theorem count_res {a n : Nat} (ha : 0 < a) (t : Nat) (ht : t < a) : ∀ k, n = a * k → (List.range n).countP (fun x => decide (x % a = t)) = k := by
 intro k
 induction k generalizing n with
 | zero => intro h; rw [h, Nat.mul_zero]; rfl
 | succ k ih =>
  intro h
  rw [h, Nat.mul_add, Nat.mul_one, List.range_add, List.countP_append, ih rfl, List.countP_map]
  have : (List.range a).countP ((fun x => decide (x % a = t)) ∘ fun x => a * k + x) = 1 := by
   have e : (List.range a).countP ((fun x => decide (x % a = t)) ∘ fun x => a * k + x) = (List.range a).countP (fun x => x == t) := by
    refine List.countP_congr fun x hx => ?_
    rw [List.mem_range] at hx
    simp [Nat.mul_add_mod, Nat.mod_eq_of_lt hx]
   rw [e]
   have := List.nodup_range.count (a := t) (l := List.range a)
   rw [if_pos (List.mem_range.2 ht)] at this
   exact this
  rw [this]
end Z
end
section
open Go.RowKit
namespace Z
section
variable {g n : Int} {col : Pt → Int} {L : List Mv}
theorem Grp.ok (h : Grp g n col L) {m : Mv} (hm : m ∈ L) : okT g m := ((h.mem m).1 hm).1
theorem Grp.keep (h : Grp g n col L) {m : Mv} (hm : m ∈ L) : Keep g col m := ((h.mem m).1 hm).2.1
theorem Grp.bd (h : Grp g n col L) {m : Mv} (hm : m ∈ L) : 0 ≤ m.o.1 ∧ m.o.1 < n ∧ 0 ≤ m.o.2 ∧ m.o.2 < n := ((h.mem m).1 hm).2.2
theorem Grp.one (h : Grp g n col L) (hg : G g) (hn : 0 < n) : idm ∈ L :=
 (h.mem _).2 ⟨idm_ok hg, Keep.id g col, by simp [idm]; omega⟩
theorem Grp.mul (h : Grp g n col L) (hg : G g) (hn : 0 < n) (hp : Per n col) {a b : Mv} (ha : a ∈ L) (hb : b ∈ L) : mulM g n a b ∈ L :=
 h.red hn hp (both_ok hg a b) ((h.keep ha).both hg (h.ok hb) (h.keep hb))
theorem Grp.inv (h : Grp g n col L) (hg : G g) (hn : 0 < n) (hp : Per n col) {a : Mv} (ha : a ∈ L) : invM g n a ∈ L :=
 h.red hn hp (inv_ok hg (h.ok ha)) ((h.keep ha).inv hg (h.ok ha))
theorem act_one {z : Pt} (hz : 0 ≤ z.1 ∧ z.1 < n ∧ 0 ≤ z.2 ∧ z.2 < n) : act g n idm z = z := by
 unfold act; rw [To_idm, md_self hz]
theorem redM_idm (hn : 0 < n) : redM n idm = idm := redM_self (by simp [idm]; omega)
theorem mulM_inv (hg : G g) (hn : 0 < n) {f : Mv} (hf : okT g f) : mulM g n (invM g n f) f = idm ∧ mulM g n f (invM g n f) = idm := by
 unfold mulM invM
 rw [both_redL, both_redR, (both_inv hg hf).1, (both_inv hg hf).2, redM_idm hn]
 exact ⟨rfl, rfl⟩
theorem act_inv (hg : G g) (hn : 0 < n) {f : Mv} (hf : okT g f) {z : Pt} (hz : 0 ≤ z.1 ∧ z.1 < n ∧ 0 ≤ z.2 ∧ z.2 < n) : act g n (invM g n f) (act g n f z) = z := by
 rw [← act_mul hg hf, (mulM_inv hg hn hf).1, act_one hz]
end
def torusL (n : Nat) : List Pt := (List.range (n * n)).map fun k => (((k % n : Nat) : Int), ((k / n : Nat) : Int))
theorem mem_torus {n : Nat} {z : Pt} : z ∈ torusL n ↔ 0 ≤ z.1 ∧ z.1 < n ∧ 0 ≤ z.2 ∧ z.2 < n := by
 unfold torusL
 rw [List.mem_map]
 constructor
 ·rintro ⟨k, hk, rfl⟩
  rw [List.mem_range] at hk
  have hn : 0 < n := by
   rcases Nat.eq_zero_or_pos n with h | h
   ·subst h; omega
   ·exact h
  have h1 := Nat.mod_lt k hn
  have h2 : k / n < n := Nat.div_lt_of_lt_mul hk
  exact ⟨Int.natCast_nonneg _, Int.ofNat_lt.2 h1, Int.natCast_nonneg _, Int.ofNat_lt.2 h2⟩
 ·rintro ⟨h1, h2, h3, h4⟩
  refine ⟨z.2.toNat * n + z.1.toNat, ?_, ?_⟩
  ·rw [List.mem_range]
   have : (z.2.toNat + 1) * n ≤ n * n := Nat.mul_le_mul_right n (by omega)
   rw [Nat.add_mul, Nat.one_mul] at this
   omega
  ·have hx : z.1.toNat < n := by omega
   apply ext2
   ·simp only
    rw [Nat.mul_comm, Nat.mul_add_mod, Nat.mod_eq_of_lt hx]; omega
   ·simp only
    rw [Nat.mul_comm, Nat.mul_add_div (by omega), Nat.div_eq_of_lt hx]; omega
theorem nodup_torus (n : Nat) : (torusL n).Nodup := by
 unfold torusL List.Nodup
 rw [List.pairwise_map]
 refine List.Pairwise.imp_of_mem ?_ List.nodup_range
 intro a b ha hb hne e
 rw [List.mem_range] at ha hb
 have h1 : a % n = b % n := by have := congrArg Prod.fst e; simp only at this; omega
 have h2 : a / n = b / n := by have := congrArg Prod.snd e; simp only at this; omega
 apply hne
 rw [← Nat.div_add_mod a n, ← Nat.div_add_mod b n, h1, h2]
def rankP (n : Nat) (z : Pt) : Nat := z.2.toNat * n + z.1.toNat
theorem rankP_inj {n : Nat} {y z : Pt} (hy : y ∈ torusL n) (hz : z ∈ torusL n) (h : rankP n y = rankP n z) : y = z := by
  rw [mem_torus] at hy hz
  unfold rankP at h
  have h1 : y.1.toNat < n := by omega
  have h2 : z.1.toNat < n := by omega
  have e1 := congrArg (· % n) h
  have e2 := congrArg (· / n) h
  simp only [Nat.mul_comm _ n, Nat.mul_add_mod, Nat.mod_eq_of_lt h1, Nat.mod_eq_of_lt h2, Nat.mul_add_div (show 0 < n by omega), Nat.div_eq_of_lt h1, Nat.div_eq_of_lt h2] at e1 e2
  apply ext2 <;> omega
theorem act_mem {g : Int} {n : Nat} (hn : 0 < n) (f : Mv) (z : Pt) : act g n f z ∈ torusL n := mem_torus.2 (md_bd (by omega) _)
def firstB (g : Int) (n : Nat) (L : List Mv) (z : Pt) : Bool := L.all fun f => decide (rankP n z ≤ rankP n (act g n f z))
theorem firstB_iff {g : Int} {n : Nat} {L : List Mv} {z : Pt} : firstB g n L z = true ↔ ∀ f ∈ L, rankP n z ≤ rankP n (act g n f z) := by
 unfold firstB; rw [List.all_eq_true]; exact ⟨fun h f hf => of_decide_eq_true (h f hf), fun h f hf => decide_eq_true (h f hf)⟩
theorem first_alone {g : Int} (hg : G g) {n : Nat} (hn : 0 < n) {col : Pt → Int} (hp : Per n col) {L : List Mv} (h : Grp g n col L) {y z : Pt} (hy : y ∈ torusL n) (hz : z ∈ torusL n) (fy : firstB g n L y = true) (fz : firstB g n L z = true) {f : Mv} (hf : f ∈ L) (e : act g n f y = z) : y = z := by
 have hn2 : (0 : Int) < n := by omega
 refine rankP_inj hy hz (Nat.le_antisymm ?_ ?_)
 ·have := firstB_iff.1 fy f hf
  rwa [e] at this
 ·have := firstB_iff.1 fz _ (h.inv hg hn2 hp hf)
  rw [← e, act_inv hg hn2 (h.ok hf) (mem_torus.1 hy), e] at this
  exact this
end Z
end
section
open Go.RowKit
namespace Z
theorem perm_length {α : Type} [DecidableEq α] {a b : List α} (ha : a.Nodup) (hb : b.Nodup) (h : ∀ x, x ∈ a ↔ x ∈ b) : a.length = b.length := by
 have : a.Perm b := by
  rw [List.perm_iff_count]
  intro x
  rw [ha.count, hb.count]
  by_cases hx : x ∈ a
  ·rw [if_pos hx, if_pos ((h x).1 hx)]
  ·rw [if_neg hx, if_neg fun e => hx ((h x).2 e)]
 exact this.length_eq
theorem countP_grid (n : Nat) (hn : 0 < n) (p : Nat → Nat → Bool) : ∀ m, (List.range (m * n)).countP (fun k => p (k % n) (k / n)) = sumL (List.range m) (fun y => (List.range n).countP fun x => p x y) := by
 intro m
 induction m with
 | zero => simp [sumL]
 | succ m ih =>
  rw [Nat.add_mul, Nat.one_mul, List.range_add, List.countP_append, ih, List.countP_map, List.range_succ]
  unfold sumL
  rw [List.map_append, List.sum_append]
  congr 1
  simp only [List.map_cons, List.map_nil, List.sum_cons, List.sum_nil, Nat.add_zero]
  refine List.countP_congr fun x hx => ?_
  rw [List.mem_range] at hx
  simp only [Function.comp]
  rw [Nat.mul_comm m n, Nat.mul_add_mod, Nat.mod_eq_of_lt hx, Nat.mul_add_div hn, Nat.div_eq_of_lt hx, Nat.add_zero]
theorem sumL_countP {α : Type} (l : List α) (p : α → Bool) (c : Nat) : sumL l (fun x => if p x then c else 0) = l.countP p * c := by
 induction l with
 | nil => simp [sumL]
 | cons a l ih =>
  rw [sumL_cons, ih, List.countP_cons]
  cases p a <;> simp [Nat.add_mul, Nat.add_comm]
theorem dvd_sub_iff {a x : Nat} {t : Int} (ha : 0 < a) : (a : Int) ∣ (x : Int) - t ↔ x % a = (t % (a : Int)).toNat := by
 have h1 := Int.emod_nonneg t (show (a : Int) ≠ 0 by omega)
 have h2 : ((x % a : Nat) : Int) = (x : Int) % (a : Int) := Int.natCast_emod x a
 rw [Int.dvd_iff_emod_eq_zero, ← Int.emod_eq_emod_iff_emod_sub_eq_zero, ← h2]
 constructor
 ·intro h; omega
 ·intro h; omega
theorem grid_count {n a b : Nat} (ha : 0 < a) (hb : 0 < b) (hn : 0 < n) (da : a ∣ n) (db : b ∣ n) (c : Nat → Int) :
  (List.range (n * n)).countP (fun k => decide (b ∣ k / n) && decide ((a : Int) ∣ ((k % n : Nat) : Int) - c (k / n))) * (a * b) = n * n := by
 obtain ⟨ka, hka⟩ := da
 obtain ⟨kb, hkb⟩ := db
 have e := countP_grid n hn (fun (x y : Nat) => decide (b ∣ y) && decide ((a : Int) ∣ (x : Int) - c y)) n
 rw [e]
 have e2 : sumL (List.range n) (fun y => (List.range n).countP fun (x : Nat) => decide (b ∣ y) && decide ((a : Int) ∣ (x : Int) - c y)) = sumL (List.range n) (fun y => if decide (b ∣ y) then ka else 0) := sumL_congr fun y _ => by
  by_cases hy : b ∣ y
  ·rw [decide_eq_true hy, if_pos rfl]
   have h0 := Int.emod_nonneg (c y) (show (a : Int) ≠ 0 by omega)
   have h1 := Int.emod_lt_of_pos (c y) (show (0 : Int) < a by omega)
   rw [← count_res ha (c y % (a : Int)).toNat (by omega) ka hka]
   refine List.countP_congr fun x _ => ?_
   simp only [Bool.true_and, decide_eq_true_eq]
   exact dvd_sub_iff ha
  ·rw [decide_eq_false hy, if_neg (by simp)]
   rw [List.countP_eq_zero]
   intro x _ h
   simp at h
 rw [e2, sumL_countP]
 have e3 : (List.range n).countP (fun y => decide (b ∣ y)) = kb := by
  rw [← count_res hb 0 hb kb hkb]
  refine List.countP_congr fun x _ => ?_
  simp only [decide_eq_true_eq]
  exact Nat.dvd_iff_mod_eq_zero
 rw [e3, show kb * ka * (a * b) = (a * ka) * (b * kb) by rw [Nat.mul_comm kb ka, Nat.mul_assoc, Nat.mul_comm a ka, ← Nat.mul_assoc kb a b, Nat.mul_comm kb a, Nat.mul_assoc a kb b, Nat.mul_comm kb b, Nat.mul_assoc ka a (b * kb)], ← hka, ← hkb]
def Stp (col : Pt → Int) (z : Pt) : Prop := ∀ p, col (add p z) = col p
theorem stp_keep {g : Int} {col : Pt → Int} (z : Pt) : Keep g col ⟨0, false, z⟩ ↔ Stp col z := by
 unfold Keep Stp
 have : ∀ p, To g ⟨0, false, z⟩ p = add p z := fun p => by unfold To lin mir tn; simp
 constructor
 ·intro h p; rw [← this p]; exact h p
 ·intro h p; rw [this p]; exact h p
theorem stp_sub (col : Pt → Int) : Sub (Stp col) := by
 refine ⟨fun p => ?_, fun a b ha hb p => ?_, fun a ha p => ?_⟩
 ·rw [show add p (0, 0) = p by unfold add; simp]
 ·rw [← add_assoc, hb, ha]
 ·have := ha (add p (neg a))
  rw [add_assoc, (neg_eq 0 a).2] at this
  rw [← this, show add p (0, 0) = p by unfold add; simp]
theorem stp_per {n : Int} {col : Pt → Int} (hp : Per n col) {a b : Pt} (h : Eqm n a b) : Stp col a ↔ Stp col b := by
 constructor
 ·intro ha p
  rw [← ha p]; exact hp _ _ ((Eqm.refl n p).add h.symm)
 ·intro hb p
  rw [← hb p]; exact hp _ _ ((Eqm.refl n p).add h)
theorem fine_dvd {n : Nat} {col : Pt → Int} (hp : Per n col) {a b c : Int} (h : Fine (Stp col) a b c) : a ∣ (n : Int) ∧ b ∣ (n : Int) := by
 have s0 := (stp_sub col).zero
 have h1 : Stp col ((n : Int), 0) := (stp_per hp ⟨(1, 0), by unfold add sml; simp⟩).2 s0
 have h2 : Stp col (0, (n : Int)) := (stp_per hp ⟨(0, 1), by unfold add sml; simp⟩).2 s0
 exact ⟨(h.row (stp_sub col) _).1 h1, ((h.spec (stp_sub col) (0, (n : Int))).1 h2).1⟩
end Z
end
section
open Go.RowKit
namespace Z
section
variable {g : Int} {n : Nat} {col : Pt → Int} {L : List Mv}
def stepB (L : List Mv) (z : Pt) : Bool := decide ((⟨0, false, z⟩ : Mv) ∈ L)
theorem stepB_iff (h : Grp g n col L) (hg : G g) {z : Pt} (hz : z ∈ torusL n) : stepB L z = true ↔ Stp col z := by
 unfold stepB
 rw [decide_eq_true_iff, h.mem, stp_keep]
 rw [mem_torus] at hz
 exact ⟨fun x => x.2.1, fun x => ⟨by rcases hg with rfl | rfl <;> simp [okT], x, hz⟩⟩
theorem steps_count (h : Grp g n col L) (hg : G g) (hn : 0 < n) (hp : Per n col) {a b : Nat} {c : Int} (hf : Fine (Stp col) a b c) : (torusL n).countP (stepB L) * (a * b) = n * n := by
 obtain ⟨d1, d2⟩ := fine_dvd hp hf
 have ha : 0 < a := by have := hf.a0; omega
 have hb : 0 < b := by have := hf.b0; omega
 have da : a ∣ n := Int.natCast_dvd_natCast.1 d1
 have db : b ∣ n := Int.natCast_dvd_natCast.1 d2
 rw [← grid_count ha hb hn da db (fun y => ((y / b : Nat) : Int) * c)]
 congr 1
 unfold torusL
 rw [List.countP_map]
 refine List.countP_congr fun k hk => ?_
 have hz : (((k % n : Nat) : Int), ((k / n : Nat) : Int)) ∈ torusL n := List.mem_map.2 ⟨k, hk, rfl⟩
 simp only [Function.comp, Bool.and_eq_true, decide_eq_true_eq]
 rw [stepB_iff h hg hz, hf.spec (stp_sub col)]
 simp only
 constructor
 ·rintro ⟨h1, h2⟩
  exact ⟨Int.natCast_dvd_natCast.1 h1, h2⟩
 ·rintro ⟨h1, h2⟩
  exact ⟨Int.natCast_dvd_natCast.2 h1, h2⟩
def keyB (t : Nat) (f : Bool) (m : Mv) : Bool := decide (m.t = t) && (m.f == f)
theorem keyB_iff {t : Nat} {f : Bool} {m : Mv} : keyB t f m = true ↔ m.t = t ∧ m.f = f := by unfold keyB; simp
theorem block_count (h : Grp g n col L) (hg : G g) (hn : 0 < n) (hp : Per n col) {m0 : Mv} (h0 : m0 ∈ L) : L.countP (keyB m0.t m0.f) = (torusL n).countP (stepB L) := by
 have hn2 : (0 : Int) < n := by omega
 rw [List.countP_eq_length_filter, List.countP_eq_length_filter]
 have hinj : ∀ x ∈ L.filter (keyB m0.t m0.f), ∀ y ∈ L.filter (keyB m0.t m0.f), md n (add x.o (neg m0.o)) = md n (add y.o (neg m0.o)) → x = y := by
  intro x hx y hy e
  obtain ⟨x1, x2⟩ := List.mem_filter.1 hx
  obtain ⟨y1, y2⟩ := List.mem_filter.1 hy
  rw [keyB_iff] at x2 y2
  have e2 := (eqm_iff.2 e).add (Eqm.refl (n : Int) m0.o)
  rw [add_assoc, add_assoc, (neg_eq 0 m0.o).2] at e2
  have e3 := md_eq e2
  rw [show add x.o (0, 0) = x.o by unfold add; simp, show add y.o (0, 0) = y.o by unfold add; simp, md_self (h.bd x1), md_self (h.bd y1)] at e3
  cases x; cases y
  simp only at x2 y2 e3
  rw [x2.1, x2.2, y2.1, y2.2, e3]
 have hnod : ((L.filter (keyB m0.t m0.f)).map fun m => md n (add m.o (neg m0.o))).Nodup := by
  unfold List.Nodup
  rw [List.pairwise_map]
  refine List.Pairwise.imp_of_mem ?_ (List.Pairwise.filter _ h.nod)
  intro x y hx hy hne e
  exact hne (hinj x hx y hy e)
 have := perm_length hnod (List.Pairwise.filter (stepB L) (nodup_torus n)) (fun z => by
  rw [List.mem_map, List.mem_filter]
  constructor
  ·rintro ⟨m, hm, rfl⟩
   obtain ⟨m1, m2⟩ := List.mem_filter.1 hm
   rw [keyB_iff] at m2
   have hz : md n (add m.o (neg m0.o)) ∈ torusL n := mem_torus.2 (md_bd hn2 _)
   refine ⟨hz, (stepB_iff h hg hz).2 ?_⟩
   rw [← stp_per hp (eqm_md n _)]
   -- m behind what undoes m0 is a step
   have k1 := (h.keep m1).both hg (inv_ok hg (h.ok h0)) ((h.keep h0).inv hg (h.ok h0))
   intro p
   have k2 := k1 (add p (0, 0))
   rw [show add p (0, 0) = p by unfold add; simp, To_both hg (inv_ok hg (h.ok h0))] at k2
   have e : To g m (To g (inv g m0) p) = add p (add m.o (neg m0.o)) := by
    have e1 : To g m (To g (inv g m0) p) = add (To g m0 (To g (inv g m0) p)) (add m.o (neg m0.o)) := by
     unfold To
     rw [m2.1, m2.2]
     unfold add neg
     apply ext2 <;> simp only <;> omega
    rw [e1, ← To_both hg (inv_ok hg (h.ok h0)), (both_inv hg (h.ok h0)).2, To_idm]
   rw [e] at k2
   exact k2
  ·rintro ⟨hz, hs⟩
   have hz2 := mem_torus.1 hz
   rw [stepB_iff h hg hz] at hs
   refine ⟨⟨m0.t, m0.f, md n (add z m0.o)⟩, List.mem_filter.2 ⟨(h.mem _).2 ⟨(show okT g m0 from h.ok h0), ?_, md_bd hn2 _⟩, keyB_iff.2 ⟨rfl, rfl⟩⟩, ?_⟩
   ·have k : Keep g col ⟨m0.t, m0.f, add z m0.o⟩ := fun p => by
     rw [← h.keep h0 p, ← hs (To g m0 p)]
     congr 1
     unfold To add
     apply ext2 <;> simp only <;> omega
    exact Keep.eqm (m := ⟨m0.t, m0.f, add z m0.o⟩) hp rfl rfl (eqm_md n _) k
   ·simp only
    have e : Eqm (n : Int) (add (md n (add z m0.o)) (neg m0.o)) z := by
     have := (eqm_md (n : Int) (add z m0.o)).symm.add (Eqm.refl (n : Int) (neg m0.o))
     rw [add_assoc, (neg_eq 0 m0.o).1, show add z (0, 0) = z by unfold add; simp] at this
     exact this
    rw [md_eq e, md_self hz2])
 rw [List.length_map] at this
 exact this
end
end Z
end
section
open Go.RowKit
namespace Z
section
variable {g : Int} {n : Nat} {col : Pt → Int} {L L' : List Mv} {f : Mv}
def movd (g : Int) (f : Mv) (col : Pt → Int) (z : Pt) : Int := col (To g (inv g f) z)
theorem movd_at (hg : G g) (hf : okT g f) (z : Pt) : movd g f col (To g f z) = col z := by
 unfold movd; rw [← To_both hg hf, (both_inv hg hf).1, To_idm]
theorem keep_conj (hg : G g) (hf : okT g f) {h : Mv} (hh : okT g h) (k : Keep g col h) : Keep g (movd g f col) (both g (both g f h) (inv g f)) := fun z => by
 have hi := inv_ok hg hf
 rw [To_both hg hi, To_both hg hh, movd_at hg hf, k]
 rfl
end
end Z
end
section
open Go.RowKit
namespace Z
def torN (W H : Nat) : Nat := W / Nat.gcd W H * H
theorem torN_eq (W H : Nat) : torN W H = W * (H / Nat.gcd W H) := by
 unfold torN
 rw [Nat.div_mul_right_comm (Nat.gcd_dvd_left W H), Nat.mul_div_assoc _ (Nat.gcd_dvd_right W H)]
theorem torN_dvd (W H : Nat) : W ∣ torN W H ∧ H ∣ torN W H :=
 ⟨⟨_, torN_eq W H⟩, ⟨W / Nat.gcd W H, by unfold torN; rw [Nat.mul_comm]⟩⟩
theorem torN_pos {W H : Nat} (hW : 0 < W) (hH : 0 < H) : 0 < torN W H := by
 unfold torN
 exact Nat.mul_pos (Nat.div_pos (Nat.le_of_dvd hW (Nat.gcd_dvd_left W H)) (Nat.gcd_pos_of_pos_left H hW)) hH
theorem torN_min {W H k : Nat} (hW : 0 < W) (hH : 0 < H) (hk : 0 < k) (h : H ∣ W * k) : torN W H ≤ W * k := by
 have hg := Nat.gcd_pos_of_pos_left H hW
 have hc : Nat.Coprime (H / Nat.gcd W H) (W / Nat.gcd W H) := (Nat.coprime_div_gcd_div_gcd hg).symm
 have h1 : H / Nat.gcd W H ∣ W / Nat.gcd W H * k := by
  obtain ⟨m, hm⟩ := h
  refine ⟨m, ?_⟩
  have e1 : Nat.gcd W H * (W / Nat.gcd W H * k) = Nat.gcd W H * (H / Nat.gcd W H * m) := by
   rw [← Nat.mul_assoc, Nat.mul_div_cancel' (Nat.gcd_dvd_left W H), ← Nat.mul_assoc, Nat.mul_div_cancel' (Nat.gcd_dvd_right W H), hm]
  exact Nat.eq_of_mul_eq_mul_left hg e1
 have h2 : H / Nat.gcd W H ∣ k := hc.dvd_of_dvd_mul_left h1
 rw [torN_eq]
 exact Nat.mul_le_mul_left W (Nat.le_of_dvd hk h2)
def colP (W H : Nat) (cs : List Int) (p : Pt) : Int := cs.getD ((p.2 % (H : Int)).toNat * W + (p.1 % (W : Int)).toNat) 0
theorem colP_per {W H n : Nat} (cs : List Int) (hW : W ∣ n) (hH : H ∣ n) : Per (n : Int) (colP W H cs) := by
 rintro a b ⟨k, rfl⟩
 unfold colP add sml
 simp only
 obtain ⟨x, rfl⟩ := hW
 obtain ⟨y, hy⟩ := hH
 have e1 : (b.1 + ((W * x : Nat) : Int) * k.1) % (W : Int) = b.1 % (W : Int) := by
  rw [Int.natCast_mul, Int.mul_assoc]; exact Int.add_mul_emod_self_left _ _ _
 have e2 : (b.2 + ((W * x : Nat) : Int) * k.2) % (H : Int) = b.2 % (H : Int) := by
  rw [hy, Int.natCast_mul, Int.mul_assoc]; exact Int.add_mul_emod_self_left _ _ _
 rw [e1, e2]
def place (n : Nat) (p : Pt) : Nat := (p.2 % (n : Int)).toNat * n + (p.1 % (n : Int)).toNat
def pnt (n k : Nat) : Pt := (((k % n : Nat) : Int), ((k / n : Nat) : Int))
theorem place_lt {n : Nat} (hn : 0 < n) (p : Pt) : place n p < n * n := by
 unfold place
 have h1 := Int.emod_nonneg p.1 (show (n : Int) ≠ 0 by omega); have h2 := Int.emod_lt_of_pos p.1 (show (0 : Int) < n by omega)
 have h3 := Int.emod_nonneg p.2 (show (n : Int) ≠ 0 by omega); have h4 := Int.emod_lt_of_pos p.2 (show (0 : Int) < n by omega)
 have : ((p.2 % (n : Int)).toNat + 1) * n ≤ n * n := Nat.mul_le_mul_right n (by omega)
 rw [Nat.add_mul, Nat.one_mul] at this
 omega
theorem pnt_place {n : Nat} (hn : 0 < n) (p : Pt) : pnt n (place n p) = md n p := by
 have h1 := Int.emod_nonneg p.1 (show (n : Int) ≠ 0 by omega); have h2 := Int.emod_lt_of_pos p.1 (show (0 : Int) < n by omega)
 have h3 := Int.emod_nonneg p.2 (show (n : Int) ≠ 0 by omega)
 have hx : (p.1 % (n : Int)).toNat < n := by omega
 unfold pnt place md
 apply ext2
 ·simp only
  rw [Nat.mul_comm, Nat.mul_add_mod, Nat.mod_eq_of_lt hx]; omega
 ·simp only
  rw [Nat.mul_comm, Nat.mul_add_div hn, Nat.div_eq_of_lt hx]; omega
def laidL (W H : Nat) (cs : List Int) (n : Nat) : List Int := (List.range (n * n)).map fun k => colP W H cs (pnt n k)
theorem laidL_len (W H : Nat) (cs : List Int) (n : Nat) : (laidL W H cs n).length = n * n := by simp [laidL]
theorem laidL_get {W H n k : Nat} {cs : List Int} (h : k < n * n) : (laidL W H cs n).getD k 0 = colP W H cs (pnt n k) := by
 unfold laidL
 rw [List.getD_eq_getElem?_getD, List.getElem?_map, List.getElem?_range h]; rfl
def imageL (g : Int) (n t : Nat) (f : Bool) : List Nat := (List.range (n * n)).map fun k => place n (lin g t f (pnt n k))
theorem imageL_len (g : Int) (n t : Nat) (f : Bool) : (imageL g n t f).length = n * n := by simp [imageL]
theorem imageL_get {g : Int} {n t k : Nat} {f : Bool} (h : k < n * n) : (imageL g n t f).getD k 0 = place n (lin g t f (pnt n k)) := by
 unfold imageL
 rw [List.getD_eq_getElem?_getD, List.getElem?_map, List.getElem?_range h]; rfl
def keepB (W H : Nat) (cs : List Int) (g : Int) (n : Nat) (m : Mv) : Bool := (List.range (n * n)).all fun k => decide (colP W H cs (pnt n k) = colP W H cs (To g m (pnt n k)))
theorem keepB_iff {W H n : Nat} {cs : List Int} {g : Int} {m : Mv} (hn : 0 < n) (hW : W ∣ n) (hH : H ∣ n) : keepB W H cs g n m = true ↔ Keep g (colP W H cs) m := by
 unfold keepB
 rw [List.all_eq_true, keep_torus (n := (n : Int)) (by omega) (colP_per cs hW hH)]
 constructor
 ·intro h x y x0 x1 y0 y1
  have hz : (x, y) ∈ torusL n := mem_torus.2 ⟨x0, x1, y0, y1⟩
  obtain ⟨k, hk, e⟩ := List.mem_map.1 hz
  have := of_decide_eq_true (h k hk)
  rw [show pnt n k = (x, y) from e] at this
  exact this.symm
 ·intro h k hk
  have hz : pnt n k ∈ torusL n := List.mem_map.2 ⟨k, hk, rfl⟩
  rw [mem_torus] at hz
  exact decide_eq_true (h _ _ hz.1 hz.2.1 hz.2.2.1 hz.2.2.2).symm
theorem keeps_at {W H n k : Nat} {cs : List Int} {g : Int} {t : Nat} {f : Bool} {o : Pt} (hn : 0 < n) (hW : W ∣ n) (hH : H ∣ n) (hk : k < n * n) :
  (laidL W H cs n).getD (place n (add (pnt n ((imageL g n t f).getD k 0)) o)) 0 = colP W H cs (To g ⟨t, f, o⟩ (pnt n k)) := by
 rw [laidL_get (place_lt hn _), pnt_place hn, imageL_get hk, pnt_place hn]
 refine colP_per cs hW hH _ _ ((eqm_md n _).symm.trans ?_)
 unfold To
 exact (eqm_md n _).symm.add (Eqm.refl _ _)
def allM (g : Int) (n : Nat) : List Mv := [false, true].flatMap fun f => (List.range g.toNat).flatMap fun t => (List.range (n * n)).map fun k => ⟨t, f, pnt n k⟩
def movesL (W H : Nat) (cs : List Int) (g : Int) (n : Nat) : List Mv := (allM g n).filter (keepB W H cs g n)
theorem mem_allM {g : Int} {n : Nat} {m : Mv} : m ∈ allM g n ↔ okT g m ∧ 0 ≤ m.o.1 ∧ m.o.1 < n ∧ 0 ≤ m.o.2 ∧ m.o.2 < n := by
 unfold allM okT
 simp only [List.mem_flatMap, List.mem_map, List.mem_range]
 constructor
 ·rintro ⟨f, _, t, ht, k, hk, rfl⟩
  exact ⟨ht, mem_torus.1 (List.mem_map.2 ⟨k, List.mem_range.2 hk, rfl⟩)⟩
 ·rintro ⟨h1, h2⟩
  obtain ⟨k, hk, e⟩ := List.mem_map.1 (mem_torus.2 h2)
  refine ⟨m.f, by cases m.f <;> simp, m.t, h1, k, List.mem_range.1 hk, ?_⟩
  cases m
  simp only [Mv.mk.injEq, true_and]
  exact e
theorem pnt_inj {n a b : Nat} (e : pnt n a = pnt n b) : a = b := by
 have h1 : a % n = b % n := by have := congrArg Prod.fst e; unfold pnt at this; simp only at this; omega
 have h2 : a / n = b / n := by have := congrArg Prod.snd e; unfold pnt at this; simp only at this; omega
 rw [← Nat.div_add_mod a n, ← Nat.div_add_mod b n, h1, h2]
theorem nodup_allM (g : Int) (n : Nat) : (allM g n).Nodup := by
 unfold allM List.Nodup
 rw [List.pairwise_flatMap]
 refine ⟨fun f _ => ?_, ?_⟩
 ·rw [List.pairwise_flatMap]
  refine ⟨fun t _ => ?_, ?_⟩
  ·rw [List.pairwise_map]
   refine List.Pairwise.imp_of_mem ?_ List.nodup_range
   intro a b _ _ hne e
   injection e with _ _ e
   exact hne (pnt_inj e)
  ·refine List.Pairwise.imp_of_mem ?_ List.nodup_range
   intro a b _ _ hne x hx y hy e
   simp only [List.mem_map] at hx hy
   obtain ⟨_, _, rfl⟩ := hx
   obtain ⟨_, _, rfl⟩ := hy
   injection e with e
   exact hne e
 ·simp only [List.pairwise_cons, List.mem_cons, List.not_mem_nil, or_false, List.Pairwise.nil, and_true]
  refine ⟨?_, fun _ h => h.elim⟩
  intro b hb x hx y hy e
  subst hb
  simp only [List.mem_flatMap, List.mem_map] at hx hy
  obtain ⟨_, _, _, _, rfl⟩ := hx
  obtain ⟨_, _, _, _, rfl⟩ := hy
  injection e with _ e
  cases e
theorem movesL_grp {W H n : Nat} {cs : List Int} {g : Int} (hn : 0 < n) (hW : W ∣ n) (hH : H ∣ n) : Grp g n (colP W H cs) (movesL W H cs g n) where
 nod := List.Pairwise.filter _ (nodup_allM g n)
 mem m := by
  unfold movesL
  rw [List.mem_filter, mem_allM, keepB_iff hn hW hH]
  exact ⟨fun h => ⟨h.1.1, h.2, h.1.2⟩, fun h => ⟨⟨h.1, h.2.2⟩, h.2.1⟩⟩
end Z
end
section
open Go.RowKit
namespace Z
theorem least (p : Nat → Bool) : ∀ n, p n = true → ∃ a, a ≤ n ∧ p a = true ∧ ∀ x, x < a → p x = false := by
 intro n
 induction n using Nat.strongRecOn with
 | _ n ih =>
  intro hn
  by_cases h : ∃ x, x < n ∧ p x = true
  ·obtain ⟨x, hx, hp⟩ := h
   obtain ⟨a, ha, h1, h2⟩ := ih x hx hp
   exact ⟨a, by omega, h1, h2⟩
  ·refine ⟨n, Nat.le_refl _, hn, fun x hx => ?_⟩
   cases hq : p x with
   | false => rfl
   | true => exact absurd ⟨x, hx, hq⟩ h
structure Sid (p : Nat → Nat → Bool) (n a : Nat) : Prop where
 a1 : 1 ≤ a
 an : a ≤ n
 ka : p a 0 = true
 mn : ∀ x, 1 ≤ x → x < a → p x 0 = false
structure Upw (p : Nat → Nat → Bool) (n a c b : Nat) : Prop where
 b1 : 1 ≤ b
 bn : b ≤ n
 ca : c < a
 kb : p c b = true
 mn : ∀ y x, 1 ≤ y → y < b → x < a → p x y = false
 mx : ∀ x, x < c → p x b = false
theorem Sid.ex {p : Nat → Nat → Bool} {n : Nat} (hn : 0 < n) (h : p n 0 = true) : ∃ a, Sid p n a := by
 obtain ⟨a, h1, h2, h3⟩ := least (fun x => p (x + 1) 0) (n - 1) (by rw [Nat.sub_add_cancel hn]; exact h)
 exact ⟨a + 1, by omega, by omega, h2, fun x h4 h5 => by have := h3 (x - 1) (by omega); rwa [Nat.sub_add_cancel h4] at this⟩
theorem Upw.ex {p : Nat → Nat → Bool} {n a : Nat} (hn : 0 < n) (ha : 1 ≤ a) (h : p 0 n = true) : ∃ c b, Upw p n a c b := by
 obtain ⟨b, h1, h2, h3⟩ := least (fun y => (List.range a).any fun x => p x (y + 1)) (n - 1) (by rw [Nat.sub_add_cancel hn, List.any_eq_true]; exact ⟨0, List.mem_range.2 ha, h⟩)
 rw [List.any_eq_true] at h2
 obtain ⟨x0, hx0, hp0⟩ := h2
 obtain ⟨c, h4, h5, h6⟩ := least (fun x => p x (b + 1)) x0 hp0
 refine ⟨c, b + 1, by omega, by omega, by have := List.mem_range.1 hx0; omega, h5, fun y x y1 y2 xa => ?_, h6⟩
 have := h3 (y - 1) (by omega)
 rw [Nat.sub_add_cancel y1, List.any_eq_false] at this
 cases hq : p x y with
 | false => rfl
 | true => exact absurd hq (this x (List.mem_range.2 xa))
def stK (W H : Nat) (cs : List Int) (g : Int) (n : Nat) (x y : Nat) : Bool := keepB W H cs g n ⟨0, false, ((x : Int), (y : Int))⟩
section
variable {W H n : Nat} {cs : List Int} {g : Int}
theorem stK_iff (hn : 0 < n) (hW : W ∣ n) (hH : H ∣ n) {x y : Nat} : stK W H cs g n x y = true ↔ Stp (colP W H cs) ((x : Int), (y : Int)) := by
 unfold stK; rw [keepB_iff hn hW hH, stp_keep]
theorem stK_n (hn : 0 < n) (hW : W ∣ n) (hH : H ∣ n) : stK W H cs g n n 0 = true ∧ stK W H cs g n 0 n = true := by
 have hp := colP_per cs hW hH
 have s0 := (stp_sub (colP W H cs)).zero
 rw [stK_iff hn hW hH, stK_iff hn hW hH]
 exact ⟨(stp_per hp ⟨(1, 0), by unfold add sml; simp⟩).2 s0, (stp_per hp ⟨(0, 1), by unfold add sml; simp⟩).2 s0⟩
theorem fine_ex (hn : 0 < n) (hW : W ∣ n) (hH : H ∣ n) : ∃ a c b, Sid (stK W H cs g n) n a ∧ Upw (stK W H cs g n) n a c b := by
 obtain ⟨h1, h2⟩ := stK_n (g := g) (cs := cs) hn hW hH
 obtain ⟨a, ha⟩ := Sid.ex hn h1
 obtain ⟨c, b, h⟩ := Upw.ex hn ha.a1 h2
 exact ⟨a, c, b, ha, h⟩
theorem fine_of (hn : 0 < n) (hW : W ∣ n) (hH : H ∣ n) {a c b : Nat} (ha : Sid (stK W H cs g n) n a) (hb : Upw (stK W H cs g n) n a c b) : Fine (Stp (colP W H cs)) a b c where
 a0 := by have := ha.a1; omega
 sa := (stK_iff hn hW hH).1 ha.ka
 amin x x0 xa hx := by
  obtain ⟨m, rfl⟩ := Int.eq_ofNat_of_zero_le (show 0 ≤ x by omega)
  have h := ha.mn m (by omega) (by omega)
  have h2 := (stK_iff (g := g) hn hW hH (x := m) (y := 0)).2 hx
  rw [h] at h2; cases h2
 b0 := by have := hb.b1; omega
 c0 := by omega
 c1 := by have := hb.ca; omega
 sb := (stK_iff hn hW hH).1 hb.kb
 bmin x y y0 yb x0 xa hx := by
  obtain ⟨m, rfl⟩ := Int.eq_ofNat_of_zero_le (show 0 ≤ x by omega)
  obtain ⟨k, rfl⟩ := Int.eq_ofNat_of_zero_le (show 0 ≤ y by omega)
  have h := hb.mn k m (by omega) (by omega) (by omega)
  have h2 := (stK_iff (g := g) hn hW hH (x := m) (y := k)).2 hx
  rw [h] at h2; cases h2
theorem pnt_mem (hn : 0 < n) {k : Nat} (hk : k < n * n) : pnt n k ∈ torusL n := List.mem_map.2 ⟨k, List.mem_range.2 hk, rfl⟩
theorem rank_pnt (n k : Nat) : rankP n (pnt n k) = k := by
 unfold rankP pnt
 simp only [Int.toNat_natCast]
 rw [Nat.mul_comm]; exact Nat.div_add_mod k n
theorem pnt_rank {z : Pt} (hz : z ∈ torusL n) : pnt n (rankP n z) = z := by
 obtain ⟨k, hk, rfl⟩ := List.mem_map.1 hz
 exact congrArg (pnt n) (rank_pnt n k)
theorem rank_lt {z : Pt} (hz : z ∈ torusL n) : rankP n z < n * n := by
 obtain ⟨k, hk, rfl⟩ := List.mem_map.1 hz
 rw [show rankP n (((k % n : Nat) : Int), ((k / n : Nat) : Int)) = k from rank_pnt n k]
 exact List.mem_range.1 hk
theorem first_ex {L : List Mv} {col : Pt → Int} (hg : G g) (hn : 0 < n) (hp : Per n col) (h : Grp g n col L) : ∀ k, k < n * n → ∃ p, p ≤ k ∧ firstB g n L (pnt n p) = true ∧ ∃ f ∈ L, rankP n (act g n f (pnt n p)) = k := by
 have hn2 : (0 : Int) < n := by omega
 intro k
 induction k using Nat.strongRecOn with
 | _ k ih =>
  intro hk
  have hz := pnt_mem hn hk
  cases hq : firstB g n L (pnt n k) with
  | true => exact ⟨k, Nat.le_refl _, hq, idm, h.one hg hn2, by rw [act_one (mem_torus.1 hz), rank_pnt]⟩
  | false =>
   unfold firstB at hq
   rw [List.all_eq_false] at hq
   obtain ⟨f, hf, hlt⟩ := hq
   have hlt2 : rankP n (act g n f (pnt n k)) < k := by
    have h3 := rank_pnt n k
    simp only [decide_eq_true_eq, h3] at hlt
    omega
   have hm := act_mem hn (g := g) f (pnt n k)
   obtain ⟨p, hpk, hfp, e, he, hr⟩ := ih _ hlt2 (rank_lt hm)
   refine ⟨p, by omega, hfp, mulM g n (invM g n f) e, h.mul hg hn2 hp (h.inv hg hn2 hp hf) he, ?_⟩
   have h4 : act g n e (pnt n p) = act g n f (pnt n k) := rankP_inj (act_mem hn _ _) hm hr
   rw [act_mul hg (h.ok he), h4, act_inv hg hn2 (h.ok hf) (mem_torus.1 hz), rank_pnt]
theorem seen_first {L : List Mv} {col : Pt → Int} (hg : G g) (hn : 0 < n) (hp : Per n col) (h : Grp g n col L) {k : Nat} (hk : k < n * n) :
  (∃ p, p < k ∧ firstB g n L (pnt n p) = true ∧ ∃ f ∈ L, rankP n (act g n f (pnt n p)) = k) ↔ firstB g n L (pnt n k) = false := by
 have hn2 : (0 : Int) < n := by omega
 constructor
 ·rintro ⟨p, hpk, hfp, f, hf, hr⟩
  cases hq : firstB g n L (pnt n k) with
  | false => rfl
  | true =>
   have hpn : p < n * n := by omega
   have e : act g n f (pnt n p) = pnt n k := by rw [← pnt_rank (act_mem hn f (pnt n p)), hr]
   have := first_alone hg hn hp h (pnt_mem hn hpn) (pnt_mem hn hk) hfp hq hf e
   exact absurd (pnt_inj this) (by omega)
 ·intro hq
  obtain ⟨p, hpk, hfp, f, hf, hr⟩ := first_ex hg hn hp h k hk
  refine ⟨p, ?_, hfp, f, hf, hr⟩
  rcases Nat.lt_or_ge p k with h1 | h1
  ·exact h1
  ·obtain rfl : p = k := by omega
   rw [hfp] at hq; cases hq
end
end Z
end
end Go.Proofs.YtajdoobkfbdgoaaGreatDoor
