/- Lemmas on which the law of this seat rests; each states its own conditions. -/
import Derived.Test.YtajdoobkfbdgoaaDoorC01
set_option linter.unusedVariables false
set_option linter.unusedSimpArgs false
namespace Go.Proofs.YtajdoobkfbdgoaaDoor
section
open Go.RowKit
namespace Z
def md (n : Int) (p : Pt) : Pt := (p.1 % n, p.2 % n)
def sml (k : Int) (p : Pt) : Pt := (k * p.1, k * p.2)
theorem turn_sml (g k : Int) (p : Pt) : turn g (sml k p) = sml k (turn g p) := by
 unfold turn sml
 apply ext2
 ·simp only; grind
 ·simp only; split <;> grind
theorem tn_sml (g k : Int) (p : Pt) : ∀ t, tn g t (sml k p) = sml k (tn g t p)
 | 0 => rfl
 | t + 1 => by
  show turn g (tn g t (sml k p)) = sml k (turn g (tn g t p))
  rw [tn_sml g k p t, turn_sml]
theorem mir_sml (g k : Int) (f : Bool) (p : Pt) : mir g f (sml k p) = sml k (mir g f p) := by
 unfold mir
 cases f with
 | false => rfl
 | true =>
  simp only [if_true]
  unfold conj sml miX
  apply ext2
  ·simp only; (try split) <;> grind
  ·simp only; grind
theorem lin_sml (g k : Int) (t : Nat) (f : Bool) (p : Pt) : lin g t f (sml k p) = sml k (lin g t f p) := by
 unfold lin; rw [mir_sml, tn_sml]
def Eqm (n : Int) (a b : Pt) : Prop := ∃ k, a = add b (sml n k)
theorem Eqm.refl (n : Int) (a : Pt) : Eqm n a a := ⟨(0, 0), by unfold add sml; simp⟩
theorem Eqm.symm {n : Int} {a b : Pt} (h : Eqm n a b) : Eqm n b a := by
 obtain ⟨k, rfl⟩ := h
 refine ⟨neg k, ?_⟩
 unfold add sml neg
 apply ext2 <;> simp only <;> grind
theorem Eqm.trans {n : Int} {a b c : Pt} (h : Eqm n a b) (k : Eqm n b c) : Eqm n a c := by
 obtain ⟨x, rfl⟩ := h
 obtain ⟨y, rfl⟩ := k
 refine ⟨add y x, ?_⟩
 unfold add sml
 apply ext2 <;> simp only <;> grind
theorem eqm_md (n : Int) (a : Pt) : Eqm n a (md n a) := by
 refine ⟨(a.1 / n, a.2 / n), ?_⟩
 unfold add sml md
 apply ext2
 ·exact (Int.emod_add_mul_ediv a.1 n).symm
 ·exact (Int.emod_add_mul_ediv a.2 n).symm
theorem md_eq {n : Int} {a b : Pt} (h : Eqm n a b) : md n a = md n b := by
 obtain ⟨k, rfl⟩ := h
 unfold md add sml
 apply ext2
 ·exact Int.add_mul_emod_self_left _ _ _
 ·exact Int.add_mul_emod_self_left _ _ _
theorem eqm_iff {n : Int} {a b : Pt} : Eqm n a b ↔ md n a = md n b :=
 ⟨md_eq, fun h => (eqm_md n a).trans (by rw [h]; exact (eqm_md n b).symm)⟩
theorem Eqm.add {n : Int} {a b c d : Pt} (h : Eqm n a b) (k : Eqm n c d) : Eqm n (add a c) (add b d) := by
 obtain ⟨x, rfl⟩ := h
 obtain ⟨y, rfl⟩ := k
 refine ⟨Z.add x y, ?_⟩
 unfold Z.add sml
 apply ext2 <;> simp only <;> grind
theorem Eqm.lin {n g : Int} {t : Nat} {f : Bool} {a b : Pt} (h : Eqm n a b) : Eqm n (lin g t f a) (lin g t f b) := by
 obtain ⟨x, rfl⟩ := h
 exact ⟨Z.lin g t f x, by rw [lin_add, lin_sml]⟩
def redM (n : Int) (m : Mv) : Mv := ⟨m.t, m.f, md n m.o⟩
theorem To_eqm {n g : Int} {m h : Mv} (ht : m.t = h.t) (hf : m.f = h.f) (ho : Eqm n m.o h.o) {a b : Pt} (hab : Eqm n a b) : Eqm n (To g m a) (To g h b) := by
 unfold To
 rw [ht, hf]
 exact hab.lin.add ho
theorem To_red {n g : Int} (m : Mv) (a : Pt) : Eqm n (To g m a) (To g (redM n m) a) := To_eqm (m := m) (h := redM n m) rfl rfl (eqm_md n m.o) (Eqm.refl n a)
def Per (n : Int) (col : Pt → Int) : Prop := ∀ a b, Eqm n a b → col a = col b
def Keep (g : Int) (col : Pt → Int) (m : Mv) : Prop := ∀ z, col (To g m z) = col z
theorem Keep.id (g : Int) (col : Pt → Int) : Keep g col idm := fun z => by
 have : To g idm z = z := by unfold To lin idm mir tn; apply ext2 <;> simp [Z.add]
 rw [this]
theorem Keep.both {g : Int} (hg : G g) {col : Pt → Int} {m h : Mv} (hh : okT g h) (km : Keep g col m) (kh : Keep g col h) : Keep g col (both g m h) := fun z => by
 rw [To_both hg hh, km, kh]
theorem Keep.inv {g : Int} (hg : G g) {col : Pt → Int} {m : Mv} (hm : okT g m) (km : Keep g col m) : Keep g col (inv g m) := fun z => by
 have h1 := km (To g (Z.inv g m) z)
 rw [← To_both hg (inv_ok hg hm), (both_inv hg hm).2] at h1
 have : To g idm z = z := by unfold To lin idm mir tn; apply ext2 <;> simp [Z.add]
 rw [this] at h1
 exact h1.symm
theorem Keep.eqm {n g : Int} {col : Pt → Int} (hp : Per n col) {m h : Mv} (ht : m.t = h.t) (hf : m.f = h.f) (ho : Eqm n m.o h.o) (k : Keep g col m) : Keep g col h := fun z => by
 rw [← k z]
 exact (hp _ _ (To_eqm ht hf ho (Eqm.refl n z))).symm
theorem keep_red {n g : Int} {col : Pt → Int} (hp : Per n col) (m : Mv) : Keep g col (redM n m) ↔ Keep g col m :=
 ⟨fun k => Keep.eqm (m := redM n m) (h := m) hp rfl rfl (eqm_md n m.o).symm k, fun k => Keep.eqm (m := m) (h := redM n m) hp rfl rfl (eqm_md n m.o) k⟩
theorem keep_torus {n g : Int} (hn : 0 < n) {col : Pt → Int} (hp : Per n col) (m : Mv) : Keep g col m ↔ ∀ x y : Int, 0 ≤ x → x < n → 0 ≤ y → y < n → col (To g m (x, y)) = col (x, y) := by
 refine ⟨fun k x y _ _ _ _ => k (x, y), fun h z => ?_⟩
 have e := eqm_md n z
 have h1 := h (md n z).1 (md n z).2 (Int.emod_nonneg _ (by omega)) (Int.emod_lt_of_pos _ hn) (Int.emod_nonneg _ (by omega)) (Int.emod_lt_of_pos _ hn)
 rw [hp _ _ e, ← h1]
 exact hp _ _ (To_eqm rfl rfl (Eqm.refl n _) e)
structure Grp (g n : Int) (col : Pt → Int) (L : List Mv) : Prop where
 nod : L.Nodup
 mem : ∀ m, m ∈ L ↔ okT g m ∧ Keep g col m ∧ 0 ≤ m.o.1 ∧ m.o.1 < n ∧ 0 ≤ m.o.2 ∧ m.o.2 < n
theorem md_bd {n : Int} (hn : 0 < n) (p : Pt) : 0 ≤ (md n p).1 ∧ (md n p).1 < n ∧ 0 ≤ (md n p).2 ∧ (md n p).2 < n :=
 ⟨Int.emod_nonneg _ (by omega), Int.emod_lt_of_pos _ hn, Int.emod_nonneg _ (by omega), Int.emod_lt_of_pos _ hn⟩
theorem md_self {n : Int} {p : Pt} (h : 0 ≤ p.1 ∧ p.1 < n ∧ 0 ≤ p.2 ∧ p.2 < n) : md n p = p := by
 unfold md
 rw [Int.emod_eq_of_lt h.1 h.2.1, Int.emod_eq_of_lt h.2.2.1 h.2.2.2]
theorem Grp.red {g n : Int} {col : Pt → Int} {L : List Mv} (h : Grp g n col L) (hn : 0 < n) (hp : Per n col) {m : Mv} (ho : okT g m) (k : Keep g col m) : redM n m ∈ L :=
 (h.mem _).2 ⟨ho, (keep_red hp m).2 k, md_bd hn m.o⟩
def mulM (g n : Int) (f h : Mv) : Mv := redM n (both g f h)
def invM (g n : Int) (f : Mv) : Mv := redM n (inv g f)
def act (g n : Int) (m : Mv) (z : Pt) : Pt := md n (To g m z)
theorem act_mul {g n : Int} (hg : G g) {f h : Mv} (hh : okT g h) (z : Pt) : act g n (mulM g n f h) z = act g n f (act g n h z) := by
 unfold act mulM
 rw [← md_eq (To_red (both g f h) z), To_both hg hh]
 exact md_eq (To_eqm rfl rfl (Eqm.refl n _) (eqm_md n _))
theorem both_eqm {g n : Int} {f f' h h' : Mv} (e1 : f.t = f'.t) (e2 : f.f = f'.f) (e3 : Eqm n f.o f'.o) (e4 : h.t = h'.t) (e5 : h.f = h'.f) (e6 : Eqm n h.o h'.o) : redM n (both g f h) = redM n (both g f' h') := by
 unfold redM both bothT
 simp only [Mv.mk.injEq]
 refine ⟨by rw [e1, e2, e4], by rw [e2, e5], md_eq (To_eqm e1 e2 e3 e6)⟩
theorem both_redL (g n : Int) (f h : Mv) : redM n (both g (redM n f) h) = redM n (both g f h) :=
 both_eqm (f := redM n f) (f' := f) (h := h) (h' := h) rfl rfl (eqm_md n _).symm rfl rfl (Eqm.refl n _)
theorem both_redR (g n : Int) (f h : Mv) : redM n (both g f (redM n h)) = redM n (both g f h) :=
 both_eqm (f := f) (f' := f) (h := redM n h) (h' := h) rfl rfl (Eqm.refl n _) rfl rfl (eqm_md n _).symm
theorem redM_self {n : Int} {m : Mv} (h : 0 ≤ m.o.1 ∧ m.o.1 < n ∧ 0 ≤ m.o.2 ∧ m.o.2 < n) : redM n m = m := by
 unfold redM; rw [md_self h]
theorem To_idm (g : Int) (z : Pt) : To g idm z = z := by unfold To lin idm mir tn; apply ext2 <;> simp [Z.add]
theorem both_idm {g : Int} (hg : G g) {f : Mv} (hf : okT g f) : both g f idm = f :=
 ext_maps hg (both_ok hg _ _) hf fun z => by rw [To_both hg (idm_ok hg), To_idm]
theorem mulM_inv_right {g n : Int} (hg : G g) {f h : Mv} (hf : okT g f) (hh : okT g h) (hb : 0 ≤ f.o.1 ∧ f.o.1 < n ∧ 0 ≤ f.o.2 ∧ f.o.2 < n) : mulM g n (mulM g n f h) (invM g n h) = f ∧ mulM g n (mulM g n f (invM g n h)) h = f := by
 have hi : okT g (inv g h) := inv_ok hg hh
 constructor
 ·unfold mulM invM
  rw [both_redL, both_redR, both_assoc hg hh hi, (both_inv hg hh).2, both_idm hg hf]
  exact redM_self hb
 ·unfold mulM invM
  have e : both g (both g f (inv g h)) h = f := by rw [both_assoc hg hi hh, (both_inv hg hh).1, both_idm hg hf]
  rw [both_redL]
  have e2 : redM n (both g (both g f (redM n (inv g h))) h) = redM n (both g (both g f (inv g h)) h) := by
   rw [← both_redL g n (both g f (redM n (inv g h))), both_redR, both_redL]
  rw [e2, e]
  exact redM_self hb
theorem countP_congr_bij {α : Type} [DecidableEq α] {L : List α} (hL : L.Nodup) (r s : α → α) (hr : ∀ a ∈ L, r a ∈ L) (hs : ∀ a ∈ L, s a ∈ L) (h1 : ∀ a ∈ L, s (r a) = a) (h2 : ∀ a ∈ L, r (s a) = a) (p : α → Bool) : L.countP p = L.countP (fun a => p (r a)) := by
 have hm : L.Perm (L.map r) := by
  rw [List.perm_iff_count]
  intro a
  have hn : (L.map r).Nodup := by
   unfold List.Nodup
   rw [List.pairwise_map]
   refine List.Pairwise.imp_of_mem ?_ hL
   intro x y hx hy hne e
   exact hne (by rw [← h1 x hx, ← h1 y hy, e])
  rw [hL.count, hn.count]
  by_cases ha : a ∈ L
  ·rw [if_pos ha, if_pos (List.mem_map.2 ⟨s a, hs a ha, h2 a ha⟩)]
  ·rw [if_neg ha, if_neg fun hx => by
    obtain ⟨x, hx2, rfl⟩ := List.mem_map.1 hx
    exact ha (hr x hx2)]
 rw [hm.countP_eq p, List.countP_map]
 rfl
def sumL {α : Type} (l : List α) (f : α → Nat) : Nat := (l.map f).sum
theorem sumL_cons {α : Type} (a : α) (l : List α) (f : α → Nat) : sumL (a :: l) f = f a + sumL l f := by simp [sumL]
theorem sumL_congr {α : Type} {l : List α} {f h : α → Nat} (e : ∀ x ∈ l, f x = h x) : sumL l f = sumL l h := by
 unfold sumL; rw [List.map_congr_left e]
theorem sumL_zero {α : Type} {l : List α} {f : α → Nat} (e : ∀ x ∈ l, f x = 0) : sumL l f = 0 := by
 induction l with
 | nil => rfl
 | cons a l ih => rw [sumL_cons, e a (by simp), ih fun x hx => e x (by simp [hx])]
theorem sumL_add {α : Type} (l : List α) (f h : α → Nat) : sumL l (fun x => f x + h x) = sumL l f + sumL l h := by
 induction l with
 | nil => rfl
 | cons a l ih => rw [sumL_cons, sumL_cons, sumL_cons, ih]; omega
theorem sumL_swap {α β : Type} (a : List α) (b : List β) (f : α → β → Nat) : sumL a (fun x => sumL b (f x)) = sumL b (fun y => sumL a (fun x => f x y)) := by
 induction a with
 | nil => exact (sumL_zero fun _ _ => rfl).symm
 | cons x a ih =>
  rw [sumL_cons, ih, ← sumL_add]
  exact sumL_congr fun y _ => by rw [sumL_cons]
theorem sumL_one {α : Type} [DecidableEq α] {l : List α} (hl : l.Nodup) {f : α → Nat} {m : α} (hm : m ∈ l) (h0 : ∀ x ∈ l, x ≠ m → f x = 0) : sumL l f = f m := by
 induction l with
 | nil => cases hm
 | cons a l ih =>
  rw [sumL_cons]
  rw [List.nodup_cons] at hl
  by_cases e : a = m
  ·subst e
   rw [sumL_zero fun x hx => h0 x (by simp [hx]) fun e => hl.1 (e ▸ hx), Nat.add_zero]
  ·rw [h0 a (by simp) e, Nat.zero_add]
   exact ih hl.2 ((List.mem_cons.1 hm).resolve_left fun x => e x.symm) fun x hx => h0 x (by simp [hx])
theorem sumL_const {α : Type} (l : List α) (c : Nat) : sumL l (fun _ => c) = l.length * c := by
 induction l with
 | nil => simp [sumL]
 | cons a l ih => rw [sumL_cons, ih, List.length_cons, Nat.add_mul, Nat.one_mul, Nat.add_comm]
theorem countP_sum {α : Type} (l : List α) (p : α → Bool) : l.countP p = sumL l (fun x => if p x then 1 else 0) := by
 induction l with
 | nil => rfl
 | cons a l ih => rw [List.countP_cons, sumL_cons, ih]; omega
theorem burnside {α β : Type} [DecidableEq α] [DecidableEq β] (L : List α) (T : List β) (hL : L.Nodup) (hT : T.Nodup) (act : α → β → β) (mul : α → α → α) (inv : α → α) (one : α) (rank : β → Nat)
  (h1 : one ∈ L) (h2 : ∀ z ∈ T, act one z = z) (h3 : ∀ f ∈ L, ∀ h ∈ L, mul f h ∈ L) (h4 : ∀ f ∈ L, inv f ∈ L) (h5 : ∀ f ∈ L, ∀ h ∈ L, ∀ z ∈ T, act (mul f h) z = act f (act h z))
  (h6 : ∀ f ∈ L, ∀ z ∈ T, act f z ∈ T) (h7 : ∀ f ∈ L, ∀ h ∈ L, mul (mul f h) (inv h) = f ∧ mul (mul f (inv h)) h = f) (h8 : ∀ f ∈ L, ∀ z ∈ T, act (inv f) (act f z) = z) (hr : ∀ y ∈ T, ∀ z ∈ T, rank y = rank z → y = z)
  (first : β → Bool) (hf : ∀ z ∈ T, first z = true ↔ ∀ f ∈ L, rank z ≤ rank (act f z)) :
  sumL T (fun z => L.countP fun f => decide (act f z = z)) = (T.filter first).length * L.length := by
 have e1 : (T.filter first).length * L.length = sumL (T.filter first) (fun m => sumL T fun z => L.countP fun f => decide (act f m = z)) := by
  rw [← sumL_const]
  refine sumL_congr fun m hm => ?_
  have hm := (List.mem_filter.1 hm).1
  have : sumL T (fun z => L.countP fun f => decide (act f m = z)) = sumL T (fun z => sumL L fun f => if decide (act f m = z) then 1 else 0) := sumL_congr fun z _ => countP_sum _ _
  rw [this, sumL_swap]
  have h9 : sumL L (fun f => sumL T fun z => if decide (act f m = z) then 1 else 0) = sumL L (fun _ => 1) := sumL_congr fun f hf => by
   rw [sumL_one hT (h6 f hf m hm) fun z _ hz => by simp [Ne.symm hz]]
   simp
  rw [h9, sumL_const, Nat.mul_one]
 rw [e1, sumL_swap]
 refine sumL_congr fun z hz => ?_
 -- the first point that z's moves take it to
 have hmin : ∃ h ∈ L, ∀ f ∈ L, rank (act h z) ≤ rank (act f z) := by
  have : ∀ l : List α, l ≠ [] → ∃ h ∈ l, ∀ f ∈ l, rank (act h z) ≤ rank (act f z) := by
   intro l
   induction l with
   | nil => intro h; exact absurd rfl h
   | cons a l ih =>
    intro _
    by_cases hl : l = []
    ·subst hl; exact ⟨a, by simp, fun f hf => by simp at hf; subst hf; exact Nat.le_refl _⟩
    ·obtain ⟨h, hh, hm⟩ := ih hl
     by_cases e : rank (act a z) ≤ rank (act h z)
     ·exact ⟨a, by simp, fun f hf => by
       rcases List.mem_cons.1 hf with rfl | hf
       ·exact Nat.le_refl _
       ·exact Nat.le_trans e (hm f hf)⟩
     ·exact ⟨h, by simp [hh], fun f hf => by
       rcases List.mem_cons.1 hf with rfl | hf
       ·omega
       ·exact hm f hf⟩
  exact this L (List.ne_nil_of_mem h1)
 obtain ⟨h, hh, hm⟩ := hmin
 have hmT : act h z ∈ T := h6 h hh z hz
 have hmf : act h z ∈ T.filter first := List.mem_filter.2 ⟨hmT, (hf _ hmT).2 fun f hfL => by
  rw [← h5 f hfL h hh z hz]; exact hm _ (h3 f hfL h hh)⟩
 have hTF : (T.filter first).Nodup := List.Pairwise.filter _ hT
 rw [sumL_one hTF hmf]
 ·-- as many moves take z to itself as take the first point to z
  rw [countP_congr_bij hL (fun f => mul f h) (fun f => mul f (inv h)) (fun f hf => h3 f hf h hh) (fun f hf => h3 f hf _ (h4 h hh)) (fun f hf => (h7 f hf h hh).1) (fun f hf => (h7 f hf h hh).2) (fun f => decide (act f z = z))]
  -- mul f h takes z to itself just if f takes (act h z) to z
  rw [List.countP_congr]
  intro f hfL
  rw [h5 f hfL h hh z hz]
 ·intro m hmem hne
  rw [List.countP_eq_zero]
  intro f hfL he
  have he := of_decide_eq_true he
  obtain ⟨hmT2, hm2⟩ := List.mem_filter.1 hmem
  refine hne (hr _ hmT2 _ hmT (Nat.le_antisymm ?_ ?_))
  ·have := (hf m hmT2).1 hm2 (mul h f) (h3 h hh f hfL)
   rwa [h5 h hh f hfL m hmT2, he] at this
  ·have := hm (inv f) (h4 f hfL)
   have e : act (inv f) z = m := by rw [← he]; exact h8 f hfL m hmT2
   rwa [e] at this
end Z
end
section
open Go.RowKit
namespace Z
structure Sub (S : Pt → Prop) : Prop where
 zero : S (0, 0)
 add : ∀ a b, S a → S b → S (add a b)
 neg : ∀ a, S a → S (neg a)
theorem Sub.sml {S : Pt → Prop} (h : Sub S) {a : Pt} (ha : S a) : ∀ k : Int, S (k * a.1, k * a.2) := by
 have hn : ∀ k : Nat, S ((k : Int) * a.1, (k : Int) * a.2) := by
  intro k
  induction k with
  | zero => simpa using h.zero
  | succ k ih =>
   have := h.add _ _ ih ha
   unfold Z.add at this
   simp only at this
   rw [show (((k + 1 : Nat) : Int)) * a.1 = (k : Int) * a.1 + a.1 by rw [Int.natCast_add, Int.add_mul]; simp, show (((k + 1 : Nat) : Int)) * a.2 = (k : Int) * a.2 + a.2 by rw [Int.natCast_add, Int.add_mul]; simp]
   exact this
 intro k
 rcases Int.le_total 0 k with hk | hk
 ·obtain ⟨m, rfl⟩ := Int.eq_ofNat_of_zero_le hk
  exact hn m
 ·obtain ⟨m, hm⟩ := Int.eq_ofNat_of_zero_le (show 0 ≤ -k by omega)
  have := h.neg _ (hn m)
  unfold Z.neg at this
  simp only at this
  rw [← hm] at this
  rw [show -(-k * a.1) = k * a.1 by rw [Int.neg_mul, Int.neg_neg], show -(-k * a.2) = k * a.2 by rw [Int.neg_mul, Int.neg_neg]] at this
  exact this
structure Fine (S : Pt → Prop) (a b c : Int) : Prop where
 a0 : 0 < a
 sa : S (a, 0)
 amin : ∀ x, 0 < x → x < a → ¬ S (x, 0)
 b0 : 0 < b
 c0 : 0 ≤ c
 c1 : c < a
 sb : S (c, b)
 bmin : ∀ x y, 0 < y → y < b → 0 ≤ x → x < a → ¬ S (x, y)
theorem Fine.row {S : Pt → Prop} {a b c : Int} (hs : Sub S) (h : Fine S a b c) (x : Int) : S (x, 0) ↔ a ∣ x := by
 constructor
 ·intro hx
  have h1 := hs.add _ _ hx (hs.sml h.sa (-(x / a)))
  unfold Z.add at h1
  simp only [Int.mul_zero, Int.add_zero] at h1
  have e : x + -(x / a) * a = x % a := by have := Int.emod_add_ediv_mul x a; rw [Int.neg_mul]; omega
  rw [e] at h1
  have h2 := Int.emod_nonneg x (show a ≠ 0 by have := h.a0; omega)
  have h3 := Int.emod_lt_of_pos x h.a0
  by_cases h4 : x % a = 0
  ·exact Int.dvd_of_emod_eq_zero h4
  ·exact absurd h1 (h.amin _ (by omega) h3)
 ·rintro ⟨k, rfl⟩
  have := hs.sml h.sa k
  simpa [Int.mul_comm] using this
theorem Fine.spec {S : Pt → Prop} {a b c : Int} (hs : Sub S) (h : Fine S a b c) (z : Pt) : S z ↔ b ∣ z.2 ∧ a ∣ z.1 - z.2 / b * c := by
 have hb := h.b0
 have back : ∀ k : Int, S z ↔ S (z.1 - k * c, z.2 - k * b) := fun k => by
  constructor
  ·intro hz
   have h1 := hs.add _ _ hz (hs.sml h.sb (-k))
   unfold Z.add at h1
   simp only at h1
   rw [show z.1 + -k * c = z.1 - k * c by rw [Int.neg_mul]; omega, show z.2 + -k * b = z.2 - k * b by rw [Int.neg_mul]; omega] at h1
   exact h1
  ·intro hz
   have h1 := hs.add _ _ hz (hs.sml h.sb k)
   unfold Z.add at h1
   simp only at h1
   rw [show z.1 - k * c + k * c = z.1 by omega, show z.2 - k * b + k * b = z.2 by omega] at h1
   exact h1
 constructor
 ·intro hz
  have h1 := (back (z.2 / b)).1 hz
  have e : z.2 - z.2 / b * b = z.2 % b := by have := Int.emod_add_ediv_mul z.2 b; omega
  rw [e] at h1
  have h2 := Int.emod_nonneg z.2 (show b ≠ 0 by omega)
  have h3 := Int.emod_lt_of_pos z.2 hb
  have hm : z.2 % b = 0 := by
   by_cases h4 : z.2 % b = 0
   ·exact h4
   ·exfalso
    -- the first part, brought below a
    have h5 := hs.add _ _ h1 (hs.sml h.sa (-((z.1 - z.2 / b * c) / a)))
    unfold Z.add at h5
    simp only [Int.mul_zero, Int.add_zero] at h5
    have e2 : z.1 - z.2 / b * c + -((z.1 - z.2 / b * c) / a) * a = (z.1 - z.2 / b * c) % a := by
     have := Int.emod_add_ediv_mul (z.1 - z.2 / b * c) a; rw [Int.neg_mul]; omega
    rw [e2] at h5
    exact h.bmin _ _ (by omega) h3 (Int.emod_nonneg _ (by have := h.a0; omega)) (Int.emod_lt_of_pos _ h.a0) h5
  rw [hm] at h1
  exact ⟨Int.dvd_of_emod_eq_zero hm, (h.row hs _).1 h1⟩
 ·rintro ⟨⟨k, hk⟩, h2⟩
  have e : z.2 / b = k := by rw [hk]; exact Int.mul_ediv_cancel_left k (by omega)
  rw [e] at h2
  rw [back k, show z.2 - k * b = 0 by rw [hk, Int.mul_comm]; omega]
  exact (h.row hs _).2 h2
theorem count_res {a n : Nat} (ha : 0 < a) (t : Nat) (ht : t < a) : ∀ k, n = a * k → (List.range n).countP (fun x => decide (x % a = t)) = k := by
 intro k
 induction k generalizing n with
 | zero => intro h; rw [h, Nat.mul_zero]; rfl
 | succ k ih =>
  intro h
  rw [h, Nat.mul_add, Nat.mul_one, List.range_add, List.countP_append, ih rfl, List.countP_map]
  have : (List.range a).countP ((fun x => decide (x % a = t)) ∘ fun x => a * k + x) = 1 := by
   have e : (List.range a).countP ((fun x => decide (x % a = t)) ∘ fun x => a * k + x) = (List.range a).countP (fun x => x == t) := by
    refine List.countP_congr fun x hx => ?_
    rw [List.mem_range] at hx
    simp [Nat.mul_add_mod, Nat.mod_eq_of_lt hx]
   rw [e]
   have := List.nodup_range.count (a := t) (l := List.range a)
   rw [if_pos (List.mem_range.2 ht)] at this
   exact this
  rw [this]
end Z
end
section
open Go.RowKit
namespace Z
section
variable {g n : Int} {col : Pt → Int} {L : List Mv}
theorem Grp.ok (h : Grp g n col L) {m : Mv} (hm : m ∈ L) : okT g m := ((h.mem m).1 hm).1
theorem Grp.keep (h : Grp g n col L) {m : Mv} (hm : m ∈ L) : Keep g col m := ((h.mem m).1 hm).2.1
theorem Grp.bd (h : Grp g n col L) {m : Mv} (hm : m ∈ L) : 0 ≤ m.o.1 ∧ m.o.1 < n ∧ 0 ≤ m.o.2 ∧ m.o.2 < n := ((h.mem m).1 hm).2.2
theorem Grp.one (h : Grp g n col L) (hg : G g) (hn : 0 < n) : idm ∈ L :=
 (h.mem _).2 ⟨idm_ok hg, Keep.id g col, by simp [idm]; omega⟩
theorem Grp.mul (h : Grp g n col L) (hg : G g) (hn : 0 < n) (hp : Per n col) {a b : Mv} (ha : a ∈ L) (hb : b ∈ L) : mulM g n a b ∈ L :=
 h.red hn hp (both_ok hg a b) ((h.keep ha).both hg (h.ok hb) (h.keep hb))
theorem Grp.inv (h : Grp g n col L) (hg : G g) (hn : 0 < n) (hp : Per n col) {a : Mv} (ha : a ∈ L) : invM g n a ∈ L :=
 h.red hn hp (inv_ok hg (h.ok ha)) ((h.keep ha).inv hg (h.ok ha))
theorem act_one {z : Pt} (hz : 0 ≤ z.1 ∧ z.1 < n ∧ 0 ≤ z.2 ∧ z.2 < n) : act g n idm z = z := by
 unfold act; rw [To_idm, md_self hz]
theorem redM_idm (hn : 0 < n) : redM n idm = idm := redM_self (by simp [idm]; omega)
theorem mulM_inv (hg : G g) (hn : 0 < n) {f : Mv} (hf : okT g f) : mulM g n (invM g n f) f = idm ∧ mulM g n f (invM g n f) = idm := by
 unfold mulM invM
 rw [both_redL, both_redR, (both_inv hg hf).1, (both_inv hg hf).2, redM_idm hn]
 exact ⟨rfl, rfl⟩
theorem act_inv (hg : G g) (hn : 0 < n) {f : Mv} (hf : okT g f) {z : Pt} (hz : 0 ≤ z.1 ∧ z.1 < n ∧ 0 ≤ z.2 ∧ z.2 < n) : act g n (invM g n f) (act g n f z) = z := by
 rw [← act_mul hg hf, (mulM_inv hg hn hf).1, act_one hz]
end
def torusL (n : Nat) : List Pt := (List.range (n * n)).map fun k => (((k % n : Nat) : Int), ((k / n : Nat) : Int))
theorem mem_torus {n : Nat} {z : Pt} : z ∈ torusL n ↔ 0 ≤ z.1 ∧ z.1 < n ∧ 0 ≤ z.2 ∧ z.2 < n := by
 unfold torusL
 rw [List.mem_map]
 constructor
 ·rintro ⟨k, hk, rfl⟩
  rw [List.mem_range] at hk
  have hn : 0 < n := by
   rcases Nat.eq_zero_or_pos n with h | h
   ·subst h; omega
   ·exact h
  have h1 := Nat.mod_lt k hn
  have h2 : k / n < n := Nat.div_lt_of_lt_mul hk
  exact ⟨Int.natCast_nonneg _, Int.ofNat_lt.2 h1, Int.natCast_nonneg _, Int.ofNat_lt.2 h2⟩
 ·rintro ⟨h1, h2, h3, h4⟩
  refine ⟨z.2.toNat * n + z.1.toNat, ?_, ?_⟩
  ·rw [List.mem_range]
   have : (z.2.toNat + 1) * n ≤ n * n := Nat.mul_le_mul_right n (by omega)
   rw [Nat.add_mul, Nat.one_mul] at this
   omega
  ·have hx : z.1.toNat < n := by omega
   apply ext2
   ·simp only
    rw [Nat.mul_comm, Nat.mul_add_mod, Nat.mod_eq_of_lt hx]; omega
   ·simp only
    rw [Nat.mul_comm, Nat.mul_add_div (by omega), Nat.div_eq_of_lt hx]; omega
theorem nodup_torus (n : Nat) : (torusL n).Nodup := by
 unfold torusL List.Nodup
 rw [List.pairwise_map]
 refine List.Pairwise.imp_of_mem ?_ List.nodup_range
 intro a b ha hb hne e
 rw [List.mem_range] at ha hb
 have h1 : a % n = b % n := by have := congrArg Prod.fst e; simp only at this; omega
 have h2 : a / n = b / n := by have := congrArg Prod.snd e; simp only at this; omega
 apply hne
 rw [← Nat.div_add_mod a n, ← Nat.div_add_mod b n, h1, h2]
def rankP (n : Nat) (z : Pt) : Nat := z.2.toNat * n + z.1.toNat
theorem rankP_inj {n : Nat} {y z : Pt} (hy : y ∈ torusL n) (hz : z ∈ torusL n) (h : rankP n y = rankP n z) : y = z := by
  rw [mem_torus] at hy hz
  unfold rankP at h
  have h1 : y.1.toNat < n := by omega
  have h2 : z.1.toNat < n := by omega
  have e1 := congrArg (· % n) h
  have e2 := congrArg (· / n) h
  simp only [Nat.mul_comm _ n, Nat.mul_add_mod, Nat.mod_eq_of_lt h1, Nat.mod_eq_of_lt h2, Nat.mul_add_div (show 0 < n by omega), Nat.div_eq_of_lt h1, Nat.div_eq_of_lt h2] at e1 e2
  apply ext2 <;> omega
theorem act_mem {g : Int} {n : Nat} (hn : 0 < n) (f : Mv) (z : Pt) : act g n f z ∈ torusL n := mem_torus.2 (md_bd (by omega) _)
def firstB (g : Int) (n : Nat) (L : List Mv) (z : Pt) : Bool := L.all fun f => decide (rankP n z ≤ rankP n (act g n f z))
theorem firstB_iff {g : Int} {n : Nat} {L : List Mv} {z : Pt} : firstB g n L z = true ↔ ∀ f ∈ L, rankP n z ≤ rankP n (act g n f z) := by
 unfold firstB; rw [List.all_eq_true]; exact ⟨fun h f hf => of_decide_eq_true (h f hf), fun h f hf => decide_eq_true (h f hf)⟩
theorem grp_burnside {g : Int} (hg : G g) {n : Nat} (hn : 0 < n) {col : Pt → Int} (hp : Per n col) {L : List Mv} (h : Grp g n col L) :
  sumL L (fun f => (torusL n).countP fun z => decide (act g n f z = z)) = ((torusL n).filter (firstB g n L)).length * L.length := by
 have hn2 : (0 : Int) < n := by omega
 have hb := burnside L (torusL n) h.nod (nodup_torus n) (act g n) (mulM g n) (invM g n) idm (rankP n) (h.one hg hn2) (fun z hz => act_one (mem_torus.1 hz)) (fun f hf k hk => h.mul hg hn2 hp hf hk) (fun f hf => h.inv hg hn2 hp hf)
  (fun f hf k hk z _ => act_mul hg (h.ok hk) z) (fun f _ z _ => act_mem hn f z) (fun f hf k hk => mulM_inv_right hg (h.ok hf) (h.ok hk) (h.bd hf)) (fun f hf z hz => act_inv hg hn2 (h.ok hf) (mem_torus.1 hz)) (fun y hy z hz e => rankP_inj hy hz e) (firstB g n L) (fun z _ => firstB_iff)
 rw [← hb]
 have e1 : sumL L (fun f => (torusL n).countP fun z => decide (act g n f z = z)) = sumL L (fun f => sumL (torusL n) fun z => if decide (act g n f z = z) then 1 else 0) := sumL_congr fun f _ => countP_sum _ _
 have e2 : sumL (torusL n) (fun z => L.countP fun f => decide (act g n f z = z)) = sumL (torusL n) (fun z => sumL L fun f => if decide (act g n f z = z) then 1 else 0) := sumL_congr fun z _ => countP_sum _ _
 rw [e1, e2, sumL_swap]
theorem first_alone {g : Int} (hg : G g) {n : Nat} (hn : 0 < n) {col : Pt → Int} (hp : Per n col) {L : List Mv} (h : Grp g n col L) {y z : Pt} (hy : y ∈ torusL n) (hz : z ∈ torusL n) (fy : firstB g n L y = true) (fz : firstB g n L z = true) {f : Mv} (hf : f ∈ L) (e : act g n f y = z) : y = z := by
 have hn2 : (0 : Int) < n := by omega
 refine rankP_inj hy hz (Nat.le_antisymm ?_ ?_)
 ·have := firstB_iff.1 fy f hf
  rwa [e] at this
 ·have := firstB_iff.1 fz _ (h.inv hg hn2 hp hf)
  rw [← e, act_inv hg hn2 (h.ok hf) (mem_torus.1 hy), e] at this
  exact this
end Z
end
section
open Go.RowKit
namespace Z
theorem perm_length {α : Type} [DecidableEq α] {a b : List α} (ha : a.Nodup) (hb : b.Nodup) (h : ∀ x, x ∈ a ↔ x ∈ b) : a.length = b.length := by
 have : a.Perm b := by
  rw [List.perm_iff_count]
  intro x
  rw [ha.count, hb.count]
  by_cases hx : x ∈ a
  ·rw [if_pos hx, if_pos ((h x).1 hx)]
  ·rw [if_neg hx, if_neg fun e => hx ((h x).2 e)]
 exact this.length_eq
theorem countP_grid (n : Nat) (hn : 0 < n) (p : Nat → Nat → Bool) : ∀ m, (List.range (m * n)).countP (fun k => p (k % n) (k / n)) = sumL (List.range m) (fun y => (List.range n).countP fun x => p x y) := by
 intro m
 induction m with
 | zero => simp [sumL]
 | succ m ih =>
  rw [Nat.add_mul, Nat.one_mul, List.range_add, List.countP_append, ih, List.countP_map, List.range_succ]
  unfold sumL
  rw [List.map_append, List.sum_append]
  congr 1
  simp only [List.map_cons, List.map_nil, List.sum_cons, List.sum_nil, Nat.add_zero]
  refine List.countP_congr fun x hx => ?_
  rw [List.mem_range] at hx
  simp only [Function.comp]
  rw [Nat.mul_comm m n, Nat.mul_add_mod, Nat.mod_eq_of_lt hx, Nat.mul_add_div hn, Nat.div_eq_of_lt hx, Nat.add_zero]
theorem sumL_countP {α : Type} (l : List α) (p : α → Bool) (c : Nat) : sumL l (fun x => if p x then c else 0) = l.countP p * c := by
 induction l with
 | nil => simp [sumL]
 | cons a l ih =>
  rw [sumL_cons, ih, List.countP_cons]
  cases p a <;> simp [Nat.add_mul, Nat.add_comm]
theorem dvd_sub_iff {a x : Nat} {t : Int} (ha : 0 < a) : (a : Int) ∣ (x : Int) - t ↔ x % a = (t % (a : Int)).toNat := by
 have h1 := Int.emod_nonneg t (show (a : Int) ≠ 0 by omega)
 have h2 : ((x % a : Nat) : Int) = (x : Int) % (a : Int) := Int.natCast_emod x a
 rw [Int.dvd_iff_emod_eq_zero, ← Int.emod_eq_emod_iff_emod_sub_eq_zero, ← h2]
 constructor
 ·intro h; omega
 ·intro h; omega
theorem grid_count {n a b : Nat} (ha : 0 < a) (hb : 0 < b) (hn : 0 < n) (da : a ∣ n) (db : b ∣ n) (c : Nat → Int) :
  (List.range (n * n)).countP (fun k => decide (b ∣ k / n) && decide ((a : Int) ∣ ((k % n : Nat) : Int) - c (k / n))) * (a * b) = n * n := by
 obtain ⟨ka, hka⟩ := da
 obtain ⟨kb, hkb⟩ := db
 have e := countP_grid n hn (fun (x y : Nat) => decide (b ∣ y) && decide ((a : Int) ∣ (x : Int) - c y)) n
 rw [e]
 have e2 : sumL (List.range n) (fun y => (List.range n).countP fun (x : Nat) => decide (b ∣ y) && decide ((a : Int) ∣ (x : Int) - c y)) = sumL (List.range n) (fun y => if decide (b ∣ y) then ka else 0) := sumL_congr fun y _ => by
  by_cases hy : b ∣ y
  ·rw [decide_eq_true hy, if_pos rfl]
   have h0 := Int.emod_nonneg (c y) (show (a : Int) ≠ 0 by omega)
   have h1 := Int.emod_lt_of_pos (c y) (show (0 : Int) < a by omega)
   rw [← count_res ha (c y % (a : Int)).toNat (by omega) ka hka]
   refine List.countP_congr fun x _ => ?_
   simp only [Bool.true_and, decide_eq_true_eq]
   exact dvd_sub_iff ha
  ·rw [decide_eq_false hy, if_neg (by simp)]
   rw [List.countP_eq_zero]
   intro x _ h
   simp at h
 rw [e2, sumL_countP]
 have e3 : (List.range n).countP (fun y => decide (b ∣ y)) = kb := by
  rw [← count_res hb 0 hb kb hkb]
  refine List.countP_congr fun x _ => ?_
  simp only [decide_eq_true_eq]
  exact Nat.dvd_iff_mod_eq_zero
 rw [e3, show kb * ka * (a * b) = (a * ka) * (b * kb) by rw [Nat.mul_comm kb ka, Nat.mul_assoc, Nat.mul_comm a ka, ← Nat.mul_assoc kb a b, Nat.mul_comm kb a, Nat.mul_assoc a kb b, Nat.mul_comm kb b, Nat.mul_assoc ka a (b * kb)], ← hka, ← hkb]
def Stp (col : Pt → Int) (z : Pt) : Prop := ∀ p, col (add p z) = col p
theorem stp_keep {g : Int} {col : Pt → Int} (z : Pt) : Keep g col ⟨0, false, z⟩ ↔ Stp col z := by
 unfold Keep Stp
 have : ∀ p, To g ⟨0, false, z⟩ p = add p z := fun p => by unfold To lin mir tn; simp
 constructor
 ·intro h p; rw [← this p]; exact h p
 ·intro h p; rw [this p]; exact h p
theorem stp_sub (col : Pt → Int) : Sub (Stp col) := by
 refine ⟨fun p => ?_, fun a b ha hb p => ?_, fun a ha p => ?_⟩
 ·rw [show add p (0, 0) = p by unfold add; simp]
 ·rw [← add_assoc, hb, ha]
 ·have := ha (add p (neg a))
  rw [add_assoc, (neg_eq 0 a).2] at this
  rw [← this, show add p (0, 0) = p by unfold add; simp]
theorem stp_per {n : Int} {col : Pt → Int} (hp : Per n col) {a b : Pt} (h : Eqm n a b) : Stp col a ↔ Stp col b := by
 constructor
 ·intro ha p
  rw [← ha p]; exact hp _ _ ((Eqm.refl n p).add h.symm)
 ·intro hb p
  rw [← hb p]; exact hp _ _ ((Eqm.refl n p).add h)
theorem fine_dvd {n : Nat} {col : Pt → Int} (hp : Per n col) {a b c : Int} (h : Fine (Stp col) a b c) : a ∣ (n : Int) ∧ b ∣ (n : Int) := by
 have s0 := (stp_sub col).zero
 have h1 : Stp col ((n : Int), 0) := (stp_per hp ⟨(1, 0), by unfold add sml; simp⟩).2 s0
 have h2 : Stp col (0, (n : Int)) := (stp_per hp ⟨(0, 1), by unfold add sml; simp⟩).2 s0
 exact ⟨(h.row (stp_sub col) _).1 h1, ((h.spec (stp_sub col) (0, (n : Int))).1 h2).1⟩
end Z
end
section
open Go.RowKit
namespace Z
section
variable {g : Int} {n : Nat} {col : Pt → Int} {L : List Mv}
def stepB (L : List Mv) (z : Pt) : Bool := decide ((⟨0, false, z⟩ : Mv) ∈ L)
theorem stepB_iff (h : Grp g n col L) (hg : G g) {z : Pt} (hz : z ∈ torusL n) : stepB L z = true ↔ Stp col z := by
 unfold stepB
 rw [decide_eq_true_iff, h.mem, stp_keep]
 rw [mem_torus] at hz
 exact ⟨fun x => x.2.1, fun x => ⟨by rcases hg with rfl | rfl <;> simp [okT], x, hz⟩⟩
theorem steps_count (h : Grp g n col L) (hg : G g) (hn : 0 < n) (hp : Per n col) {a b : Nat} {c : Int} (hf : Fine (Stp col) a b c) : (torusL n).countP (stepB L) * (a * b) = n * n := by
 obtain ⟨d1, d2⟩ := fine_dvd hp hf
 have ha : 0 < a := by have := hf.a0; omega
 have hb : 0 < b := by have := hf.b0; omega
 have da : a ∣ n := Int.natCast_dvd_natCast.1 d1
 have db : b ∣ n := Int.natCast_dvd_natCast.1 d2
 rw [← grid_count ha hb hn da db (fun y => ((y / b : Nat) : Int) * c)]
 congr 1
 unfold torusL
 rw [List.countP_map]
 refine List.countP_congr fun k hk => ?_
 have hz : (((k % n : Nat) : Int), ((k / n : Nat) : Int)) ∈ torusL n := List.mem_map.2 ⟨k, hk, rfl⟩
 simp only [Function.comp, Bool.and_eq_true, decide_eq_true_eq]
 rw [stepB_iff h hg hz, hf.spec (stp_sub col)]
 simp only
 constructor
 ·rintro ⟨h1, h2⟩
  exact ⟨Int.natCast_dvd_natCast.1 h1, h2⟩
 ·rintro ⟨h1, h2⟩
  exact ⟨Int.natCast_dvd_natCast.2 h1, h2⟩
def keyB (t : Nat) (f : Bool) (m : Mv) : Bool := decide (m.t = t) && (m.f == f)
theorem keyB_iff {t : Nat} {f : Bool} {m : Mv} : keyB t f m = true ↔ m.t = t ∧ m.f = f := by unfold keyB; simp
theorem block_count (h : Grp g n col L) (hg : G g) (hn : 0 < n) (hp : Per n col) {m0 : Mv} (h0 : m0 ∈ L) : L.countP (keyB m0.t m0.f) = (torusL n).countP (stepB L) := by
 have hn2 : (0 : Int) < n := by omega
 rw [List.countP_eq_length_filter, List.countP_eq_length_filter]
 have hinj : ∀ x ∈ L.filter (keyB m0.t m0.f), ∀ y ∈ L.filter (keyB m0.t m0.f), md n (add x.o (neg m0.o)) = md n (add y.o (neg m0.o)) → x = y := by
  intro x hx y hy e
  obtain ⟨x1, x2⟩ := List.mem_filter.1 hx
  obtain ⟨y1, y2⟩ := List.mem_filter.1 hy
  rw [keyB_iff] at x2 y2
  have e2 := (eqm_iff.2 e).add (Eqm.refl (n : Int) m0.o)
  rw [add_assoc, add_assoc, (neg_eq 0 m0.o).2] at e2
  have e3 := md_eq e2
  rw [show add x.o (0, 0) = x.o by unfold add; simp, show add y.o (0, 0) = y.o by unfold add; simp, md_self (h.bd x1), md_self (h.bd y1)] at e3
  cases x; cases y
  simp only at x2 y2 e3
  rw [x2.1, x2.2, y2.1, y2.2, e3]
 have hnod : ((L.filter (keyB m0.t m0.f)).map fun m => md n (add m.o (neg m0.o))).Nodup := by
  unfold List.Nodup
  rw [List.pairwise_map]
  refine List.Pairwise.imp_of_mem ?_ (List.Pairwise.filter _ h.nod)
  intro x y hx hy hne e
  exact hne (hinj x hx y hy e)
 have := perm_length hnod (List.Pairwise.filter (stepB L) (nodup_torus n)) (fun z => by
  rw [List.mem_map, List.mem_filter]
  constructor
  ·rintro ⟨m, hm, rfl⟩
   obtain ⟨m1, m2⟩ := List.mem_filter.1 hm
   rw [keyB_iff] at m2
   have hz : md n (add m.o (neg m0.o)) ∈ torusL n := mem_torus.2 (md_bd hn2 _)
   refine ⟨hz, (stepB_iff h hg hz).2 ?_⟩
   rw [← stp_per hp (eqm_md n _)]
   -- m behind what undoes m0 is a step
   have k1 := (h.keep m1).both hg (inv_ok hg (h.ok h0)) ((h.keep h0).inv hg (h.ok h0))
   intro p
   have k2 := k1 (add p (0, 0))
   rw [show add p (0, 0) = p by unfold add; simp, To_both hg (inv_ok hg (h.ok h0))] at k2
   have e : To g m (To g (inv g m0) p) = add p (add m.o (neg m0.o)) := by
    have e1 : To g m (To g (inv g m0) p) = add (To g m0 (To g (inv g m0) p)) (add m.o (neg m0.o)) := by
     unfold To
     rw [m2.1, m2.2]
     unfold add neg
     apply ext2 <;> simp only <;> omega
    rw [e1, ← To_both hg (inv_ok hg (h.ok h0)), (both_inv hg (h.ok h0)).2, To_idm]
   rw [e] at k2
   exact k2
  ·rintro ⟨hz, hs⟩
   have hz2 := mem_torus.1 hz
   rw [stepB_iff h hg hz] at hs
   refine ⟨⟨m0.t, m0.f, md n (add z m0.o)⟩, List.mem_filter.2 ⟨(h.mem _).2 ⟨(show okT g m0 from h.ok h0), ?_, md_bd hn2 _⟩, keyB_iff.2 ⟨rfl, rfl⟩⟩, ?_⟩
   ·have k : Keep g col ⟨m0.t, m0.f, add z m0.o⟩ := fun p => by
     rw [← h.keep h0 p, ← hs (To g m0 p)]
     congr 1
     unfold To add
     apply ext2 <;> simp only <;> omega
    exact Keep.eqm (m := ⟨m0.t, m0.f, add z m0.o⟩) hp rfl rfl (eqm_md n _) k
   ·simp only
    have e : Eqm (n : Int) (add (md n (add z m0.o)) (neg m0.o)) z := by
     have := (eqm_md (n : Int) (add z m0.o)).symm.add (Eqm.refl (n : Int) (neg m0.o))
     rw [add_assoc, (neg_eq 0 m0.o).1, show add z (0, 0) = z by unfold add; simp] at this
     exact this
    rw [md_eq e, md_self hz2])
 rw [List.length_map] at this
 exact this
end
end Z
end
section
open Go.RowKit
namespace Z
section
variable {g : Int} {n : Nat} {col : Pt → Int} {L L' : List Mv} {f : Mv}
def movd (g : Int) (f : Mv) (col : Pt → Int) (z : Pt) : Int := col (To g (inv g f) z)
theorem movd_at (hg : G g) (hf : okT g f) (z : Pt) : movd g f col (To g f z) = col z := by
 unfold movd; rw [← To_both hg hf, (both_inv hg hf).1, To_idm]
theorem movd_per {n : Int} (hp : Per n col) : Per n (movd g f col) := fun a b h => hp _ _ (To_eqm rfl rfl (Eqm.refl n _) h)
theorem movd_back (hg : G g) (hf : okT g f) (z : Pt) : movd g (inv g f) (movd g f col) z = col z := by
 have hi := inv_ok hg hf
 unfold movd
 rw [← To_both hg (inv_ok hg hi), (both_inv hg hi).2, To_idm]
theorem keep_conj (hg : G g) (hf : okT g f) {h : Mv} (hh : okT g h) (k : Keep g col h) : Keep g (movd g f col) (both g (both g f h) (inv g f)) := fun z => by
 have hi := inv_ok hg hf
 rw [To_both hg hi, To_both hg hh, movd_at hg hf, k]
 rfl
theorem keep_back (hg : G g) (hf : okT g f) {h : Mv} (hh : okT g h) (k : Keep g (movd g f col) h) : Keep g col (both g (both g (inv g f) h) f) := fun z => by
 rw [To_both hg hf, To_both hg hh]
 have h1 := k (To g f z)
 rw [movd_at hg hf] at h1
 exact h1
theorem conj_inj (hg : G g) (hf : okT g f) {a b : Mv} (ha : okT g a) (hb : okT g b) (oa : 0 ≤ a.o.1 ∧ a.o.1 < n ∧ 0 ≤ a.o.2 ∧ a.o.2 < n) (ob : 0 ≤ b.o.1 ∧ b.o.1 < n ∧ 0 ≤ b.o.2 ∧ b.o.2 < n)
  (e : redM n (both g (both g f a) (inv g f)) = redM n (both g (both g f b) (inv g f))) : a = b := by
 have hi := inv_ok hg hf
 have key : ∀ {x : Mv}, okT g x → redM n (both g (both g (inv g f) (both g (both g f x) (inv g f))) f) = redM n x := by
  intro x hx
  have : both g (both g (inv g f) (both g (both g f x) (inv g f))) f = x := by
   refine ext_maps hg (both_ok hg _ _) hx fun z => ?_
   rw [To_both hg hf, To_both hg (both_ok hg _ _), To_both hg hi, To_both hg hx, ← To_both hg hf (f := inv g f) (h := f), (both_inv hg hf).1, To_idm, ← To_both hg hf, (both_inv hg hf).1, To_idm]
  rw [this]
 have e2 : redM n (both g (both g (inv g f) (both g (both g f a) (inv g f))) f) = redM n (both g (both g (inv g f) (both g (both g f b) (inv g f))) f) := by
  rw [← both_redL, ← both_redR (g := g) (n := n) (f := inv g f), e, both_redR, both_redL]
 rw [key ha, key hb, redM_self oa, redM_self ob] at e2
 exact e2
theorem moved_length (hg : G g) (hn : 0 < n) (hp : Per n col) (hf : okT g f) (h : Grp g n col L) (h' : Grp g n (movd g f col) L') : L.length = L'.length := by
 have hn2 : (0 : Int) < n := by omega
 have hi := inv_ok hg hf
 have hp' : Per (n : Int) (movd g f col) := movd_per hp
 have hnod : (L.map fun m => redM n (both g (both g f m) (inv g f))).Nodup := by
  unfold List.Nodup
  rw [List.pairwise_map]
  refine List.Pairwise.imp_of_mem ?_ h.nod
  intro x y hx hy hne e
  exact hne (conj_inj hg hf (h.ok hx) (h.ok hy) (h.bd hx) (h.bd hy) e)
 have := perm_length hnod h'.nod (fun m => by
  rw [List.mem_map]
  constructor
  ·rintro ⟨x, hx, rfl⟩
   exact h'.red hn2 hp' (both_ok hg _ _) (keep_conj hg hf (h.ok hx) (h.keep hx))
  ·intro hm
   have k := keep_back hg hf (h'.ok hm) (h'.keep hm)
   refine ⟨redM n (both g (both g (inv g f) m) f), h.red hn2 hp (both_ok hg _ _) k, ?_⟩
   have e : both g (both g f (both g (both g (inv g f) m) f)) (inv g f) = m := by
    refine ext_maps hg (both_ok hg _ _) (h'.ok hm) fun z => ?_
    rw [To_both hg hi, To_both hg (both_ok hg _ _), To_both hg hf, To_both hg (h'.ok hm), ← To_both hg hi (f := f) (h := inv g f), (both_inv hg hf).2, To_idm, ← To_both hg hi, (both_inv hg hf).2, To_idm]
   rw [← both_redL, both_redR, both_redL, e, redM_self (h'.bd hm)])
 rw [List.length_map] at this
 exact this
end
end Z
end
end Go.Proofs.YtajdoobkfbdgoaaDoor
