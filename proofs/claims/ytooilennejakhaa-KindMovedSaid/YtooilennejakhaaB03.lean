/- Lemmas and contracts of functions (what each call returns, and that it changes nothing that was there) that the proof of a law of this seat uses; each lemma states its own conditions. -/
import Derived.Test.YtooilennejakhaaB02
namespace Go.Proofs.Ytooilennejakhaa.Z
set_option linter.unusedVariables false
set_option linter.unusedSimpArgs false
structure Mv where
  t : Nat
  f : Bool
  o : Pt
deriving DecidableEq
def mir (g : Int) (f : Bool) (z : Pt) : Pt := if f then conj g z else z
def lin (g : Int) (t : Nat) (f : Bool) (z : Pt) : Pt := tn g t (mir g f z)
def To (g : Int) (m : Mv) (z : Pt) : Pt := add (lin g m.t m.f z) m.o
def idm : Mv := ⟨0, false, (0,0)⟩
def bothT (g : Int) (f h : Mv) : Nat := if f.f then (f.t + (g.toNat - h.t)) % g.toNat else (f.t + h.t) % g.toNat
def both (g : Int) (f h : Mv) : Mv := ⟨bothT g f h, f.f ^^ h.f, To g f h.o⟩
def okT (g : Int) (m : Mv) : Prop := m.t < g.toNat
theorem tn_add (g : Int) (a b : Nat) (p : Pt) : tn g (a + b) p = tn g a (tn g b p) := by
  induction a with
  | zero => simp [tn]
  | succ a ih => rw [show a + 1 + b = (a + b) + 1 by omega, tn, tn, ih]
theorem tn_full {g : Int} (hg : G g) (p : Pt) : tn g g.toNat p = p := by
  rcases hg with rfl | rfl
  · apply ext2 <;> simp [tn, turn]
  · apply ext2 <;> simp [tn, turn] <;> omega
theorem tn_full_mul {g : Int} (hg : G g) (k : Nat) (p : Pt) : tn g (g.toNat * k) p = p := by
  induction k with
  | zero => rfl
  | succ k ih => rw [Nat.mul_succ, tn_add, tn_full hg, ih]
theorem tn_mod {g : Int} (hg : G g) (k : Nat) (p : Pt) : tn g (k % g.toNat) p = tn g k p := by
  have h := Nat.div_add_mod k g.toNat
  conv => rhs; rw [← h, tn_add, tn_full_mul hg]
theorem conj_conj (g : Int) (p : Pt) : conj g (conj g p) = p := by
  apply ext2 <;> simp [conj, miX] <;> split <;> omega
theorem turn_conj {g : Int} (hg : G g) (p : Pt) : turn g (conj g (turn g p)) = conj g p := by
  rcases hg with rfl | rfl <;> apply ext2 <;> simp [turn, conj, miX] <;> omega
theorem tn_conj {g : Int} (hg : G g) (k : Nat) (p : Pt) : tn g k (conj g (tn g k p)) = conj g p := by
  induction k with
  | zero => rfl
  | succ k ih => rw [Nat.add_comm k 1, tn_add, Nat.add_comm 1 k]; show tn g 1 (tn g k (conj g (turn g (tn g k p)))) = _; rw [← tn_add, Nat.add_comm 1 k, tn_add]; show tn g k (turn g (conj g (turn g (tn g k p)))) = _; rw [turn_conj hg, ih]
theorem conj_tn {g : Int} (hg : G g) {k : Nat} (hk : k ≤ g.toNat) (p : Pt) : conj g (tn g k p) = tn g (g.toNat - k) (conj g p) := by
  have h := tn_conj hg k p
  rw [← h, ← tn_add, Nat.sub_add_cancel hk, tn_full hg]
theorem conj_add (g : Int) (a b : Pt) : conj g (add a b) = add (conj g a) (conj g b) := by
  apply ext2 <;> simp [conj, add, miX] <;> (try split) <;> omega
theorem turn_add (g : Int) (a b : Pt) : turn g (add a b) = add (turn g a) (turn g b) := by
  apply ext2 <;> simp [turn, add] <;> (try split) <;> omega
theorem tn_addp (g : Int) (k : Nat) (a b : Pt) : tn g k (add a b) = add (tn g k a) (tn g k b) := by
  induction k with
  | zero => rfl
  | succ k ih => rw [tn, ih, turn_add]; rfl
theorem lin_add (g : Int) (t : Nat) (f : Bool) (a b : Pt) : lin g t f (add a b) = add (lin g t f a) (lin g t f b) := by
  cases f
  · exact tn_addp g t a b
  · simp only [lin, mir, if_true]; rw [conj_add, tn_addp]
theorem lin_both {g : Int} (hg : G g) {f h : Mv} (hh : okT g h) (z : Pt) : lin g (bothT g f h) (f.f ^^ h.f) z = lin g f.t f.f (lin g h.t h.f z) := by
  unfold okT at hh
  cases e1 : f.f <;> cases e2 : h.f <;> simp only [lin, mir, bothT, e1, e2, if_true, if_false, Bool.false_eq_true, Bool.xor_false, Bool.xor_true, Bool.not_true, Bool.not_false]
  · rw [tn_mod hg, tn_add]
  · rw [tn_mod hg, tn_add]
  · rw [tn_mod hg, tn_add, conj_tn hg (by omega)]
  · rw [tn_mod hg, tn_add, conj_tn hg (by omega), conj_conj]
theorem add_assoc (a b c : Pt) : add (add a b) c = add a (add b c) := by apply ext2 <;> simp [add] <;> omega
theorem To_both {g : Int} (hg : G g) {f h : Mv} (hh : okT g h) (z : Pt) : To g (both g f h) z = To g f (To g h z) := by
  simp only [To, both]
  rw [lin_both hg hh, lin_add, add_assoc]
theorem both_ok {g : Int} (hg : G g) (f h : Mv) : okT g (both g f h) := by
  have : 0 < g.toNat := by rcases hg with rfl | rfl <;> decide
  unfold okT both bothT
  simp only
  split <;> exact Nat.mod_lt _ this
theorem lin_inj4 : ∀ (t1 t2 : Fin 4) (f1 f2 : Bool), lin 4 t1 f1 (1,0) = lin 4 t2 f2 (1,0) → lin 4 t1 f1 (0,1) = lin 4 t2 f2 (0,1) → t1 = t2 ∧ f1 = f2 := by decide +kernel
theorem lin_inj6 : ∀ (t1 t2 : Fin 6) (f1 f2 : Bool), lin 6 t1 f1 (1,0) = lin 6 t2 f2 (1,0) → lin 6 t1 f1 (0,1) = lin 6 t2 f2 (0,1) → t1 = t2 ∧ f1 = f2 := by decide +kernel
theorem lin_inj {g : Int} (hg : G g) {t1 t2 : Nat} {f1 f2 : Bool} (h1 : t1 < g.toNat) (h2 : t2 < g.toNat) (e1 : lin g t1 f1 (1,0) = lin g t2 f2 (1,0)) (e2 : lin g t1 f1 (0,1) = lin g t2 f2 (0,1)) : t1 = t2 ∧ f1 = f2 := by
  rcases hg with rfl | rfl
  · have := lin_inj4 ⟨t1, h1⟩ ⟨t2, h2⟩ f1 f2 e1 e2; simpa using this
  · have := lin_inj6 ⟨t1, h1⟩ ⟨t2, h2⟩ f1 f2 e1 e2; simpa using this
theorem add_cancel {a b c : Pt} (h : add a c = add b c) : a = b := by
  simp only [add, Prod.mk.injEq] at h
  exact ext2 (by omega) (by omega)
theorem tn_zero (g : Int) (k : Nat) : tn g k (0,0) = (0,0) := by
  induction k with
  | zero => rfl
  | succ k ih => rw [tn, ih, turn_zero]
theorem lin_zero (g : Int) (t : Nat) (f : Bool) : lin g t f (0,0) = (0,0) := by
  have e : mir g f (0,0) = (0,0) := by cases f <;> simp [mir, conj, miX]
  rw [lin, e, tn_zero]
theorem To_zero (g : Int) (m : Mv) : To g m (0,0) = m.o := by rw [To, lin_zero]; simp [add]
theorem ext_maps {g : Int} (hg : G g) {m n : Mv} (hm : okT g m) (hn : okT g n) (h : ∀ z, To g m z = To g n z) : m = n := by
  have h0 := h (0,0)
  rw [To_zero, To_zero] at h0
  have h1 := h (1,0)
  have h2 := h (0,1)
  simp only [To, h0] at h1 h2
  obtain ⟨e1, e2⟩ := lin_inj hg hm hn (add_cancel h1) (add_cancel h2)
  cases m; cases n; simp_all
theorem both_assoc {g : Int} (hg : G g) {f h k : Mv} (hh : okT g h) (hk : okT g k) : both g (both g f h) k = both g f (both g h k) :=
  ext_maps hg (both_ok hg _ _) (both_ok hg _ _) fun z => by rw [To_both hg hk, To_both hg hh, To_both hg (both_ok hg _ _), To_both hg hk]
def neg (p : Pt) : Pt := (-p.1, -p.2)
def invT (g : Int) (f : Mv) : Nat := if f.f then f.t else (g.toNat - f.t) % g.toNat
def inv (g : Int) (f : Mv) : Mv := ⟨invT g f, f.f, neg (lin g (invT g f) f.f f.o)⟩
theorem inv_ok {g : Int} (hg : G g) {f : Mv} (hf : okT g f) : okT g (inv g f) := by
  have : 0 < g.toNat := by rcases hg with rfl | rfl <;> decide
  unfold okT inv invT at *
  simp only
  split
  · exact hf
  · exact Nat.mod_lt _ this
theorem neg_eq (g : Int) (p : Pt) : add p (neg p) = (0,0) ∧ add (neg p) p = (0,0) := by
  constructor <;> apply ext2 <;> simp [add, neg] <;> omega
theorem bothT_inv {g : Int} (hg : G g) {f : Mv} (hf : okT g f) : bothT g (inv g f) f = 0 ∧ bothT g f (inv g f) = 0 := by
  unfold okT at hf
  have hm : ∀ a, a < g.toNat → ((g.toNat - a) % g.toNat + a) % g.toNat = 0 := by
    intro a ha
    rw [Nat.mod_add_mod, Nat.sub_add_cancel (by omega), Nat.mod_self]
  have hm2 : ∀ a, a < g.toNat → (a + (g.toNat - a)) % g.toNat = 0 := by
    intro a ha
    rw [show a + (g.toNat - a) = g.toNat by omega, Nat.mod_self]
  cases e : f.f
  · simp only [bothT, inv, invT, e, Bool.false_eq_true, if_false]
    exact ⟨hm _ hf, by rw [Nat.add_comm]; exact hm _ hf⟩
  · simp only [bothT, inv, invT, e, if_true]
    exact ⟨hm2 _ hf, hm2 _ hf⟩
theorem both_inv {g : Int} (hg : G g) {f : Mv} (hf : okT g f) : both g (inv g f) f = idm ∧ both g f (inv g f) = idm := by
  have hb := bothT_inv hg hf
  constructor
  · unfold both
    rw [hb.1]
    have e2 : ((inv g f).f ^^ f.f) = false := by simp [inv]
    have e3 : To g (inv g f) f.o = (0,0) := (neg_eq g _).1
    rw [e2, e3]; rfl
  · unfold both
    rw [hb.2]
    have e2 : (f.f ^^ (inv g f).f) = false := by simp [inv]
    have e3 : To g f (inv g f).o = (0,0) := by
      have hl := lin_both hg (f := f) (h := inv g f) (inv_ok hg hf) f.o
      rw [hb.2, e2] at hl
      have h4 : lin g f.t f.f (lin g (inv g f).t (inv g f).f f.o) = f.o := by rw [← hl]; rfl
      have h5 : add (lin g f.t f.f (lin g (inv g f).t (inv g f).f f.o)) (lin g f.t f.f (inv g f).o) = (0,0) := by
        rw [← lin_add]
        have : add (lin g (inv g f).t (inv g f).f f.o) (inv g f).o = (0,0) := (neg_eq g _).1
        rw [this, lin_zero]
      rw [h4] at h5
      unfold To
      simp only [add, Prod.mk.injEq] at h5 ⊢
      omega
    rw [e2, e3]; rfl
/-- A move done so often. -/
def pw (g : Int) (f : Mv) : Nat → Mv
  | 0 => idm
  | n + 1 => both g f (pw g f n)
theorem idm_ok {g : Int} (hg : G g) : okT g idm := by rcases hg with rfl | rfl <;> simp [okT, idm]
theorem pw_ok {g : Int} (hg : G g) (f : Mv) (n : Nat) : okT g (pw g f n) := by
  cases n with
  | zero => exact idm_ok hg
  | succ n => exact both_ok hg _ _
theorem pw_one {g : Int} {f : Mv} (hf : okT g f) : pw g f 1 = f := by
  unfold okT at hf
  obtain ⟨t, fl, o⟩ := f
  have e : To g ⟨t, fl, o⟩ (0,0) = o := To_zero g _
  simp only [pw, both, idm, e, Bool.xor_false, Mv.mk.injEq, and_true]
  unfold bothT
  simp only [Nat.sub_zero, Nat.add_mod_right, Nat.add_zero, ite_self]
  exact Nat.mod_eq_of_lt hf
/-- On squares four times tell it. -/
theorem pw_four {f : Mv} (hf : okT 4 f) (h : ∀ n, 1 ≤ n → n ≤ 4 → pw 4 f n ≠ idm) : pw 4 f 5 ≠ idm ∧ pw 4 f 6 ≠ idm := by
  have h1 := h 1 (by omega) (by omega); have h2 := h 2 (by omega) (by omega); have h3 := h 3 (by omega) (by omega); have h4 := h 4 (by omega) (by omega)
  clear h
  obtain ⟨t, fl, x, y⟩ := f
  have ht : t = 0 ∨ t = 1 ∨ t = 2 ∨ t = 3 := by simp only [okT] at hf; omega
  rcases ht with rfl | rfl | rfl | rfl <;> cases fl <;> simp [pw, both, bothT, idm, To, lin, mir, tn, turn, conj, miX, add] at * <;> omega
theorem nrm_add_le {g : Int} (hg : G g) (a r : Pt) : nrm g (add a r) ≤ 2 * nrm g a + 2 * nrm g r := by
  have h := nrm_nonneg hg (sub a r)
  have e : nrm g (sub a r) + nrm g (add a r) = 2 * nrm g a + 2 * nrm g r := by
    rcases hg with rfl | rfl
    · simp only [nrm4, sub, add]; grind
    · simp only [nrm6, sub, add]; grind
  omega
theorem nrm_lin {g : Int} (hg : G g) (t : Nat) (f : Bool) (z : Pt) : nrm g (lin g t f z) = nrm g z := by
  cases f
  · exact nrm_tn hg t z
  · simp only [lin, mir, if_true]; rw [nrm_tn hg, nrm_conj hg]
theorem nrm_To {g : Int} (hg : G g) (m : Mv) (z : Pt) : nrm g (To g m z) ≤ 2 * nrm g z + 2 * nrm g m.o := by
  have := nrm_add_le hg (lin g m.t m.f z) m.o
  rw [nrm_lin hg] at this
  exact this
theorem lin_sub (g : Int) (t : Nat) (f : Bool) (a b : Pt) : sub (lin g t f a) (lin g t f b) = lin g t f (sub a b) := by
  have h := lin_add g t f (sub a b) b
  have e : add (sub a b) b = a := by apply ext2 <;> simp [add, sub]
  rw [e] at h
  rw [h]; apply ext2 <;> simp [add, sub]
/-- A move keeps how far points are apart. -/
theorem nrm_apart {g : Int} (hg : G g) (m : Mv) (a b : Pt) : nrm g (sub (To g m a) (To g m b)) = nrm g (sub a b) := by
  have e : sub (To g m a) (To g m b) = sub (lin g m.t m.f a) (lin g m.t m.f b) := by apply ext2 <;> simp [To, add, sub] <;> omega
  rw [e, lin_sub, nrm_lin hg]
end Go.Proofs.Ytooilennejakhaa.Z

namespace Go.Proofs.Ytooilennejakhaa
open Go.RowKit
set_option linter.unusedVariables false
set_option linter.unusedSimpArgs false
namespace Z
/-- A point of the torus. -/
def md (n : Int) (p : Pt) : Pt := (p.1 % n, p.2 % n)
def sml (k : Int) (p : Pt) : Pt := (k * p.1, k * p.2)
theorem turn_sml (g k : Int) (p : Pt) : turn g (sml k p) = sml k (turn g p) := by
  unfold turn sml
  apply ext2
  · simp only; grind
  · simp only; split <;> grind
theorem tn_sml (g k : Int) (p : Pt) : ∀ t, tn g t (sml k p) = sml k (tn g t p)
  | 0 => rfl
  | t + 1 => by
    show turn g (tn g t (sml k p)) = sml k (turn g (tn g t p))
    rw [tn_sml g k p t, turn_sml]
theorem mir_sml (g k : Int) (f : Bool) (p : Pt) : mir g f (sml k p) = sml k (mir g f p) := by
  unfold mir
  cases f with
  | false => rfl
  | true =>
    simp only [if_true]
    unfold conj sml miX
    apply ext2
    · simp only; (try split) <;> grind
    · simp only; grind
theorem lin_sml (g k : Int) (t : Nat) (f : Bool) (p : Pt) : lin g t f (sml k p) = sml k (lin g t f p) := by
  unfold lin; rw [mir_sml, tn_sml]
/-- The same point of the torus. -/
def Eqm (n : Int) (a b : Pt) : Prop := ∃ k, a = add b (sml n k)
theorem Eqm.refl (n : Int) (a : Pt) : Eqm n a a := ⟨(0, 0), by unfold add sml; simp⟩
theorem Eqm.symm {n : Int} {a b : Pt} (h : Eqm n a b) : Eqm n b a := by
  obtain ⟨k, rfl⟩ := h
  refine ⟨neg k, ?_⟩
  unfold add sml neg
  apply ext2 <;> simp only <;> grind
theorem Eqm.trans {n : Int} {a b c : Pt} (h : Eqm n a b) (k : Eqm n b c) : Eqm n a c := by
  obtain ⟨x, rfl⟩ := h
  obtain ⟨y, rfl⟩ := k
  refine ⟨add y x, ?_⟩
  unfold add sml
  apply ext2 <;> simp only <;> grind
theorem eqm_md (n : Int) (a : Pt) : Eqm n a (md n a) := by
  refine ⟨(a.1 / n, a.2 / n), ?_⟩
  unfold add sml md
  apply ext2
  · exact (Int.emod_add_mul_ediv a.1 n).symm
  · exact (Int.emod_add_mul_ediv a.2 n).symm
theorem md_eq {n : Int} {a b : Pt} (h : Eqm n a b) : md n a = md n b := by
  obtain ⟨k, rfl⟩ := h
  unfold md add sml
  apply ext2
  · exact Int.add_mul_emod_self_left _ _ _
  · exact Int.add_mul_emod_self_left _ _ _
theorem eqm_iff {n : Int} {a b : Pt} : Eqm n a b ↔ md n a = md n b :=
  ⟨md_eq, fun h => (eqm_md n a).trans (by rw [h]; exact (eqm_md n b).symm)⟩
theorem Eqm.add {n : Int} {a b c d : Pt} (h : Eqm n a b) (k : Eqm n c d) : Eqm n (add a c) (add b d) := by
  obtain ⟨x, rfl⟩ := h
  obtain ⟨y, rfl⟩ := k
  refine ⟨Z.add x y, ?_⟩
  unfold Z.add sml
  apply ext2 <;> simp only <;> grind
theorem Eqm.lin {n g : Int} {t : Nat} {f : Bool} {a b : Pt} (h : Eqm n a b) : Eqm n (lin g t f a) (lin g t f b) := by
  obtain ⟨x, rfl⟩ := h
  exact ⟨Z.lin g t f x, by rw [lin_add, lin_sml]⟩
/-- Likewise moved. -/
def redM (n : Int) (m : Mv) : Mv := ⟨m.t, m.f, md n m.o⟩
theorem To_eqm {n g : Int} {m h : Mv} (ht : m.t = h.t) (hf : m.f = h.f) (ho : Eqm n m.o h.o) {a b : Pt} (hab : Eqm n a b) : Eqm n (To g m a) (To g h b) := by
  unfold To
  rw [ht, hf]
  exact hab.lin.add ho
theorem To_red {n g : Int} (m : Mv) (a : Pt) : Eqm n (To g m a) (To g (redM n m) a) := To_eqm (m := m) (h := redM n m) rfl rfl (eqm_md n m.o) (Eqm.refl n a)
/-- A pattern that comes again each n. -/
def Per (n : Int) (col : Pt → Int) : Prop := ∀ a b, Eqm n a b → col a = col b
def Keep (g : Int) (col : Pt → Int) (m : Mv) : Prop := ∀ z, col (To g m z) = col z
theorem Keep.id (g : Int) (col : Pt → Int) : Keep g col idm := fun z => by
  have : To g idm z = z := by unfold To lin idm mir tn; apply ext2 <;> simp [Z.add]
  rw [this]
theorem Keep.both {g : Int} (hg : G g) {col : Pt → Int} {m h : Mv} (hh : okT g h) (km : Keep g col m) (kh : Keep g col h) : Keep g col (both g m h) := fun z => by
  rw [To_both hg hh, km, kh]
theorem Keep.inv {g : Int} (hg : G g) {col : Pt → Int} {m : Mv} (hm : okT g m) (km : Keep g col m) : Keep g col (inv g m) := fun z => by
  have h1 := km (To g (Z.inv g m) z)
  rw [← To_both hg (inv_ok hg hm), (both_inv hg hm).2] at h1
  have : To g idm z = z := by unfold To lin idm mir tn; apply ext2 <;> simp [Z.add]
  rw [this] at h1
  exact h1.symm
theorem Keep.eqm {n g : Int} {col : Pt → Int} (hp : Per n col) {m h : Mv} (ht : m.t = h.t) (hf : m.f = h.f) (ho : Eqm n m.o h.o) (k : Keep g col m) : Keep g col h := fun z => by
  rw [← k z]
  exact (hp _ _ (To_eqm ht hf ho (Eqm.refl n z))).symm
theorem keep_red {n g : Int} {col : Pt → Int} (hp : Per n col) (m : Mv) : Keep g col (redM n m) ↔ Keep g col m :=
  ⟨fun k => Keep.eqm (m := redM n m) (h := m) hp rfl rfl (eqm_md n m.o).symm k, fun k => Keep.eqm (m := m) (h := redM n m) hp rfl rfl (eqm_md n m.o) k⟩
/-- It is enough to look at the torus. -/
theorem keep_torus {n g : Int} (hn : 0 < n) {col : Pt → Int} (hp : Per n col) (m : Mv) : Keep g col m ↔ ∀ x y : Int, 0 ≤ x → x < n → 0 ≤ y → y < n → col (To g m (x, y)) = col (x, y) := by
  refine ⟨fun k x y _ _ _ _ => k (x, y), fun h z => ?_⟩
  have e := eqm_md n z
  have h1 := h (md n z).1 (md n z).2 (Int.emod_nonneg _ (by omega)) (Int.emod_lt_of_pos _ hn) (Int.emod_nonneg _ (by omega)) (Int.emod_lt_of_pos _ hn)
  rw [hp _ _ e, ← h1]
  exact hp _ _ (To_eqm rfl rfl (Eqm.refl n _) e)
/-- The moves that keep a pattern, By on the torus. -/
structure Grp (g n : Int) (col : Pt → Int) (L : List Mv) : Prop where
  nod : L.Nodup
  mem : ∀ m, m ∈ L ↔ okT g m ∧ Keep g col m ∧ 0 ≤ m.o.1 ∧ m.o.1 < n ∧ 0 ≤ m.o.2 ∧ m.o.2 < n
theorem md_bd {n : Int} (hn : 0 < n) (p : Pt) : 0 ≤ (md n p).1 ∧ (md n p).1 < n ∧ 0 ≤ (md n p).2 ∧ (md n p).2 < n :=
  ⟨Int.emod_nonneg _ (by omega), Int.emod_lt_of_pos _ hn, Int.emod_nonneg _ (by omega), Int.emod_lt_of_pos _ hn⟩
theorem md_self {n : Int} {p : Pt} (h : 0 ≤ p.1 ∧ p.1 < n ∧ 0 ≤ p.2 ∧ p.2 < n) : md n p = p := by
  unfold md
  rw [Int.emod_eq_of_lt h.1 h.2.1, Int.emod_eq_of_lt h.2.2.1 h.2.2.2]
theorem md_md (n : Int) (p : Pt) : md n (md n p) = md n p := md_eq (eqm_md n p).symm
theorem Grp.red {g n : Int} {col : Pt → Int} {L : List Mv} (h : Grp g n col L) (hn : 0 < n) (hp : Per n col) {m : Mv} (ho : okT g m) (k : Keep g col m) : redM n m ∈ L :=
  (h.mem _).2 ⟨ho, (keep_red hp m).2 k, md_bd hn m.o⟩
/-- One behind the other, on the torus. -/
def mulM (g n : Int) (f h : Mv) : Mv := redM n (both g f h)
def invM (g n : Int) (f : Mv) : Mv := redM n (inv g f)
def act (g n : Int) (m : Mv) (z : Pt) : Pt := md n (To g m z)
theorem act_mul {g n : Int} (hg : G g) {f h : Mv} (hh : okT g h) (z : Pt) : act g n (mulM g n f h) z = act g n f (act g n h z) := by
  unfold act mulM
  rw [← md_eq (To_red (both g f h) z), To_both hg hh]
  exact md_eq (To_eqm rfl rfl (Eqm.refl n _) (eqm_md n _))
theorem both_eqm {g n : Int} {f f' h h' : Mv} (e1 : f.t = f'.t) (e2 : f.f = f'.f) (e3 : Eqm n f.o f'.o) (e4 : h.t = h'.t) (e5 : h.f = h'.f) (e6 : Eqm n h.o h'.o) : redM n (both g f h) = redM n (both g f' h') := by
  unfold redM both bothT
  simp only [Mv.mk.injEq]
  refine ⟨by rw [e1, e2, e4], by rw [e2, e5], md_eq (To_eqm e1 e2 e3 e6)⟩
theorem both_redL (g n : Int) (f h : Mv) : redM n (both g (redM n f) h) = redM n (both g f h) :=
  both_eqm (f := redM n f) (f' := f) (h := h) (h' := h) rfl rfl (eqm_md n _).symm rfl rfl (Eqm.refl n _)
theorem both_redR (g n : Int) (f h : Mv) : redM n (both g f (redM n h)) = redM n (both g f h) :=
  both_eqm (f := f) (f' := f) (h := redM n h) (h' := h) rfl rfl (Eqm.refl n _) rfl rfl (eqm_md n _).symm
theorem mulM_assoc {g n : Int} (hg : G g) {f h k : Mv} (hh : okT g h) (hk : okT g k) : mulM g n (mulM g n f h) k = mulM g n f (mulM g n h k) := by
  unfold mulM
  rw [both_redL, both_redR, both_assoc hg hh hk]
theorem redM_self {n : Int} {m : Mv} (h : 0 ≤ m.o.1 ∧ m.o.1 < n ∧ 0 ≤ m.o.2 ∧ m.o.2 < n) : redM n m = m := by
  unfold redM; rw [md_self h]
theorem To_idm (g : Int) (z : Pt) : To g idm z = z := by unfold To lin idm mir tn; apply ext2 <;> simp [Z.add]
theorem both_idm {g : Int} (hg : G g) {f : Mv} (hf : okT g f) : both g f idm = f :=
  ext_maps hg (both_ok hg _ _) hf fun z => by rw [To_both hg (idm_ok hg), To_idm]
theorem mulM_inv_right {g n : Int} (hg : G g) {f h : Mv} (hf : okT g f) (hh : okT g h) (hb : 0 ≤ f.o.1 ∧ f.o.1 < n ∧ 0 ≤ f.o.2 ∧ f.o.2 < n) : mulM g n (mulM g n f h) (invM g n h) = f ∧ mulM g n (mulM g n f (invM g n h)) h = f := by
  have hi : okT g (inv g h) := inv_ok hg hh
  constructor
  · unfold mulM invM
    rw [both_redL, both_redR, both_assoc hg hh hi, (both_inv hg hh).2, both_idm hg hf]
    exact redM_self hb
  · unfold mulM invM
    have e : both g (both g f (inv g h)) h = f := by rw [both_assoc hg hi hh, (both_inv hg hh).1, both_idm hg hf]
    rw [both_redL]
    have e2 : redM n (both g (both g f (redM n (inv g h))) h) = redM n (both g (both g f (inv g h)) h) := by
      rw [← both_redL g n (both g f (redM n (inv g h))), both_redR, both_redL]
    rw [e2, e]
    exact redM_self hb
theorem countP_congr_bij {α : Type} [DecidableEq α] {L : List α} (hL : L.Nodup) (r s : α → α) (hr : ∀ a ∈ L, r a ∈ L) (hs : ∀ a ∈ L, s a ∈ L) (h1 : ∀ a ∈ L, s (r a) = a) (h2 : ∀ a ∈ L, r (s a) = a) (p : α → Bool) : L.countP p = L.countP (fun a => p (r a)) := by
  have hm : L.Perm (L.map r) := by
    rw [List.perm_iff_count]
    intro a
    have hn : (L.map r).Nodup := by
      unfold List.Nodup
      rw [List.pairwise_map]
      refine List.Pairwise.imp_of_mem ?_ hL
      intro x y hx hy hne e
      exact hne (by rw [← h1 x hx, ← h1 y hy, e])
    rw [hL.count, hn.count]
    by_cases ha : a ∈ L
    · rw [if_pos ha, if_pos (List.mem_map.2 ⟨s a, hs a ha, h2 a ha⟩)]
    · rw [if_neg ha, if_neg fun hx => by
        obtain ⟨x, hx2, rfl⟩ := List.mem_map.1 hx
        exact ha (hr x hx2)]
  rw [hm.countP_eq p, List.countP_map]
  rfl
def sumL {α : Type} (l : List α) (f : α → Nat) : Nat := (l.map f).sum
theorem sumL_cons {α : Type} (a : α) (l : List α) (f : α → Nat) : sumL (a :: l) f = f a + sumL l f := by simp [sumL]
theorem sumL_congr {α : Type} {l : List α} {f h : α → Nat} (e : ∀ x ∈ l, f x = h x) : sumL l f = sumL l h := by
  unfold sumL; rw [List.map_congr_left e]
theorem sumL_zero {α : Type} {l : List α} {f : α → Nat} (e : ∀ x ∈ l, f x = 0) : sumL l f = 0 := by
  induction l with
  | nil => rfl
  | cons a l ih => rw [sumL_cons, e a (by simp), ih fun x hx => e x (by simp [hx])]
theorem sumL_add {α : Type} (l : List α) (f h : α → Nat) : sumL l (fun x => f x + h x) = sumL l f + sumL l h := by
  induction l with
  | nil => rfl
  | cons a l ih => rw [sumL_cons, sumL_cons, sumL_cons, ih]; omega
theorem sumL_swap {α β : Type} (a : List α) (b : List β) (f : α → β → Nat) : sumL a (fun x => sumL b (f x)) = sumL b (fun y => sumL a (fun x => f x y)) := by
  induction a with
  | nil => exact (sumL_zero fun _ _ => rfl).symm
  | cons x a ih =>
    rw [sumL_cons, ih, ← sumL_add]
    exact sumL_congr fun y _ => by rw [sumL_cons]
theorem sumL_one {α : Type} [DecidableEq α] {l : List α} (hl : l.Nodup) {f : α → Nat} {m : α} (hm : m ∈ l) (h0 : ∀ x ∈ l, x ≠ m → f x = 0) : sumL l f = f m := by
  induction l with
  | nil => cases hm
  | cons a l ih =>
    rw [sumL_cons]
    rw [List.nodup_cons] at hl
    by_cases e : a = m
    · subst e
      rw [sumL_zero fun x hx => h0 x (by simp [hx]) fun e => hl.1 (e ▸ hx), Nat.add_zero]
    · rw [h0 a (by simp) e, Nat.zero_add]
      exact ih hl.2 ((List.mem_cons.1 hm).resolve_left fun x => e x.symm) fun x hx => h0 x (by simp [hx])
theorem sumL_const {α : Type} (l : List α) (c : Nat) : sumL l (fun _ => c) = l.length * c := by
  induction l with
  | nil => simp [sumL]
  | cons a l ih => rw [sumL_cons, ih, List.length_cons, Nat.add_mul, Nat.one_mul, Nat.add_comm]
theorem countP_sum {α : Type} (l : List α) (p : α → Bool) : l.countP p = sumL l (fun x => if p x then 1 else 0) := by
  induction l with
  | nil => rfl
  | cons a l ih => rw [List.countP_cons, sumL_cons, ih]; omega
/-- BURNSIDE. T: the points; first: those ahead of all that their moves take them to. -/
theorem burnside {α β : Type} [DecidableEq α] [DecidableEq β] (L : List α) (T : List β) (hL : L.Nodup) (hT : T.Nodup) (act : α → β → β) (mul : α → α → α) (inv : α → α) (one : α) (rank : β → Nat)
    (h1 : one ∈ L) (h2 : ∀ z ∈ T, act one z = z) (h3 : ∀ f ∈ L, ∀ h ∈ L, mul f h ∈ L) (h4 : ∀ f ∈ L, inv f ∈ L) (h5 : ∀ f ∈ L, ∀ h ∈ L, ∀ z ∈ T, act (mul f h) z = act f (act h z))
    (h6 : ∀ f ∈ L, ∀ z ∈ T, act f z ∈ T) (h7 : ∀ f ∈ L, ∀ h ∈ L, mul (mul f h) (inv h) = f ∧ mul (mul f (inv h)) h = f) (h8 : ∀ f ∈ L, ∀ z ∈ T, act (inv f) (act f z) = z) (hr : ∀ y ∈ T, ∀ z ∈ T, rank y = rank z → y = z)
    (first : β → Bool) (hf : ∀ z ∈ T, first z = true ↔ ∀ f ∈ L, rank z ≤ rank (act f z)) :
    sumL T (fun z => L.countP fun f => decide (act f z = z)) = (T.filter first).length * L.length := by
  have e1 : (T.filter first).length * L.length = sumL (T.filter first) (fun m => sumL T fun z => L.countP fun f => decide (act f m = z)) := by
    rw [← sumL_const]
    refine sumL_congr fun m hm => ?_
    have hm := (List.mem_filter.1 hm).1
    have : sumL T (fun z => L.countP fun f => decide (act f m = z)) = sumL T (fun z => sumL L fun f => if decide (act f m = z) then 1 else 0) := sumL_congr fun z _ => countP_sum _ _
    rw [this, sumL_swap]
    have h9 : sumL L (fun f => sumL T fun z => if decide (act f m = z) then 1 else 0) = sumL L (fun _ => 1) := sumL_congr fun f hf => by
      rw [sumL_one hT (h6 f hf m hm) fun z _ hz => by simp [Ne.symm hz]]
      simp
    rw [h9, sumL_const, Nat.mul_one]
  rw [e1, sumL_swap]
  refine sumL_congr fun z hz => ?_
  -- the first point that z's moves take it to
  have hmin : ∃ h ∈ L, ∀ f ∈ L, rank (act h z) ≤ rank (act f z) := by
    have : ∀ l : List α, l ≠ [] → ∃ h ∈ l, ∀ f ∈ l, rank (act h z) ≤ rank (act f z) := by
      intro l
      induction l with
      | nil => intro h; exact absurd rfl h
      | cons a l ih =>
        intro _
        by_cases hl : l = []
        · subst hl; exact ⟨a, by simp, fun f hf => by simp at hf; subst hf; exact Nat.le_refl _⟩
        · obtain ⟨h, hh, hm⟩ := ih hl
          by_cases e : rank (act a z) ≤ rank (act h z)
          · exact ⟨a, by simp, fun f hf => by
              rcases List.mem_cons.1 hf with rfl | hf
              · exact Nat.le_refl _
              · exact Nat.le_trans e (hm f hf)⟩
          · exact ⟨h, by simp [hh], fun f hf => by
              rcases List.mem_cons.1 hf with rfl | hf
              · omega
              · exact hm f hf⟩
    exact this L (List.ne_nil_of_mem h1)
  obtain ⟨h, hh, hm⟩ := hmin
  have hmT : act h z ∈ T := h6 h hh z hz
  have hmf : act h z ∈ T.filter first := List.mem_filter.2 ⟨hmT, (hf _ hmT).2 fun f hfL => by
    rw [← h5 f hfL h hh z hz]; exact hm _ (h3 f hfL h hh)⟩
  have hTF : (T.filter first).Nodup := List.Pairwise.filter _ hT
  rw [sumL_one hTF hmf]
  · -- as many moves take z to itself as take the first point to z
    rw [countP_congr_bij hL (fun f => mul f h) (fun f => mul f (inv h)) (fun f hf => h3 f hf h hh) (fun f hf => h3 f hf _ (h4 h hh)) (fun f hf => (h7 f hf h hh).1) (fun f hf => (h7 f hf h hh).2) (fun f => decide (act f z = z))]
    -- mul f h takes z to itself just if f takes (act h z) to z
    rw [List.countP_congr]
    intro f hfL
    rw [h5 f hfL h hh z hz]
  · intro m hmem hne
    rw [List.countP_eq_zero]
    intro f hfL he
    have he := of_decide_eq_true he
    obtain ⟨hmT2, hm2⟩ := List.mem_filter.1 hmem
    refine hne (hr _ hmT2 _ hmT (Nat.le_antisymm ?_ ?_))
    · have := (hf m hmT2).1 hm2 (mul h f) (h3 h hh f hfL)
      rwa [h5 h hh f hfL m hmT2, he] at this
    · have := hm (inv f) (h4 f hfL)
      have e : act (inv f) z = m := by rw [← he]; exact h8 f hfL m hmT2
      rwa [e] at this
end Z
end Go.Proofs.Ytooilennejakhaa
