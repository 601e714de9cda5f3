/- Moves of the plane, as maps: the plain theory, no program in sight. -/
import Derived.Test.YtnjheiiohfhckaaZ2
namespace Go.Proofs.Ytnjheiiohfhckaa.Z
set_option linter.unusedVariables false
set_option linter.unusedSimpArgs false
structure Mv where
  t : Nat
  f : Bool
  o : Pt
deriving DecidableEq
def mir (g : Int) (f : Bool) (z : Pt) : Pt := if f then conj g z else z
def lin (g : Int) (t : Nat) (f : Bool) (z : Pt) : Pt := tn g t (mir g f z)
def To (g : Int) (m : Mv) (z : Pt) : Pt := add (lin g m.t m.f z) m.o
def idm : Mv := ⟨0, false, (0,0)⟩
def bothT (g : Int) (f h : Mv) : Nat := if f.f then (f.t + (g.toNat - h.t)) % g.toNat else (f.t + h.t) % g.toNat
def both (g : Int) (f h : Mv) : Mv := ⟨bothT g f h, f.f ^^ h.f, To g f h.o⟩
def okT (g : Int) (m : Mv) : Prop := m.t < g.toNat
theorem tn_add (g : Int) (a b : Nat) (p : Pt) : tn g (a + b) p = tn g a (tn g b p) := by
  induction a with
  | zero => simp [tn]
  | succ a ih => rw [show a + 1 + b = (a + b) + 1 by omega, tn, tn, ih]
theorem tn_full {g : Int} (hg : G g) (p : Pt) : tn g g.toNat p = p := by
  rcases hg with rfl | rfl
  · apply ext2 <;> simp [tn, turn]
  · apply ext2 <;> simp [tn, turn] <;> omega
theorem tn_full_mul {g : Int} (hg : G g) (k : Nat) (p : Pt) : tn g (g.toNat * k) p = p := by
  induction k with
  | zero => rfl
  | succ k ih => rw [Nat.mul_succ, tn_add, tn_full hg, ih]
theorem tn_mod {g : Int} (hg : G g) (k : Nat) (p : Pt) : tn g (k % g.toNat) p = tn g k p := by
  have h := Nat.div_add_mod k g.toNat
  conv => rhs; rw [← h, tn_add, tn_full_mul hg]
theorem conj_conj (g : Int) (p : Pt) : conj g (conj g p) = p := by
  apply ext2 <;> simp [conj, miX] <;> split <;> omega
theorem turn_conj {g : Int} (hg : G g) (p : Pt) : turn g (conj g (turn g p)) = conj g p := by
  rcases hg with rfl | rfl <;> apply ext2 <;> simp [turn, conj, miX] <;> omega
theorem tn_conj {g : Int} (hg : G g) (k : Nat) (p : Pt) : tn g k (conj g (tn g k p)) = conj g p := by
  induction k with
  | zero => rfl
  | succ k ih => rw [Nat.add_comm k 1, tn_add, Nat.add_comm 1 k]; show tn g 1 (tn g k (conj g (turn g (tn g k p)))) = _; rw [← tn_add, Nat.add_comm 1 k, tn_add]; show tn g k (turn g (conj g (turn g (tn g k p)))) = _; rw [turn_conj hg, ih]
theorem conj_tn {g : Int} (hg : G g) {k : Nat} (hk : k ≤ g.toNat) (p : Pt) : conj g (tn g k p) = tn g (g.toNat - k) (conj g p) := by
  have h := tn_conj hg k p
  rw [← h, ← tn_add, Nat.sub_add_cancel hk, tn_full hg]
theorem conj_add (g : Int) (a b : Pt) : conj g (add a b) = add (conj g a) (conj g b) := by
  apply ext2 <;> simp [conj, add, miX] <;> (try split) <;> omega
theorem turn_add (g : Int) (a b : Pt) : turn g (add a b) = add (turn g a) (turn g b) := by
  apply ext2 <;> simp [turn, add] <;> (try split) <;> omega
theorem tn_addp (g : Int) (k : Nat) (a b : Pt) : tn g k (add a b) = add (tn g k a) (tn g k b) := by
  induction k with
  | zero => rfl
  | succ k ih => rw [tn, ih, turn_add]; rfl
theorem lin_add (g : Int) (t : Nat) (f : Bool) (a b : Pt) : lin g t f (add a b) = add (lin g t f a) (lin g t f b) := by
  cases f
  · exact tn_addp g t a b
  · simp only [lin, mir, if_true]; rw [conj_add, tn_addp]
theorem lin_both {g : Int} (hg : G g) {f h : Mv} (hh : okT g h) (z : Pt) : lin g (bothT g f h) (f.f ^^ h.f) z = lin g f.t f.f (lin g h.t h.f z) := by
  unfold okT at hh
  cases e1 : f.f <;> cases e2 : h.f <;> simp only [lin, mir, bothT, e1, e2, if_true, if_false, Bool.false_eq_true, Bool.xor_false, Bool.xor_true, Bool.not_true, Bool.not_false]
  · rw [tn_mod hg, tn_add]
  · rw [tn_mod hg, tn_add]
  · rw [tn_mod hg, tn_add, conj_tn hg (by omega)]
  · rw [tn_mod hg, tn_add, conj_tn hg (by omega), conj_conj]
theorem add_assoc (a b c : Pt) : add (add a b) c = add a (add b c) := by apply ext2 <;> simp [add] <;> omega
theorem To_both {g : Int} (hg : G g) {f h : Mv} (hh : okT g h) (z : Pt) : To g (both g f h) z = To g f (To g h z) := by
  simp only [To, both]
  rw [lin_both hg hh, lin_add, add_assoc]
theorem both_ok {g : Int} (hg : G g) (f h : Mv) : okT g (both g f h) := by
  have : 0 < g.toNat := by rcases hg with rfl | rfl <;> decide
  unfold okT both bothT
  simp only
  split <;> exact Nat.mod_lt _ this
theorem lin_inj4 : ∀ (t1 t2 : Fin 4) (f1 f2 : Bool), lin 4 t1 f1 (1,0) = lin 4 t2 f2 (1,0) → lin 4 t1 f1 (0,1) = lin 4 t2 f2 (0,1) → t1 = t2 ∧ f1 = f2 := by decide +kernel
theorem lin_inj6 : ∀ (t1 t2 : Fin 6) (f1 f2 : Bool), lin 6 t1 f1 (1,0) = lin 6 t2 f2 (1,0) → lin 6 t1 f1 (0,1) = lin 6 t2 f2 (0,1) → t1 = t2 ∧ f1 = f2 := by decide +kernel
theorem lin_inj {g : Int} (hg : G g) {t1 t2 : Nat} {f1 f2 : Bool} (h1 : t1 < g.toNat) (h2 : t2 < g.toNat) (e1 : lin g t1 f1 (1,0) = lin g t2 f2 (1,0)) (e2 : lin g t1 f1 (0,1) = lin g t2 f2 (0,1)) : t1 = t2 ∧ f1 = f2 := by
  rcases hg with rfl | rfl
  · have := lin_inj4 ⟨t1, h1⟩ ⟨t2, h2⟩ f1 f2 e1 e2; simpa using this
  · have := lin_inj6 ⟨t1, h1⟩ ⟨t2, h2⟩ f1 f2 e1 e2; simpa using this
theorem add_cancel {a b c : Pt} (h : add a c = add b c) : a = b := by
  simp only [add, Prod.mk.injEq] at h
  exact ext2 (by omega) (by omega)
theorem tn_zero (g : Int) (k : Nat) : tn g k (0,0) = (0,0) := by
  induction k with
  | zero => rfl
  | succ k ih => rw [tn, ih, turn_zero]
theorem lin_zero (g : Int) (t : Nat) (f : Bool) : lin g t f (0,0) = (0,0) := by
  have e : mir g f (0,0) = (0,0) := by cases f <;> simp [mir, conj, miX]
  rw [lin, e, tn_zero]
theorem To_zero (g : Int) (m : Mv) : To g m (0,0) = m.o := by rw [To, lin_zero]; simp [add]
theorem ext_maps {g : Int} (hg : G g) {m n : Mv} (hm : okT g m) (hn : okT g n) (h : ∀ z, To g m z = To g n z) : m = n := by
  have h0 := h (0,0)
  rw [To_zero, To_zero] at h0
  have h1 := h (1,0)
  have h2 := h (0,1)
  simp only [To, h0] at h1 h2
  obtain ⟨e1, e2⟩ := lin_inj hg hm hn (add_cancel h1) (add_cancel h2)
  cases m; cases n; simp_all
theorem both_assoc {g : Int} (hg : G g) {f h k : Mv} (hh : okT g h) (hk : okT g k) : both g (both g f h) k = both g f (both g h k) :=
  ext_maps hg (both_ok hg _ _) (both_ok hg _ _) fun z => by rw [To_both hg hk, To_both hg hh, To_both hg (both_ok hg _ _), To_both hg hk]
def neg (p : Pt) : Pt := (-p.1, -p.2)
def invT (g : Int) (f : Mv) : Nat := if f.f then f.t else (g.toNat - f.t) % g.toNat
def inv (g : Int) (f : Mv) : Mv := ⟨invT g f, f.f, neg (lin g (invT g f) f.f f.o)⟩
theorem inv_ok {g : Int} (hg : G g) {f : Mv} (hf : okT g f) : okT g (inv g f) := by
  have : 0 < g.toNat := by rcases hg with rfl | rfl <;> decide
  unfold okT inv invT at *
  simp only
  split
  · exact hf
  · exact Nat.mod_lt _ this
theorem neg_eq (g : Int) (p : Pt) : add p (neg p) = (0,0) ∧ add (neg p) p = (0,0) := by
  constructor <;> apply ext2 <;> simp [add, neg] <;> omega
theorem bothT_inv {g : Int} (hg : G g) {f : Mv} (hf : okT g f) : bothT g (inv g f) f = 0 ∧ bothT g f (inv g f) = 0 := by
  unfold okT at hf
  have hm : ∀ a, a < g.toNat → ((g.toNat - a) % g.toNat + a) % g.toNat = 0 := by
    intro a ha
    rw [Nat.mod_add_mod, Nat.sub_add_cancel (by omega), Nat.mod_self]
  have hm2 : ∀ a, a < g.toNat → (a + (g.toNat - a)) % g.toNat = 0 := by
    intro a ha
    rw [show a + (g.toNat - a) = g.toNat by omega, Nat.mod_self]
  cases e : f.f
  · simp only [bothT, inv, invT, e, Bool.false_eq_true, if_false]
    exact ⟨hm _ hf, by rw [Nat.add_comm]; exact hm _ hf⟩
  · simp only [bothT, inv, invT, e, if_true]
    exact ⟨hm2 _ hf, hm2 _ hf⟩
theorem both_inv {g : Int} (hg : G g) {f : Mv} (hf : okT g f) : both g (inv g f) f = idm ∧ both g f (inv g f) = idm := by
  have hb := bothT_inv hg hf
  constructor
  · unfold both
    rw [hb.1]
    have e2 : ((inv g f).f ^^ f.f) = false := by simp [inv]
    have e3 : To g (inv g f) f.o = (0,0) := (neg_eq g _).1
    rw [e2, e3]; rfl
  · unfold both
    rw [hb.2]
    have e2 : (f.f ^^ (inv g f).f) = false := by simp [inv]
    have e3 : To g f (inv g f).o = (0,0) := by
      have hl := lin_both hg (f := f) (h := inv g f) (inv_ok hg hf) f.o
      rw [hb.2, e2] at hl
      have h4 : lin g f.t f.f (lin g (inv g f).t (inv g f).f f.o) = f.o := by rw [← hl]; rfl
      have h5 : add (lin g f.t f.f (lin g (inv g f).t (inv g f).f f.o)) (lin g f.t f.f (inv g f).o) = (0,0) := by
        rw [← lin_add]
        have : add (lin g (inv g f).t (inv g f).f f.o) (inv g f).o = (0,0) := (neg_eq g _).1
        rw [this, lin_zero]
      rw [h4] at h5
      unfold To
      simp only [add, Prod.mk.injEq] at h5 ⊢
      omega
    rw [e2, e3]; rfl
/-- A move done so often. -/
def pw (g : Int) (f : Mv) : Nat → Mv
  | 0 => idm
  | n + 1 => both g f (pw g f n)
theorem idm_ok {g : Int} (hg : G g) : okT g idm := by rcases hg with rfl | rfl <;> simp [okT, idm]
theorem pw_ok {g : Int} (hg : G g) (f : Mv) (n : Nat) : okT g (pw g f n) := by
  cases n with
  | zero => exact idm_ok hg
  | succ n => exact both_ok hg _ _
theorem pw_one {g : Int} {f : Mv} (hf : okT g f) : pw g f 1 = f := by
  unfold okT at hf
  obtain ⟨t, fl, o⟩ := f
  have e : To g ⟨t, fl, o⟩ (0,0) = o := To_zero g _
  simp only [pw, both, idm, e, Bool.xor_false, Mv.mk.injEq, and_true]
  unfold bothT
  simp only [Nat.sub_zero, Nat.add_mod_right, Nat.add_zero, ite_self]
  exact Nat.mod_eq_of_lt hf
/-- On squares four times tell it. -/
theorem pw_four {f : Mv} (hf : okT 4 f) (h : ∀ n, 1 ≤ n → n ≤ 4 → pw 4 f n ≠ idm) : pw 4 f 5 ≠ idm ∧ pw 4 f 6 ≠ idm := by
  have h1 := h 1 (by omega) (by omega); have h2 := h 2 (by omega) (by omega); have h3 := h 3 (by omega) (by omega); have h4 := h 4 (by omega) (by omega)
  clear h
  obtain ⟨t, fl, x, y⟩ := f
  have ht : t = 0 ∨ t = 1 ∨ t = 2 ∨ t = 3 := by simp only [okT] at hf; omega
  rcases ht with rfl | rfl | rfl | rfl <;> cases fl <;> simp [pw, both, bothT, idm, To, lin, mir, tn, turn, conj, miX, add] at * <;> omega
theorem nrm_add_le {g : Int} (hg : G g) (a r : Pt) : nrm g (add a r) ≤ 2 * nrm g a + 2 * nrm g r := by
  have h := nrm_nonneg hg (sub a r)
  have e : nrm g (sub a r) + nrm g (add a r) = 2 * nrm g a + 2 * nrm g r := by
    rcases hg with rfl | rfl
    · simp only [nrm4, sub, add]; grind
    · simp only [nrm6, sub, add]; grind
  omega
theorem nrm_lin {g : Int} (hg : G g) (t : Nat) (f : Bool) (z : Pt) : nrm g (lin g t f z) = nrm g z := by
  cases f
  · exact nrm_tn hg t z
  · simp only [lin, mir, if_true]; rw [nrm_tn hg, nrm_conj hg]
theorem nrm_To {g : Int} (hg : G g) (m : Mv) (z : Pt) : nrm g (To g m z) ≤ 2 * nrm g z + 2 * nrm g m.o := by
  have := nrm_add_le hg (lin g m.t m.f z) m.o
  rw [nrm_lin hg] at this
  exact this
theorem lin_sub (g : Int) (t : Nat) (f : Bool) (a b : Pt) : sub (lin g t f a) (lin g t f b) = lin g t f (sub a b) := by
  have h := lin_add g t f (sub a b) b
  have e : add (sub a b) b = a := by apply ext2 <;> simp [add, sub]
  rw [e] at h
  rw [h]; apply ext2 <;> simp [add, sub]
/-- A move keeps how far points are apart. -/
theorem nrm_apart {g : Int} (hg : G g) (m : Mv) (a b : Pt) : nrm g (sub (To g m a) (To g m b)) = nrm g (sub a b) := by
  have e : sub (To g m a) (To g m b) = sub (lin g m.t m.f a) (lin g m.t m.f b) := by apply ext2 <;> simp [To, add, sub] <;> omega
  rw [e, lin_sub, nrm_lin hg]
end Go.Proofs.Ytnjheiiohfhckaa.Z
