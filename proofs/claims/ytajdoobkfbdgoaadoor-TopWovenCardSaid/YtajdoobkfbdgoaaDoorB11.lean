/- Lemmas on which the law of this seat rests; each states its own conditions. -/
import Derived.Test.YtajdoobkfbdgoaaDoorB02
import Derived.Test.YtajdoobkfbdgoaaDoorB10
import Derived.Test.YtajdoobkfbdgoaaDoorB08
import Derived.Test.YtajdoobkfbdgoaaDoorB09
set_option linter.unusedVariables false
set_option linter.unusedSimpArgs false
namespace Go.Proofs.YtajdoobkfbdgoaaDoor
namespace Z
def latB (a b c : Int) (z : Pt) : Bool := decide (z.2 % b = 0) && decide ((z.1 - z.2 / b * c) % a = 0)
theorem latB_iff {a b c : Int} {z : Pt} : latB a b c z = true ↔ b ∣ z.2 ∧ a ∣ z.1 - z.2 / b * c := by
 unfold latB
 rw [Bool.and_eq_true, decide_eq_true_eq, decide_eq_true_eq]
 exact ⟨fun h => ⟨Int.dvd_of_emod_eq_zero h.1, Int.dvd_of_emod_eq_zero h.2⟩, fun h => ⟨Int.emod_eq_zero_of_dvd h.1, Int.emod_eq_zero_of_dvd h.2⟩⟩
theorem latB_stp {col : Pt → Int} {a b c : Int} (h : Fine (Stp col) a b c) (z : Pt) : latB a b c z = true ↔ Stp col z := by
 rw [latB_iff, h.spec (stp_sub col)]
def rf (g : Int) (t : Nat) (z : Pt) : Pt := lin g t true z
theorem rf_add (g : Int) (t : Nat) (y z : Pt) : rf g t (add y z) = add (rf g t y) (rf g t z) := lin_add _ _ _ _ _
theorem rf_sml (g k : Int) (t : Nat) (z : Pt) : rf g t (sml k z) = sml k (rf g t z) := lin_sml _ _ _ _ _
def al (g : Int) (t : Nat) (z : Pt) : Pt := add z (rf g t z)
theorem rf4 (t : Nat) (ht : t < 4) (x y : Int) : rf 4 t (x, y) = if t = 0 then (x, -y) else if t = 1 then (y, x) else if t = 2 then (-x, y) else (-y, -x) := by
 have h4 : t = 0 ∨ t = 1 ∨ t = 2 ∨ t = 3 := by omega
 rcases h4 with rfl | rfl | rfl | rfl <;> (apply ext2 <;> simp [rf, lin, mir, conj, miX, tn, turn])
theorem rf6 (t : Nat) (ht : t < 6) (x y : Int) : rf 6 t (x, y) = if t = 0 then (x + y, -y) else if t = 1 then (y, x) else if t = 2 then (-x, x + y) else if t = 3 then (-x - y, y) else if t = 4 then (-y, -x) else (x, -x - y) := by
 have h6 : t = 0 ∨ t = 1 ∨ t = 2 ∨ t = 3 ∨ t = 4 ∨ t = 5 := by omega
 rcases h6 with rfl | rfl | rfl | rfl | rfl | rfl <;> (apply ext2 <;> simp [rf, lin, mir, conj, miX, tn, turn] <;> omega)
theorem rf_bd {g : Int} (hg : G g) {t : Nat} (ht : t < g.toNat) {x y B : Int} (h : -B ≤ x ∧ x ≤ B ∧ -B ≤ y ∧ y ≤ B) : -(2 * B) ≤ (rf g t (x, y)).1 ∧ (rf g t (x, y)).1 ≤ 2 * B ∧ -(2 * B) ≤ (rf g t (x, y)).2 ∧ (rf g t (x, y)).2 ≤ 2 * B := by
 rcases hg with rfl | rfl
 ·rw [rf4 t ht]
  (repeat' split) <;> simp only <;> omega
 ·rw [rf6 t ht]
  (repeat' split) <;> simp only <;> omega
theorem al_lin (g : Int) (t : Nat) (x y : Int) : al g t (x, y) = add (sml x (al g t (1, 0))) (sml y (al g t (0, 1))) := by
 unfold al
 have e : (x, y) = add (sml x (1, 0)) (sml y (0, 1)) := by apply ext2 <;> simp [add, sml]
 have e2 : rf g t (x, y) = add (sml x (rf g t (1, 0))) (sml y (rf g t (0, 1))) := by
  conv => lhs; rw [e]
  rw [rf_add, rf_sml, rf_sml]
 rw [e2]
 apply ext2 <;> simp [add, sml, Int.mul_add] <;> omega
theorem al_some {g : Int} (hg : G g) {t : Nat} (ht : t < g.toNat) : al g t (1, 0) ≠ (0, 0) ∨ al g t (0, 1) ≠ (0, 0) := by
 rcases hg with rfl | rfl
 ·have : ∀ t : Fin 4, al 4 t.val (1, 0) ≠ (0, 0) ∨ al 4 t.val (0, 1) ≠ (0, 0) := by decide +kernel
  exact this ⟨t, ht⟩
 ·have : ∀ t : Fin 6, al 6 t.val (1, 0) ≠ (0, 0) ∨ al 6 t.val (0, 1) ≠ (0, 0) := by decide +kernel
  exact this ⟨t, ht⟩
theorem al_one {g : Int} (hg : G g) {t : Nat} (ht : t < g.toNat) {a b c : Int} (ha : 0 < a) (hb : 0 < b) (h0 : al g t (a, 0) = (0, 0)) : al g t (c, b) ≠ (0, 0) := by
 intro h1
 rw [al_lin] at h0 h1
 have e0 : al g t (1, 0) = (0, 0) := by
  have p : a * (al g t (1, 0)).1 + 0 * (al g t (0, 1)).1 = 0 := congrArg Prod.fst h0
  have q : a * (al g t (1, 0)).2 + 0 * (al g t (0, 1)).2 = 0 := congrArg Prod.snd h0
  rw [Int.zero_mul, Int.add_zero] at p q
  exact ext2 ((Int.mul_eq_zero.1 p).resolve_left (by omega)) ((Int.mul_eq_zero.1 q).resolve_left (by omega))
 rw [e0] at h1
 have e1 : al g t (0, 1) = (0, 0) := by
  have p : c * 0 + b * (al g t (0, 1)).1 = 0 := congrArg Prod.fst h1
  have q : c * 0 + b * (al g t (0, 1)).2 = 0 := congrArg Prod.snd h1
  rw [Int.mul_zero, Int.zero_add] at p q
  exact ext2 ((Int.mul_eq_zero.1 p).resolve_left (by omega)) ((Int.mul_eq_zero.1 q).resolve_left (by omega))
 rcases al_some hg ht with h | h
 ·exact h e0
 ·exact h e1
theorem stp_lin {g : Int} (hg : G g) {col : Pt → Int} {m : Mv} (hm : okT g m) (hk : Keep g col m) {z : Pt} (hz : Stp col z) : Stp col (lin g m.t m.f z) := by
 intro p
 have hi := both_inv hg hm
 have e : To g m (To g (inv g m) p) = p := by rw [← To_both hg (inv_ok hg hm), hi.2, To_idm]
 generalize To g (inv g m) p = q at e
 subst e
 have e2 : add (To g m q) (lin g m.t m.f z) = To g m (add q z) := by
  unfold To
  rw [lin_add]
  apply ext2 <;> simp [add] <;> omega
 rw [e2, hk, hz, hk]
theorem stp_al {g : Int} (hg : G g) {col : Pt → Int} {m : Mv} (hm : okT g m) (hk : Keep g col m) (hf : m.f = true) {z : Pt} (hz : Stp col z) : Stp col (al g m.t z) := by
 have := stp_lin hg hm hk hz
 rw [hf] at this
 exact (stp_sub col).add _ _ hz this
def dvN (a b c : Int) (v : Pt) (n : Nat) : Bool := decide (v.1 % (n : Int) = 0) && decide (v.2 % (n : Int) = 0) && latB a b c (v.1 / (n : Int), v.2 / (n : Int))
def shoN (a b c : Int) (v : Pt) : Nat → Nat
 | 0 => 0
 | n + 1 => if dvN a b c v (n + 1) then n + 1 else shoN a b c v n
def szP (v : Pt) : Nat := v.1.natAbs + v.2.natAbs
def shoP (a b c : Int) (v : Pt) : Pt := (v.1 / ((shoN a b c v (szP v) : Nat) : Int), v.2 / ((shoN a b c v (szP v) : Nat) : Int))
theorem shoN_spec {a b c : Int} {v : Pt} (h1 : dvN a b c v 1 = true) : ∀ n, 1 ≤ n → 1 ≤ shoN a b c v n ∧ shoN a b c v n ≤ n ∧ dvN a b c v (shoN a b c v n) = true
 | 0, h => by omega
 | n + 1, _ => by
  rw [shoN]
  split
  ·rename_i h
   exact ⟨by omega, Nat.le_refl _, h⟩
  ·rename_i h
   by_cases hn : n = 0
   ·subst hn
    exact absurd h1 h
   ·have := shoN_spec h1 n (by omega)
    exact ⟨this.1, by omega, this.2.2⟩
theorem dvN_one {a b c : Int} {v : Pt} (h : latB a b c v = true) : dvN a b c v 1 = true := by
 unfold dvN
 simp [Int.emod_one, Int.ediv_one]
 exact h
theorem szP_pos {v : Pt} (h : v ≠ (0, 0)) : 1 ≤ szP v := by
 unfold szP
 by_cases h1 : v.1 = 0
 ·by_cases h2 : v.2 = 0
  ·exact absurd (ext2 h1 h2) h
  ·omega
 ·omega
theorem shoP_spec {a b c : Int} {v : Pt} (hv : v ≠ (0, 0)) (h : latB a b c v = true) : latB a b c (shoP a b c v) = true ∧ shoP a b c v ≠ (0, 0) ∧ ∃ n : Nat, 1 ≤ n ∧ v = sml n (shoP a b c v) := by
 obtain ⟨h1, h2, h3⟩ := shoN_spec (dvN_one h) (szP v) (szP_pos hv)
 unfold dvN at h3
 rw [Bool.and_eq_true, Bool.and_eq_true, decide_eq_true_eq, decide_eq_true_eq] at h3
 obtain ⟨⟨h3, h4⟩, h5⟩ := h3
 have e : v = sml ((shoN a b c v (szP v) : Nat) : Int) (shoP a b c v) := by
  unfold shoP
  apply ext2
  ·simp only [sml]
   exact (Int.mul_ediv_cancel' (Int.dvd_of_emod_eq_zero h3)).symm
  ·simp only [sml]
   exact (Int.mul_ediv_cancel' (Int.dvd_of_emod_eq_zero h4)).symm
 refine ⟨h5, fun h0 => ?_, _, h1, e⟩
 rw [h0] at e
 exact hv (by rw [e]; apply ext2 <;> simp [sml])
def tms (z p : Pt) : Int := if p.1 ≠ 0 then Int.tdiv z.1 p.1 else Int.tdiv z.2 p.2
def wayP (g a b c : Int) (f : Mv) : Bool × Bool :=
 let a0 := al g f.t (a, 0)
 let a1 := al g f.t (c, b)
 let p := shoP a b c (if a0 = (0, 0) then a1 else a0)
 if Int.tmod (tms a0 p) 2 ≠ 0 ∨ Int.tmod (tms a1 p) 2 ≠ 0 then (true, true) else
  (decide (Int.tmod (tms (both g f f).o p) 2 = 0), !decide (Int.tmod (tms (both g f f).o p) 2 = 0))
def turnS (T : List Nat) (f : Mv) : List Nat := if f.f = true ∨ f.t ∈ T then T else T ++ [f.t]
def turnsF (L : List Mv) : List Nat := L.foldl turnS []
def wayS (g a b c : Int) (E : List (Nat × Bool × Bool)) (f : Mv) : List (Nat × Bool × Bool) := if f.f = false ∨ (E.any fun e => e.1 == f.t) = true then E else E ++ [(f.t, wayP g a b c f)]
def waysF (g a b c : Int) (L : List Mv) : List (Nat × Bool × Bool) := L.foldl (wayS g a b c) []
theorem turnS_nodup {T : List Nat} (h : T.Nodup) (f : Mv) : (turnS T f).Nodup := by
 unfold turnS
 split
 ·exact h
 ·rename_i hn
  rw [List.nodup_append]
  refine ⟨h, by simp, ?_⟩
  intro x hx y hy e
  simp at hy
  subst hy e
  exact hn (.inr hx)
theorem turnsF_snoc (L : List Mv) (f : Mv) : turnsF (L ++ [f]) = turnS (turnsF L) f := by
 unfold turnsF
 rw [List.foldl_append]
 rfl
theorem waysF_snoc (g a b c : Int) (L : List Mv) (f : Mv) : waysF g a b c (L ++ [f]) = wayS g a b c (waysF g a b c L) f := by
 unfold waysF
 rw [List.foldl_append]
 rfl
def kindP (tn : Nat) (al9 : Bool) (E : List (Nat × Bool × Bool)) : Int :=
 if tn = 1 then (if E = [] then 1 else if (∀ e ∈ E, e.2 = (true, false)) then 3 else if (∀ e ∈ E, e.2 = (false, true)) then 4 else 5)
 else if tn = 2 then (if E = [] then 2 else if (∀ e ∈ E, e.2 = (true, false)) then 6 else if (∀ e ∈ E, e.2 = (false, true)) then 8 else if (∀ e ∈ E, e.2 = (true, true)) then 9 else 7)
 else if tn = 3 then (if E = [] then 13 else if al9 = true then 15 else 14)
 else if tn = 4 then (if E = [] then 10 else if (∀ e ∈ E, e.2.1 = true) then 11 else 12)
 else if E = [] then 16 else 17
end Z
namespace Z
def LineP (g : Int) (col : Pt → Int) (t : Nat) (o : Pt) : Prop := ∃ s, Stp col s ∧ rf g t s = s ∧ add (al g t o) (add s s) = (0, 0)
def MirC (g : Int) (col : Pt → Int) (t : Nat) : Prop := ∃ o, Keep g col ⟨t, true, o⟩ ∧ LineP g col t o
def GliC (g : Int) (col : Pt → Int) (t : Nat) : Prop := ∃ o, Keep g col ⟨t, true, o⟩ ∧ ¬ LineP g col t o
section
variable {g : Int} {col : Pt → Int} {t : Nat} {a b c : Int}
end
end Z
section
open Go.RowKit
open Z (torN place pnt Mv To lin okT nrm both idm md stepB)
@[go_sem] theorem mv_field2 (a b c d : Value) (w : World) : (Instr.field 56 (.agg #[a, b, c, d]) 2).run Tryd.prog w = .ok (.agg #[c, d]) w := by kernel_rfl
end
section
open Go.RowKit
open Z (torN place pnt Mv To lin okT nrm both idm md stepB)
structure BoxM (fb : Nat) (m : Mv) (v : Value) (w : World) : Prop where
 c0 : w.cell? ⟨fb, 0, none⟩ = some (.int .i64 (m.t : Int))
 c1 : w.cell? ⟨fb, 1, none⟩ = some (.bool m.f)
 c2 : w.cell? ⟨fb, 2, none⟩ = some (.int .i64 m.o.1)
 c3 : w.cell? ⟨fb, 3, none⟩ = some (.int .i64 m.o.2)
 lt : fb < w.heap.size
 ne : v.ownBlock ≠ some fb
def shM (n : Int) (m : Mv) (i j : Int) : Mv := ⟨m.t, m.f, (m.o.1 + n * i, m.o.2 + n * j)⟩
end
section
open Go.RowKit
open Z (torN place pnt Mv To lin okT nrm both idm md stepB)
structure MvsOk (g : Int) (L : List Mv) : Prop where
 t : ∀ m ∈ L, m.t < g.toNat
 o : ∀ m ∈ L, (0 ≤ m.o.1 ∧ m.o.1 ≤ 24) ∧ (0 ≤ m.o.2 ∧ m.o.2 ≤ 24)
end
section
open Go.RowKit
open Z (torN place pnt Mv To lin okT nrm both idm md stepB)
structure MvsB (g : Int) (L : List Mv) : Prop where
 t : ∀ m ∈ L, m.t < g.toNat
 o : ∀ m ∈ L, (-200 ≤ m.o.1 ∧ m.o.1 ≤ 200) ∧ (-200 ≤ m.o.2 ∧ m.o.2 ≤ 200)
end
section
open Go.RowKit
open Z (torN place pnt Mv To lin okT nrm both idm md stepB)
end
section
open Go.RowKit
open Z (torN place pnt Mv To lin okT nrm both idm md stepB)
end
section
open Go.RowKit
open Z (torN place pnt Mv To lin okT nrm both idm md stepB)
def q3 (n : Int) (m : Mv) (k : Nat) : Mv := shM n m (((k % 3 : Nat) : Int) - 1) (((k / 3 : Nat) : Int) - 1)
end
section
open Go.RowKit
open Z (torN place pnt Mv To lin okT nrm both idm md stepB)
end
namespace Z
theorem mem_turnsF (L : List Mv) : ∀ (T : List Nat) (t : Nat), t ∈ L.foldl turnS T ↔ t ∈ T ∨ ∃ m ∈ L, m.f = false ∧ m.t = t := by
 induction L with
 | nil => intro T t; simp
 | cons a L ih =>
  intro T t
  rw [List.foldl_cons, ih]
  have e : t ∈ turnS T a ↔ t ∈ T ∨ (a.f = false ∧ a.t = t) := by
   unfold turnS
   split
   ·rename_i h
    constructor
    ·exact .inl
    ·rintro (h2 | ⟨h2, h3⟩)
     ·exact h2
     ·rcases h with h | h
      ·rw [h] at h2; cases h2
      ·rw [← h3]; exact h
   ·rename_i h
    rw [List.mem_append, List.mem_singleton]
    have hf : a.f = false := by
     cases h9 : a.f
     ·rfl
     ·exact absurd (.inl h9) h
    constructor
    ·rintro (h2 | h2)
     ·exact .inl h2
     ·exact .inr ⟨hf, h2.symm⟩
    ·rintro (h2 | h2)
     ·exact .inl h2
     ·exact .inr h2.2.symm
  rw [e]
  constructor
  ·rintro ((h | h) | ⟨m, hm, h⟩)
   ·exact .inl h
   ·exact .inr ⟨a, List.mem_cons_self .., h⟩
   ·exact .inr ⟨m, List.mem_cons_of_mem _ hm, h⟩
  ·rintro (h | ⟨m, hm, h⟩)
   ·exact .inl (.inl h)
   ·rcases List.mem_cons.1 hm with rfl | hm
    ·exact .inl (.inr h)
    ·exact .inr ⟨m, hm, h⟩
theorem nodup_turnsF (L : List Mv) : ∀ (T : List Nat), T.Nodup → (L.foldl turnS T).Nodup := by
 induction L with
 | nil => intro T h; exact h
 | cons a L ih => intro T h; exact ih _ (turnS_nodup h a)
theorem any_keys {E : List (Nat × Bool × Bool)} {t : Nat} : (E.any fun e => e.1 == t) = true ↔ t ∈ E.map (·.1) := by
 rw [List.any_eq_true, List.mem_map]
 constructor
 ·rintro ⟨e, he, h⟩
  exact ⟨e, he, eq_of_beq h⟩
 ·rintro ⟨e, he, h⟩
  exact ⟨e, he, by rw [h]; exact beq_self_eq_true _⟩
theorem mem_waysF (g a b c : Int) (L : List Mv) : ∀ (E : List (Nat × Bool × Bool)) (t : Nat), t ∈ (L.foldl (wayS g a b c) E).map (·.1) ↔ t ∈ E.map (·.1) ∨ ∃ m ∈ L, m.f = true ∧ m.t = t := by
 induction L with
 | nil => intro T t; simp
 | cons x L ih =>
  intro T t
  rw [List.foldl_cons, ih]
  have e : t ∈ (wayS g a b c T x).map (·.1) ↔ t ∈ T.map (·.1) ∨ (x.f = true ∧ x.t = t) := by
   unfold wayS
   split
   ·rename_i h
    constructor
    ·exact .inl
    ·rintro (h2 | ⟨h2, h3⟩)
     ·exact h2
     ·rcases h with h | h
      ·rw [h] at h2; cases h2
      ·rw [← h3]; exact any_keys.1 h
   ·rename_i h
    rw [List.map_append, List.mem_append, List.map_singleton, List.mem_singleton]
    have hf : x.f = true := by
     cases h9 : x.f
     ·exact absurd (.inl h9) h
     ·rfl
    constructor
    ·rintro (h2 | h2)
     ·exact .inl h2
     ·exact .inr ⟨hf, h2.symm⟩
    ·rintro (h2 | h2)
     ·exact .inl h2
     ·exact .inr h2.2.symm
  rw [e]
  constructor
  ·rintro ((h | h) | ⟨m, hm, h⟩)
   ·exact .inl h
   ·exact .inr ⟨x, List.mem_cons_self .., h⟩
   ·exact .inr ⟨m, List.mem_cons_of_mem _ hm, h⟩
  ·rintro (h | ⟨m, hm, h⟩)
   ·exact .inl (.inl h)
   ·rcases List.mem_cons.1 hm with rfl | hm
    ·exact .inl (.inr h)
    ·exact .inr ⟨m, hm, h⟩
theorem mem_turns {L : List Mv} {t : Nat} : t ∈ turnsF L ↔ ∃ m ∈ L, m.f = false ∧ m.t = t := by
 unfold turnsF
 rw [mem_turnsF]
 simp
theorem mem_ways {g a b c : Int} {L : List Mv} {t : Nat} : t ∈ (waysF g a b c L).map (·.1) ↔ ∃ m ∈ L, m.f = true ∧ m.t = t := by
 unfold waysF
 rw [mem_waysF]
 simp
theorem waysF_nil {g a b c : Int} {L : List Mv} : waysF g a b c L = [] ↔ ∀ m ∈ L, m.f = false := by
 constructor
 ·intro h m hm
  cases h9 : m.f
  ·rfl
  ·have : m.t ∈ (waysF g a b c L).map (·.1) := mem_ways.2 ⟨m, hm, h9, rfl⟩
   rw [h] at this
   simp at this
 ·intro h
  cases h9 : waysF g a b c L with
  | nil => rfl
  | cons e E =>
   have : e.1 ∈ (waysF g a b c L).map (·.1) := by rw [h9]; simp
   obtain ⟨m, hm, h1, _⟩ := mem_ways.1 this
   rw [h m hm] at h1
   cases h1
theorem nod_length {T : List Nat} {g : Nat} (hn : T.Nodup) (hb : ∀ t ∈ T, t < g) : T.length = (List.range g).countP fun v => decide (v ∈ T) := by
 rw [List.countP_eq_length_filter]
 refine List.Perm.length_eq ?_
 rw [List.perm_ext_iff_of_nodup hn (List.Pairwise.filter _ List.nodup_range)]
 intro t
 rw [List.mem_filter, List.mem_range, decide_eq_true_eq]
 exact ⟨fun h => ⟨hb t h, h⟩, fun h => h.2⟩
section
variable {g : Nat} {n : Nat} {col : Pt → Int} {L : List Mv}
def hasT (L : List Mv) (f : Bool) (t : Nat) : Bool := L.any (keyB t f)
theorem hasT_iff {L : List Mv} {f : Bool} {t : Nat} : hasT L f t = true ↔ ∃ m ∈ L, m.f = f ∧ m.t = t := by
 unfold hasT
 rw [List.any_eq_true]
 exact ⟨fun ⟨m, h, k⟩ => ⟨m, h, (keyB_iff.1 k).2, (keyB_iff.1 k).1⟩, fun ⟨m, h, k1, k2⟩ => ⟨m, h, keyB_iff.2 ⟨k2, k1⟩⟩⟩
theorem turns_len (h : Grp (g : Int) n col L) : (turnsF L).length = (List.range g).countP (hasT L false) := by
 rw [nod_length (g := g) (T := turnsF L) (nodup_turnsF L [] List.nodup_nil) (fun t ht => by
  obtain ⟨m, hm, _, rfl⟩ := mem_turns.1 ht
  have := h.ok hm; unfold okT at this; omega)]
 refine List.countP_congr fun v _ => ?_
 rw [decide_eq_true_eq, mem_turns, hasT_iff]
theorem sort_count (h : Grp (g : Int) n col L) (hg : G (g : Int)) (hn : 0 < n) (hp : Per n col) (f : Bool) : L.countP (fun m => m.f == f) = (List.range g).countP (hasT L f) * (torusL n).countP (stepB L) := by
 rw [← sumL_countP, List.countP_eq_length_filter, length_by g (fun m => m.t) g (L.filter fun m => m.f == f) (fun x hx => by
  have := h.ok (List.mem_filter.1 hx).1; unfold okT at this; omega)]
 refine sumL_congr fun v _ => ?_
 rw [List.countP_filter]
 have e : L.countP (fun a => a.t == v && a.f == f) = L.countP (keyB v f) := List.countP_congr fun x _ => by
  rw [keyB_iff, Bool.and_eq_true, beq_iff_eq, beq_iff_eq]
 rw [e]
 cases hv : hasT L f v with
 | false =>
  rw [if_neg (by simp), List.countP_eq_zero]
  intro x hx e
  have : hasT L f v = true := hasT_iff.2 ⟨x, hx, (keyB_iff.1 e).2, (keyB_iff.1 e).1⟩
  rw [hv] at this
  cases this
 | true =>
  rw [if_pos rfl]
  obtain ⟨m, hm, rfl, rfl⟩ := hasT_iff.1 hv
  exact block_count h hg hn hp hm
theorem hasT_mul (h : Grp (g : Int) n col L) (hg : G (g : Int)) (hn : 0 < n) (hp : Per n col) {p q : Bool} {i j : Nat} (hi : hasT L p i = true) (hj : hasT L q j = true) : hasT L (p ^^ q) ((if p then i + (g - j) else i + j) % g) = true := by
 obtain ⟨x, hx, rfl, rfl⟩ := hasT_iff.1 hi
 obtain ⟨y, hy, rfl, rfl⟩ := hasT_iff.1 hj
 refine hasT_iff.2 ⟨_, h.mul hg (by omega) hp hx hy, rfl, ?_⟩
 show bothT g x y = _
 unfold bothT
 split <;> simp
end
def clB (g : Nat) (bs cs : List Bool) : Bool :=
 bs.getD 0 false && (List.range g).all fun i => (List.range g).all fun j =>
  (!(bs.getD i false && bs.getD j false) || bs.getD ((i + j) % g) false) && (!(bs.getD i false && cs.getD j false) || cs.getD ((i + j) % g) false) &&
  (!(cs.getD i false && cs.getD j false) || bs.getD ((i + (g - j)) % g) false) && (!(cs.getD i false && bs.getD j false) || cs.getD ((i + (g - j)) % g) false)
def gdB (g : Nat) (bs cs : List Bool) : Bool :=
 let t := bs.countP id
 let f := cs.countP id
 (if g == 4 then t == 1 || t == 2 || t == 4 else t == 1 || t == 2 || t == 3 || t == 6) && (f == 0 || f == t)
theorem cl4 : ∀ b1 b2 b3 c0 c1 c2 c3 : Bool, clB 4 [true, b1, b2, b3] [c0, c1, c2, c3] = true → gdB 4 [true, b1, b2, b3] [c0, c1, c2, c3] = true := by decide +kernel
theorem cl6 : ∀ b1 b2 b3 b4 b5 c0 c1 c2 c3 c4 c5 : Bool, clB 6 [true, b1, b2, b3, b4, b5] [c0, c1, c2, c3, c4, c5] = true → gdB 6 [true, b1, b2, b3, b4, b5] [c0, c1, c2, c3, c4, c5] = true := by decide +kernel
section
variable {g : Nat} {n : Nat} {col : Pt → Int} {L : List Mv}
theorem sorts (h : Grp (g : Int) n col L) (hg : G (g : Int)) (hn : 0 < n) (hp : Per n col) : gdB g ((List.range g).map (hasT L false)) ((List.range g).map (hasT L true)) = true := by
 have h0 : hasT L false 0 = true := hasT_iff.2 ⟨idm, h.one hg (by omega), rfl, rfl⟩
 have hget : ∀ (p : Bool) i, i < g → ((List.range g).map (hasT L p)).getD i false = hasT L p i := fun p i hi => by
  rw [List.getD_eq_getElem?_getD, List.getElem?_map, List.getElem?_range hi]
  rfl
 have hg0 : 0 < g := by rcases hg with e | e <;> omega
 have hcl : clB g ((List.range g).map (hasT L false)) ((List.range g).map (hasT L true)) = true := by
  unfold clB
  rw [Bool.and_eq_true, hget _ _ hg0]
  refine ⟨h0, ?_⟩
  rw [List.all_eq_true]
  intro i hi
  rw [List.all_eq_true]
  intro j hj
  rw [List.mem_range] at hi hj
  rw [hget _ _ hi, hget _ _ hi, hget _ _ hj, hget _ _ hj, hget _ _ (Nat.mod_lt _ hg0), hget _ _ (Nat.mod_lt _ hg0), hget _ _ (Nat.mod_lt _ hg0), hget _ _ (Nat.mod_lt _ hg0)]
  have m1 := fun a b => hasT_mul (p := false) (q := false) (i := i) (j := j) h hg hn hp a b
  have m2 := fun a b => hasT_mul (p := false) (q := true) (i := i) (j := j) h hg hn hp a b
  have m3 := fun a b => hasT_mul (p := true) (q := true) (i := i) (j := j) h hg hn hp a b
  have m4 := fun a b => hasT_mul (p := true) (q := false) (i := i) (j := j) h hg hn hp a b
  simp only [Bool.xor_self, Bool.false_xor, Bool.true_xor, Bool.not_false, Bool.not_true, if_true, if_false, Bool.false_eq_true] at m1 m2 m3 m4
  generalize hasT L false ((i + j) % g) = x1 at *
  generalize hasT L true ((i + j) % g) = x2 at *
  generalize hasT L false ((i + (g - j)) % g) = x3 at *
  generalize hasT L true ((i + (g - j)) % g) = x4 at *
  generalize hasT L false i = y1 at *
  generalize hasT L true i = y2 at *
  generalize hasT L false j = y3 at *
  generalize hasT L true j = y4 at *
  cases x1 <;> cases x2 <;> cases x3 <;> cases x4 <;> cases y1 <;> cases y2 <;> cases y3 <;> cases y4 <;> simp_all
 rcases hg with e | e
 ·obtain rfl : g = 4 := by omega
  have e1 : (List.range 4).map (hasT L false) = [true, hasT L false 1, hasT L false 2, hasT L false 3] := by rw [← h0]; rfl
  have e2 : (List.range 4).map (hasT L true) = [hasT L true 0, hasT L true 1, hasT L true 2, hasT L true 3] := rfl
  rw [e1, e2] at hcl ⊢
  exact cl4 _ _ _ _ _ _ _ hcl
 ·obtain rfl : g = 6 := by omega
  have e1 : (List.range 6).map (hasT L false) = [true, hasT L false 1, hasT L false 2, hasT L false 3, hasT L false 4, hasT L false 5] := by rw [← h0]; rfl
  have e2 : (List.range 6).map (hasT L true) = [hasT L true 0, hasT L true 1, hasT L true 2, hasT L true 3, hasT L true 4, hasT L true 5] := rfl
  rw [e1, e2] at hcl ⊢
  exact cl6 _ _ _ _ _ _ _ _ _ _ _ hcl
end
def tnK (k : Int) : Int := ([1, 2, 1, 1, 1, 2, 2, 2, 2, 4, 4, 4, 3, 3, 3, 6, 6] : List Int).getD (k.toNat - 1) 0
def flK (k : Int) : Int := if k = 1 ∨ k = 2 ∨ k = 10 ∨ k = 13 ∨ k = 16 then 0 else tnK k
theorem kind_turns {tn : Nat} (h : tn = 1 ∨ tn = 2 ∨ tn = 3 ∨ tn = 4 ∨ tn = 6) (al9 : Bool) (E : List (Nat × Bool × Bool)) : 1 ≤ kindP tn al9 E ∧ kindP tn al9 E ≤ 17 ∧ tnK (kindP tn al9 E) = tn ∧ flK (kindP tn al9 E) = if E = [] then 0 else tn := by
 unfold kindP
 rcases h with rfl | rfl | rfl | rfl | rfl <;> simp only [if_true, if_false, Nat.reduceEqDiff] <;> (by_cases hE : E = []) <;> simp only [hE, if_true, if_false] <;> (repeat' split) <;> (refine ⟨by decide, by decide, by rfl, by rfl⟩)
theorem counts_ok {g W H n : Nat} {cs : List Int} (hg : G (g : Int)) (hn : 0 < n) (hW : W ∣ n) (hH : H ∣ n) {a b : Nat} {c : Int} (hf : Fine (Stp (colP W H cs)) a b c) (al9 : Bool) {K : Int}
    (hK : kindP (turnsF (movesL W H cs g n)).length al9 (waysF g a b c (movesL W H cs g n)) = K) :
    1 ≤ K ∧ K ≤ 17 ∧ (g = 4 → tnK K ≠ 3 ∧ tnK K ≠ 6) ∧ (g = 6 → tnK K ≠ 4) ∧
    ∃ S : Nat, Int.tdiv ((n : Int) * n) ((a : Int) * b) = S ∧ ((movesL W H cs g n).countP (fun m => m.f == false) : Int) = tnK K * S ∧ ((movesL W H cs g n).countP (fun m => m.f == true) : Int) = flK K * S := by
  have grp := movesL_grp (cs := cs) (g := (g : Int)) hn hW hH
  have per := colP_per cs hW hH
  have hst := steps_count grp hg hn per hf
  have hT := turns_len grp
  have h1 := sort_count grp hg hn per false
  have h2 := sort_count grp hg hn per true
  have hs := sorts grp hg hn per
  have hE : waysF g a b c (movesL W H cs g n) = [] ↔ (List.range g).countP (hasT (movesL W H cs g n) true) = 0 := by
    rw [waysF_nil, List.countP_eq_zero]
    constructor
    · intro h v _ e
      obtain ⟨m, hm, h3, _⟩ := hasT_iff.1 e
      rw [h m hm] at h3
      cases h3
    · intro h m hm
      cases h9 : m.f
      · rfl
      · have := grp.ok hm
        unfold okT at this
        exact absurd (hasT_iff.2 ⟨m, hm, h9, rfl⟩) (h m.t (List.mem_range.2 (by omega)))
  generalize waysF g a b c (movesL W H cs g n) = E at *
  generalize (torusL n).countP (stepB (movesL W H cs g n)) = S at *
  have hab : 0 < a * b := by have := hf.a0; have := hf.b0; exact Nat.mul_pos (by omega) (by omega)
  have hdv : Int.tdiv ((n : Int) * n) ((a : Int) * b) = S := by
    rw [← Int.natCast_mul, ← Int.natCast_mul, ← hst]
    show ((S * (a * b) / (a * b) : Nat) : Int) = _
    rw [Nat.mul_div_cancel _ hab]
  unfold gdB at hs
  simp only [List.countP_map, Function.id_comp] at hs
  rw [← hT] at hs h1
  generalize (List.range g).countP (hasT (movesL W H cs g n) true) = f at *
  generalize (turnsF (movesL W H cs g n)).length = tn at *
  rw [Bool.and_eq_true] at hs
  obtain ⟨hs1, hs2⟩ := hs
  have hf2 : f = 0 ∨ f = tn := by simpa using hs2
  have htn : (g = 4 → tn = 1 ∨ tn = 2 ∨ tn = 4) ∧ (g = 6 → tn = 1 ∨ tn = 2 ∨ tn = 3 ∨ tn = 6) := by
    constructor
    · rintro rfl
      have : (tn = 1 ∨ tn = 2) ∨ tn = 4 := by simpa using hs1
      omega
    · rintro rfl
      have : ((tn = 1 ∨ tn = 2) ∨ tn = 3) ∨ tn = 6 := by simpa using hs1
      omega
  have hg2 : g = 4 ∨ g = 6 := by rcases hg with e | e <;> omega
  obtain ⟨k1, k2, k3, k4⟩ := kind_turns (tn := tn) (by rcases hg2 with e | e; (· have := htn.1 e; omega); (· have := htn.2 e; omega)) al9 E
  rw [hK] at k1 k2 k3 k4
  refine ⟨k1, k2, fun e => ?_, fun e => ?_, S, hdv, ?_, ?_⟩
  · rw [k3]; have := htn.1 e; omega
  · rw [k3]; have := htn.2 e; omega
  · rw [k3, h1]; push_cast; rfl
  · rw [k4, h2]
    rcases hf2 with e | e
    · rw [if_pos (hE.2 e), e]; simp
    · by_cases h0 : E = []
      · have := hE.1 h0
        rw [if_pos h0, this]; simp
      · rw [if_neg h0, e]; push_cast; rfl
end Z
section
open Go.RowKit
open Go.Proofs.YtajdoobkfbdgoaaDoor.Z
theorem tdiv_bdK {x y B : Int} (h : -B ≤ x ∧ x ≤ B) : -B ≤ Int.tdiv x y ∧ Int.tdiv x y ≤ B := by
 have h1 : (Int.tdiv x y).natAbs ≤ x.natAbs := by
  rw [Int.natAbs_tdiv]
  exact Nat.div_le_self _ _
 omega
theorem mul_bdK {x y A B : Int} (hx : -A ≤ x ∧ x ≤ A) (hy : 0 ≤ y ∧ y ≤ B) (hA : 0 ≤ A) : -(A * B) ≤ x * y ∧ x * y ≤ A * B := by
 have h1 : x * y ≤ A * y := Int.mul_le_mul_of_nonneg_right hx.2 hy.1
 have h2 : A * y ≤ A * B := Int.mul_le_mul_of_nonneg_left hy.2 hA
 have h3 : -A * y ≤ x * y := Int.mul_le_mul_of_nonneg_right hx.1 hy.1
 rw [Int.neg_mul] at h3
 omega
set_option maxRecDepth 100000 in
set_option maxHeartbeats 8000000 in
theorem ktimes_any (zx zy px py : Int) (w : World) (hz : (-1000 ≤ zx ∧ zx ≤ 1000) ∧ (-1000 ≤ zy ∧ zy ≤ 1000)) (hne : (px, py) ≠ (0, 0)) :
  Calls Tryd.prog 87 #[.agg #[.int .i64 (zx), .int .i64 (zy)], .agg #[.int .i64 (px), .int .i64 (py)]] w fun e w' => e = .returned (.int .i64 (tms (zx, zy) (px, py))) ∧ Below w.heap.size w w' := by
 have v1 : IntKind.i64.wrap (Int.tdiv zx px) = Int.tdiv zx px := IntWalk.i64_in _ (by have := tdiv_bdK (y := px) hz.1; omega)
 have v2 : IntKind.i64.wrap (Int.tdiv zy py) = Int.tdiv zy py := IntWalk.i64_in _ (by have := tdiv_bdK (y := py) hz.2; omega)
 go_enter Tryd.func87, Tryd.ntmps87
 by_cases h : px = 0
 ·have b1 : (px != 0) = false := by simpa using h
  have h2 : py ≠ 0 := fun h2 => hne (by rw [h, h2])
  have b2 : (py == 0) = false := by simpa using h2
  have HT : Hid (tms (zx, zy) (px, py) = Int.tdiv zy py) := Lib.hid (by unfold tms; rw [if_neg (by simpa using h)])
  go_wp2
  go_ret
  exact ⟨by rw [HT.out]; rfl, blw⟩
 ·have b1 : (px != 0) = true := by simpa using h
  have b2 : (px == 0) = false := by simpa using h
  have HT : Hid (tms (zx, zy) (px, py) = Int.tdiv zx px) := Lib.hid (by unfold tms; rw [if_pos (by simpa using h)])
  go_wp2
  go_ret
  exact ⟨by rw [HT.out]; rfl, blw⟩
theorem lfKd10 {P : Prop} (h : P := by
 go_wp2_with fail
 (refine wp_region_ext (by kernel_rfl) (by kernel_rfl) ?_; (repeat (first | ((with_reducible refine ext_step (fun K hK => ?_)); go_simp; first | (refine hK _ ?_; clear hK K) | (apply Exists.intro; refine ⟨fun _ _ => ?_, hK _ ?_⟩; fail; clear hK K)))); refine wpQuiet_nil ?_; intro E d)
 go_wp2
 go_ret
 exact ⟨by rw [HR.out]; rfl, blw⟩) : P := h
set_option maxRecDepth 100000 in
set_option maxHeartbeats 8000000 in
theorem khas_any (a b c : Nat) (x y : Int) (w : World) (ha : 0 < a ∧ a ≤ 24) (hb : 0 < b ∧ b ≤ 24) (hc : c ≤ 24) (hx : -1000 ≤ x ∧ x ≤ 1000) (hy : -1000 ≤ y ∧ y ≤ 1000) :
  Calls Tryd.prog 70 #[.agg #[.int .i64 (a), .int .i64 0, .int .i64 (c), .int .i64 (b)], .agg #[.int .i64 (x), .int .i64 (y)]] w fun e w' => e = .returned (.bool (latB a b c (x, y))) ∧ Below w.heap.size w w' := by
 obtain ⟨R, hR⟩ : ∃ R, latB a b c (x, y) = R := ⟨_, rfl⟩
 rw [hR]
 have b0 : ((b : Int) == 0) = false := by simp; omega
 have b0' : (b == 0) = false := by simp; omega
 have b0'' : (b : Int) ≠ 0 := by omega
 have b9 : ¬ b = 0 := by omega
 have a9 : ¬ a = 0 := by omega
 have a0 : ((a : Int) == 0) = false := by simp; omega
 have a0' : (a == 0) = false := by simp; omega
 go_enter Tryd.func70, Tryd.ntmps70
 by_cases h : Int.tmod y b = 0
 ·have hd : (b : Int) ∣ y := Int.dvd_of_tmod_eq_zero h
  have hq : Int.tdiv y b = y / b := Int.tdiv_eq_ediv_of_dvd hd
  have hqb : -1000 ≤ y / b ∧ y / b ≤ 1000 := by rw [← hq]; exact tdiv_bdK hy
  have hmb := mul_bdK hqb (show (0 : Int) ≤ (c : Int) ∧ (c : Int) ≤ 24 by omega) (by omega)
  have v0 : IntKind.i64.wrap (Int.tdiv y b) = y / b := by rw [hq]; exact IntWalk.i64_in _ (by omega)
  have v1 : IntKind.i64.wrap (y / b * c) = y / b * c := IntWalk.i64_in _ (by omega)
  have v2 : IntKind.i64.wrap (x - y / b * c) = x - y / b * c := IntWalk.i64_in _ (by omega)
  have HR : Hid (R = (Int.tmod (x - y / b * c) a == 0)) := Lib.hid (by
   rw [← hR]
   unfold latB
   rw [decide_eq_true (Int.emod_eq_zero_of_dvd hd), Bool.true_and]
   apply Bool.eq_iff_iff.2
   rw [decide_eq_true_eq, beq_iff_eq]
   exact ⟨fun h => Int.tmod_eq_zero_of_dvd (Int.dvd_of_emod_eq_zero h), fun h => Int.emod_eq_zero_of_dvd (Int.dvd_of_tmod_eq_zero h)⟩)
  have b1 : (Int.tmod y b == 0) = true := by simpa using h
  have v3 : IntKind.i64.wrap (y / b) = y / b := IntWalk.i64_in _ (by omega)
  have HH := Lib.hid hqb
  clear hR hd hqb hmb
  exact lfKd10
 ·have b1 : (Int.tmod y b == 0) = false := by simpa using h
  have HR : Hid (R = false) := Lib.hid (by
   rw [← hR]
   unfold latB
   rw [decide_eq_false (fun h2 => h (Int.tmod_eq_zero_of_dvd (Int.dvd_of_emod_eq_zero h2)))]
   rfl)
  clear hR h
  exact lfKd10
end
end Go.Proofs.YtajdoobkfbdgoaaDoor
