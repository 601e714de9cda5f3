/- Lemmas on which the law of this seat rests; each states its own conditions. -/
import Derived.Test.YtajdoobkfbdgoaaDoorC03
import Derived.Test.YtajdoobkfbdgoaaDoorC09
import Derived.Test.YtajdoobkfbdgoaaDoorC07
import Derived.Test.YtajdoobkfbdgoaaDoorC02
set_option linter.unusedVariables false
set_option linter.unusedSimpArgs false
namespace Go.Proofs.YtajdoobkfbdgoaaDoor
namespace Z
def latB (a b c : Int) (z : Pt) : Bool := decide (z.2 % b = 0) && decide ((z.1 - z.2 / b * c) % a = 0)
theorem latB_iff {a b c : Int} {z : Pt} : latB a b c z = true ↔ b ∣ z.2 ∧ a ∣ z.1 - z.2 / b * c := by
 unfold latB
 rw [Bool.and_eq_true, decide_eq_true_eq, decide_eq_true_eq]
 exact ⟨fun h => ⟨Int.dvd_of_emod_eq_zero h.1, Int.dvd_of_emod_eq_zero h.2⟩, fun h => ⟨Int.emod_eq_zero_of_dvd h.1, Int.emod_eq_zero_of_dvd h.2⟩⟩
theorem latB_stp {col : Pt → Int} {a b c : Int} (h : Fine (Stp col) a b c) (z : Pt) : latB a b c z = true ↔ Stp col z := by
 rw [latB_iff, h.spec (stp_sub col)]
def rf (g : Int) (t : Nat) (z : Pt) : Pt := lin g t true z
theorem rf_rf {g : Int} (hg : G g) (t : Nat) (z : Pt) : rf g t (rf g t z) = z := by
 unfold rf lin mir
 simp only [if_true]
 rw [tn_conj hg, conj_conj]
theorem rf_add (g : Int) (t : Nat) (y z : Pt) : rf g t (add y z) = add (rf g t y) (rf g t z) := lin_add _ _ _ _ _
theorem rf_sml (g k : Int) (t : Nat) (z : Pt) : rf g t (sml k z) = sml k (rf g t z) := lin_sml _ _ _ _ _
def al (g : Int) (t : Nat) (z : Pt) : Pt := add z (rf g t z)
theorem al_fix {g : Int} (hg : G g) (t : Nat) (z : Pt) : rf g t (al g t z) = al g t z := by
 unfold al
 rw [rf_add, rf_rf hg]
 apply ext2 <;> simp [add] <;> omega
theorem rf4 (t : Nat) (ht : t < 4) (x y : Int) : rf 4 t (x, y) = if t = 0 then (x, -y) else if t = 1 then (y, x) else if t = 2 then (-x, y) else (-y, -x) := by
 have h4 : t = 0 ∨ t = 1 ∨ t = 2 ∨ t = 3 := by omega
 rcases h4 with rfl | rfl | rfl | rfl <;> (apply ext2 <;> simp [rf, lin, mir, conj, miX, tn, turn])
theorem rf6 (t : Nat) (ht : t < 6) (x y : Int) : rf 6 t (x, y) = if t = 0 then (x + y, -y) else if t = 1 then (y, x) else if t = 2 then (-x, x + y) else if t = 3 then (-x - y, y) else if t = 4 then (-y, -x) else (x, -x - y) := by
 have h6 : t = 0 ∨ t = 1 ∨ t = 2 ∨ t = 3 ∨ t = 4 ∨ t = 5 := by omega
 rcases h6 with rfl | rfl | rfl | rfl | rfl | rfl <;> (apply ext2 <;> simp [rf, lin, mir, conj, miX, tn, turn] <;> omega)
theorem rf_bd {g : Int} (hg : G g) {t : Nat} (ht : t < g.toNat) {x y B : Int} (h : -B ≤ x ∧ x ≤ B ∧ -B ≤ y ∧ y ≤ B) : -(2 * B) ≤ (rf g t (x, y)).1 ∧ (rf g t (x, y)).1 ≤ 2 * B ∧ -(2 * B) ≤ (rf g t (x, y)).2 ∧ (rf g t (x, y)).2 ≤ 2 * B := by
 rcases hg with rfl | rfl
 ·rw [rf4 t ht]
  (repeat' split) <;> simp only <;> omega
 ·rw [rf6 t ht]
  (repeat' split) <;> simp only <;> omega
theorem al_lin (g : Int) (t : Nat) (x y : Int) : al g t (x, y) = add (sml x (al g t (1, 0))) (sml y (al g t (0, 1))) := by
 unfold al
 have e : (x, y) = add (sml x (1, 0)) (sml y (0, 1)) := by apply ext2 <;> simp [add, sml]
 have e2 : rf g t (x, y) = add (sml x (rf g t (1, 0))) (sml y (rf g t (0, 1))) := by
  conv => lhs; rw [e]
  rw [rf_add, rf_sml, rf_sml]
 rw [e2]
 apply ext2 <;> simp [add, sml, Int.mul_add] <;> omega
theorem al_some {g : Int} (hg : G g) {t : Nat} (ht : t < g.toNat) : al g t (1, 0) ≠ (0, 0) ∨ al g t (0, 1) ≠ (0, 0) := by
 rcases hg with rfl | rfl
 ·have : ∀ t : Fin 4, al 4 t.val (1, 0) ≠ (0, 0) ∨ al 4 t.val (0, 1) ≠ (0, 0) := by decide +kernel
  exact this ⟨t, ht⟩
 ·have : ∀ t : Fin 6, al 6 t.val (1, 0) ≠ (0, 0) ∨ al 6 t.val (0, 1) ≠ (0, 0) := by decide +kernel
  exact this ⟨t, ht⟩
theorem al_one {g : Int} (hg : G g) {t : Nat} (ht : t < g.toNat) {a b c : Int} (ha : 0 < a) (hb : 0 < b) (h0 : al g t (a, 0) = (0, 0)) : al g t (c, b) ≠ (0, 0) := by
 intro h1
 rw [al_lin] at h0 h1
 have e0 : al g t (1, 0) = (0, 0) := by
  have p : a * (al g t (1, 0)).1 + 0 * (al g t (0, 1)).1 = 0 := congrArg Prod.fst h0
  have q : a * (al g t (1, 0)).2 + 0 * (al g t (0, 1)).2 = 0 := congrArg Prod.snd h0
  rw [Int.zero_mul, Int.add_zero] at p q
  exact ext2 ((Int.mul_eq_zero.1 p).resolve_left (by omega)) ((Int.mul_eq_zero.1 q).resolve_left (by omega))
 rw [e0] at h1
 have e1 : al g t (0, 1) = (0, 0) := by
  have p : c * 0 + b * (al g t (0, 1)).1 = 0 := congrArg Prod.fst h1
  have q : c * 0 + b * (al g t (0, 1)).2 = 0 := congrArg Prod.snd h1
  rw [Int.mul_zero, Int.zero_add] at p q
  exact ext2 ((Int.mul_eq_zero.1 p).resolve_left (by omega)) ((Int.mul_eq_zero.1 q).resolve_left (by omega))
 rcases al_some hg ht with h | h
 ·exact h e0
 ·exact h e1
theorem stp_lin {g : Int} (hg : G g) {col : Pt → Int} {m : Mv} (hm : okT g m) (hk : Keep g col m) {z : Pt} (hz : Stp col z) : Stp col (lin g m.t m.f z) := by
 intro p
 have hi := both_inv hg hm
 have e : To g m (To g (inv g m) p) = p := by rw [← To_both hg (inv_ok hg hm), hi.2, To_idm]
 generalize To g (inv g m) p = q at e
 subst e
 have e2 : add (To g m q) (lin g m.t m.f z) = To g m (add q z) := by
  unfold To
  rw [lin_add]
  apply ext2 <;> simp [add] <;> omega
 rw [e2, hk, hz, hk]
theorem stp_al {g : Int} (hg : G g) {col : Pt → Int} {m : Mv} (hm : okT g m) (hk : Keep g col m) (hf : m.f = true) {z : Pt} (hz : Stp col z) : Stp col (al g m.t z) := by
 have := stp_lin hg hm hk hz
 rw [hf] at this
 exact (stp_sub col).add _ _ hz this
def dvN (a b c : Int) (v : Pt) (n : Nat) : Bool := decide (v.1 % (n : Int) = 0) && decide (v.2 % (n : Int) = 0) && latB a b c (v.1 / (n : Int), v.2 / (n : Int))
def shoN (a b c : Int) (v : Pt) : Nat → Nat
 | 0 => 0
 | n + 1 => if dvN a b c v (n + 1) then n + 1 else shoN a b c v n
def szP (v : Pt) : Nat := v.1.natAbs + v.2.natAbs
def shoP (a b c : Int) (v : Pt) : Pt := (v.1 / ((shoN a b c v (szP v) : Nat) : Int), v.2 / ((shoN a b c v (szP v) : Nat) : Int))
theorem shoN_spec {a b c : Int} {v : Pt} (h1 : dvN a b c v 1 = true) : ∀ n, 1 ≤ n → 1 ≤ shoN a b c v n ∧ shoN a b c v n ≤ n ∧ dvN a b c v (shoN a b c v n) = true
 | 0, h => by omega
 | n + 1, _ => by
  rw [shoN]
  split
  ·rename_i h
   exact ⟨by omega, Nat.le_refl _, h⟩
  ·rename_i h
   by_cases hn : n = 0
   ·subst hn
    exact absurd h1 h
   ·have := shoN_spec h1 n (by omega)
    exact ⟨this.1, by omega, this.2.2⟩
theorem dvN_one {a b c : Int} {v : Pt} (h : latB a b c v = true) : dvN a b c v 1 = true := by
 unfold dvN
 simp [Int.emod_one, Int.ediv_one]
 exact h
theorem szP_pos {v : Pt} (h : v ≠ (0, 0)) : 1 ≤ szP v := by
 unfold szP
 by_cases h1 : v.1 = 0
 ·by_cases h2 : v.2 = 0
  ·exact absurd (ext2 h1 h2) h
  ·omega
 ·omega
theorem shoP_spec {a b c : Int} {v : Pt} (hv : v ≠ (0, 0)) (h : latB a b c v = true) : latB a b c (shoP a b c v) = true ∧ shoP a b c v ≠ (0, 0) ∧ ∃ n : Nat, 1 ≤ n ∧ v = sml n (shoP a b c v) := by
 obtain ⟨h1, h2, h3⟩ := shoN_spec (dvN_one h) (szP v) (szP_pos hv)
 unfold dvN at h3
 rw [Bool.and_eq_true, Bool.and_eq_true, decide_eq_true_eq, decide_eq_true_eq] at h3
 obtain ⟨⟨h3, h4⟩, h5⟩ := h3
 have e : v = sml ((shoN a b c v (szP v) : Nat) : Int) (shoP a b c v) := by
  unfold shoP
  apply ext2
  ·simp only [sml]
   exact (Int.mul_ediv_cancel' (Int.dvd_of_emod_eq_zero h3)).symm
  ·simp only [sml]
   exact (Int.mul_ediv_cancel' (Int.dvd_of_emod_eq_zero h4)).symm
 refine ⟨h5, fun h0 => ?_, _, h1, e⟩
 rw [h0] at e
 exact hv (by rw [e]; apply ext2 <;> simp [sml])
def tms (z p : Pt) : Int := if p.1 ≠ 0 then Int.tdiv z.1 p.1 else Int.tdiv z.2 p.2
def wayP (g a b c : Int) (f : Mv) : Bool × Bool :=
 let a0 := al g f.t (a, 0)
 let a1 := al g f.t (c, b)
 let p := shoP a b c (if a0 = (0, 0) then a1 else a0)
 if Int.tmod (tms a0 p) 2 ≠ 0 ∨ Int.tmod (tms a1 p) 2 ≠ 0 then (true, true) else
  (decide (Int.tmod (tms (both g f f).o p) 2 = 0), !decide (Int.tmod (tms (both g f f).o p) 2 = 0))
def turnS (T : List Nat) (f : Mv) : List Nat := if f.f = true ∨ f.t ∈ T then T else T ++ [f.t]
def turnsF (L : List Mv) : List Nat := L.foldl turnS []
def wayS (g a b c : Int) (E : List (Nat × Bool × Bool)) (f : Mv) : List (Nat × Bool × Bool) := if f.f = false ∨ (E.any fun e => e.1 == f.t) = true then E else E ++ [(f.t, wayP g a b c f)]
def waysF (g a b c : Int) (L : List Mv) : List (Nat × Bool × Bool) := L.foldl (wayS g a b c) []
theorem turnS_nodup {T : List Nat} (h : T.Nodup) (f : Mv) : (turnS T f).Nodup := by
 unfold turnS
 split
 ·exact h
 ·rename_i hn
  rw [List.nodup_append]
  refine ⟨h, by simp, ?_⟩
  intro x hx y hy e
  simp at hy
  subst hy e
  exact hn (.inr hx)
theorem turnsF_snoc (L : List Mv) (f : Mv) : turnsF (L ++ [f]) = turnS (turnsF L) f := by
 unfold turnsF
 rw [List.foldl_append]
 rfl
theorem waysF_snoc (g a b c : Int) (L : List Mv) (f : Mv) : waysF g a b c (L ++ [f]) = wayS g a b c (waysF g a b c L) f := by
 unfold waysF
 rw [List.foldl_append]
 rfl
def kindP (tn : Nat) (al9 : Bool) (E : List (Nat × Bool × Bool)) : Int :=
 if tn = 1 then (if E = [] then 1 else if (∀ e ∈ E, e.2 = (true, false)) then 3 else if (∀ e ∈ E, e.2 = (false, true)) then 4 else 5)
 else if tn = 2 then (if E = [] then 2 else if (∀ e ∈ E, e.2 = (true, false)) then 6 else if (∀ e ∈ E, e.2 = (false, true)) then 8 else if (∀ e ∈ E, e.2 = (true, true)) then 9 else 7)
 else if tn = 3 then (if E = [] then 13 else if al9 = true then 15 else 14)
 else if tn = 4 then (if E = [] then 10 else if (∀ e ∈ E, e.2.1 = true) then 11 else 12)
 else if E = [] then 16 else 17
end Z
namespace Z
def dir (g : Int) (t : Nat) : Pt :=
 if g = 4 then (if t = 0 then (1, 0) else if t = 1 then (1, 1) else if t = 2 then (0, 1) else (1, -1))
 else (if t = 0 then (1, 0) else if t = 1 then (1, 1) else if t = 2 then (0, 1) else if t = 3 then (1, -2) else if t = 4 then (1, -1) else (2, -1))
theorem fix_dir {g : Int} (hg : G g) {t : Nat} (ht : t < g.toNat) (z : Pt) : rf g t z = z ↔ ∃ k, z = sml k (dir g t) := by
 obtain ⟨x, y⟩ := z
 rcases hg with rfl | rfl
 ·rw [rf4 t ht]
  have h4 : t = 0 ∨ t = 1 ∨ t = 2 ∨ t = 3 := by have : t < 4 := ht; omega
  rcases h4 with rfl | rfl | rfl | rfl <;> simp [dir, sml] <;> first
   | exact ⟨fun h => ⟨x, by omega, by omega⟩, fun ⟨k, h1, h2⟩ => by omega⟩
   | exact ⟨fun h => ⟨x, by omega⟩, fun ⟨k, h⟩ => by omega⟩
   | omega
 ·rw [rf6 t ht]
  have h6 : t = 0 ∨ t = 1 ∨ t = 2 ∨ t = 3 ∨ t = 4 ∨ t = 5 := by have : t < 6 := ht; omega
  rcases h6 with rfl | rfl | rfl | rfl | rfl | rfl <;> simp [dir, sml] <;> first
   | exact ⟨fun h => ⟨x, by omega, by omega⟩, fun ⟨k, h1, h2⟩ => by omega⟩
   | exact ⟨fun h => ⟨-y, by omega, by omega⟩, fun ⟨k, h1, h2⟩ => by omega⟩
   | omega
theorem dir_ne (g : Int) (t : Nat) : dir g t ≠ (0, 0) := by
 unfold dir
 (repeat' split) <;> decide
theorem dir_dvd (g : Int) (t : Nat) (n k : Int) (h1 : n ∣ k * (dir g t).1) (h2 : n ∣ k * (dir g t).2) : n ∣ k := by
 unfold dir at h1 h2
 (repeat' split at h1) <;> simp_all [Int.dvd_neg]
theorem al_add (g : Int) (t : Nat) (y z : Pt) : al g t (add y z) = add (al g t y) (al g t z) := by
 unfold al
 rw [rf_add]
 apply ext2 <;> simp [add] <;> omega
theorem al_sml (g k : Int) (t : Nat) (z : Pt) : al g t (sml k z) = sml k (al g t z) := by
 unfold al
 rw [rf_sml]
 apply ext2 <;> simp [add, sml, Int.mul_add]
theorem sml_add (a b : Int) (d : Pt) : add (sml a d) (sml b d) = sml (a + b) d := by apply ext2 <;> simp [add, sml, Int.add_mul]
theorem sml_sml (a b : Int) (d : Pt) : sml a (sml b d) = sml (a * b) d := by apply ext2 <;> simp [sml, Int.mul_assoc]
theorem sml_inj {a b : Int} {d : Pt} (hd : d ≠ (0, 0)) (h : sml a d = sml b d) : a = b := by
 have h1 : a * d.1 = b * d.1 := congrArg Prod.fst h
 have h2 : a * d.2 = b * d.2 := congrArg Prod.snd h
 by_cases e : d.1 = 0
 ·have e2 : d.2 ≠ 0 := fun e3 => hd (ext2 e e3)
  exact Int.eq_of_mul_eq_mul_right e2 h2
 ·exact Int.eq_of_mul_eq_mul_right e h1
theorem sml_zero (d : Pt) : sml 0 d = (0, 0) := by apply ext2 <;> simp [sml]
theorem shoN_max {a b c : Int} {v : Pt} {m : Nat} (h : dvN a b c v m = true) : ∀ n, m ≤ n → m ≤ shoN a b c v n
 | 0, hm => by omega
 | n + 1, hm => by
  rw [shoN]
  split
  ·exact hm
  ·rename_i h2
   by_cases e : m = n + 1
   ·subst e; exact absurd h h2
   ·exact shoN_max h n (by omega)
theorem shoN_mem {a b c : Int} {v : Pt} (hv : v ≠ (0, 0)) (h : latB a b c v = true) : 1 ≤ shoN a b c v (szP v) ∧ dvN a b c v (shoN a b c v (szP v)) = true := by
 have := shoN_spec (dvN_one h) (szP v) (szP_pos hv)
 exact ⟨this.1, this.2.2⟩
theorem sho_gen {S : Pt → Prop} (hs : Sub S) {a b c : Int} (hl : ∀ z, latB a b c z = true ↔ S z) {d : Pt} (hd0 : d ≠ (0, 0)) (hd : ∀ n k : Int, n ∣ k * d.1 → n ∣ k * d.2 → n ∣ k) {kv : Int} (hv : kv ≠ 0) (hS : S (sml kv d)) :
  ∃ kp, kp ≠ 0 ∧ shoP a b c (sml kv d) = sml kp d ∧ ∀ k, S (sml k d) → kp ∣ k := by
 have hv0 : sml kv d ≠ (0, 0) := fun e => hv (sml_inj hd0 (e.trans (sml_zero d).symm))
 obtain ⟨hN1, hdv⟩ := shoN_mem hv0 ((hl _).2 hS)
 have hmax : ∀ m, dvN a b c (sml kv d) m = true → m ≤ szP (sml kv d) → m ≤ shoN a b c (sml kv d) (szP (sml kv d)) := fun m h h2 => shoN_max h _ h2
 unfold shoP
 generalize shoN a b c (sml kv d) (szP (sml kv d)) = N at *
 unfold dvN at hdv
 rw [Bool.and_eq_true, Bool.and_eq_true, decide_eq_true_eq, decide_eq_true_eq] at hdv
 obtain ⟨⟨e1, e2⟩, e3⟩ := hdv
 obtain ⟨kp, hkp⟩ := hd N kv (Int.dvd_of_emod_eq_zero e1) (Int.dvd_of_emod_eq_zero e2)
 have hp : ∀ M k : Int, M ≠ 0 → kv = M * k → ((sml kv d).1 / M, (sml kv d).2 / M) = sml k d := fun M k hM h => by
  apply ext2
  ·show kv * d.1 / M = k * d.1
   rw [h, Int.mul_assoc, Int.mul_ediv_cancel_left _ hM]
  ·show kv * d.2 / M = k * d.2
   rw [h, Int.mul_assoc, Int.mul_ediv_cancel_left _ hM]
 have hp1 := hp N kp (by omega) hkp
 rw [hp1] at e3
 have hSp := (hl _).1 e3
 have hkp0 : kp ≠ 0 := by rintro rfl; simp at hkp; exact hv hkp
 refine ⟨kp, hkp0, hp1, ?_⟩
 -- the least step of the line
 classical
 have hsz : kv.natAbs ≤ szP (sml kv d) := by
  unfold szP
  show kv.natAbs ≤ (kv * d.1).natAbs + (kv * d.2).natAbs
  rw [Int.natAbs_mul, Int.natAbs_mul]
  by_cases e : d.1 = 0
  ·have e2 : d.2 ≠ 0 := fun e3 => hd0 (ext2 e e3)
   have := Nat.le_mul_of_pos_right kv.natAbs (show 0 < d.2.natAbs by omega)
   omega
  ·have := Nat.le_mul_of_pos_right kv.natAbs (show 0 < d.1.natAbs by omega)
   omega
 have hneg : ∀ k, S (sml k d) → S (sml (-k) d) := fun k h => by
  have := hs.neg _ h
  rwa [show neg (sml k d) = sml (-k) d by apply ext2 <;> simp [neg, sml, Int.neg_mul]] at this
 have hadd : ∀ j k, S (sml j d) → S (sml k d) → S (sml (j + k) d) := fun j k h1 h2 => by
  have := hs.add _ _ h1 h2
  rwa [sml_add] at this
 have hmul : ∀ j k, S (sml k d) → S (sml (j * k) d) := fun j k h => by
  have := hs.sml h j
  rwa [show ((j * (sml k d).1, j * (sml k d).2) : Pt) = sml (j * k) d by apply ext2 <;> simp [sml, Int.mul_assoc]] at this
 obtain ⟨k0, _, hk0, hmin⟩ := least (fun n => decide (0 < n ∧ S (sml (n : Int) d))) kv.natAbs (by
  rw [decide_eq_true_eq]
  refine ⟨by omega, ?_⟩
  rcases Int.natAbs_eq kv with e | e
  ·rw [← e]; exact hS
  ·have h1 := hneg _ hS
   rw [show -kv = (kv.natAbs : Int) by omega] at h1
   exact h1)
 rw [decide_eq_true_eq] at hk0
 obtain ⟨hk0p, hk0S⟩ := hk0
 have hdvd : ∀ k, S (sml k d) → (k0 : Int) ∣ k := fun k hk => by
  have h1 := hadd _ _ hk (hmul (-(k / (k0 : Int))) _ hk0S)
  have e : k + -(k / (k0 : Int)) * (k0 : Int) = k % (k0 : Int) := by have := Int.emod_add_ediv_mul k k0; rw [Int.neg_mul]; omega
  rw [e] at h1
  have h2 := Int.emod_nonneg k (show (k0 : Int) ≠ 0 by omega)
  have h3 := Int.emod_lt_of_pos k (show (0 : Int) < k0 by omega)
  by_cases h4 : k % (k0 : Int) = 0
  ·exact Int.dvd_of_emod_eq_zero h4
  ·have h5 := hmin (k % (k0 : Int)).toNat (by omega)
   rw [decide_eq_false_iff_not] at h5
   exact absurd ⟨by omega, by rw [show (((k % (k0 : Int)).toNat : Nat) : Int) = k % (k0 : Int) by omega]; exact h1⟩ h5
 intro k hk
 obtain ⟨j, hj⟩ := hdvd kp hSp
 have hj0 : j ≠ 0 := by rintro rfl; simp at hj; exact hkp0 hj
 have h1 : dvN a b c (sml kv d) (N * j.natAbs) = true := by
  have hM : ((N * j.natAbs : Nat) : Int) ≠ 0 := by
   have : 0 < N * j.natAbs := Nat.mul_pos hN1 (by omega)
   omega
  obtain ⟨s, hs1, hs2⟩ : ∃ s : Int, kv = ((N * j.natAbs : Nat) : Int) * s ∧ S (sml s d) := by
   rcases Int.natAbs_eq j with e | e
   ·refine ⟨k0, ?_, hk0S⟩
    rw [hkp, hj]
    push_cast
    rw [show ((j.natAbs : Nat) : Int) = j from e.symm, Int.mul_assoc, Int.mul_comm (k0 : Int) j]
   ·refine ⟨-(k0 : Int), ?_, hneg _ hk0S⟩
    rw [hkp, hj]
    push_cast
    rw [show ((j.natAbs : Nat) : Int) = -j by omega, Int.mul_assoc, Int.neg_mul_neg, Int.mul_comm (k0 : Int) j]
  unfold dvN
  rw [hp _ s hM hs1, (hl _).2 hs2, Bool.and_true, Bool.and_eq_true, decide_eq_true_eq, decide_eq_true_eq]
  constructor
  ·show kv * d.1 % _ = 0
   rw [hs1, Int.mul_assoc]
   exact Int.mul_emod_right _ _
  ·show kv * d.2 % _ = 0
   rw [hs1, Int.mul_assoc]
   exact Int.mul_emod_right _ _
 have h2 : N * j.natAbs ≤ szP (sml kv d) := by
  refine Nat.le_trans ?_ hsz
  refine Nat.le_of_dvd (by omega) ?_
  rw [hkp, hj, Int.natAbs_mul, Int.natAbs_mul, Int.natAbs_natCast]
  exact Nat.mul_dvd_mul (Nat.dvd_refl _) (Nat.dvd_mul_left _ _)
 have h3 := hmax _ h1 h2
 have h4 : j.natAbs = 1 := by
  have h5 : N * j.natAbs ≤ N * 1 := by omega
  have := Nat.le_of_mul_le_mul_left h5 (by omega)
  omega
 obtain ⟨q, hq⟩ := hdvd k hk
 rw [hj, hq]
 rcases Int.natAbs_eq j with e | e
 ·rw [show j = 1 by omega, Int.mul_one]; exact Int.dvd_mul_right _ _
 ·rw [show j = -1 by omega, Int.mul_neg, Int.mul_one, Int.neg_dvd]; exact Int.dvd_mul_right _ _
theorem tms_mul {d : Pt} (hd : d ≠ (0, 0)) {kp : Int} (hk : kp ≠ 0) (k : Int) : tms (sml (k * kp) d) (sml kp d) = k := by
 unfold tms
 show (if kp * d.1 ≠ 0 then Int.tdiv (k * kp * d.1) (kp * d.1) else Int.tdiv (k * kp * d.2) (kp * d.2)) = k
 by_cases e : d.1 = 0
 ·have e2 : d.2 ≠ 0 := fun e3 => hd (ext2 e e3)
  rw [if_neg (by rw [e]; simp), Int.mul_assoc, Int.mul_tdiv_cancel _ (Int.mul_ne_zero hk e2)]
 ·rw [if_pos (Int.mul_ne_zero hk e), Int.mul_assoc, Int.mul_tdiv_cancel _ (Int.mul_ne_zero hk e)]
def LineP (g : Int) (col : Pt → Int) (t : Nat) (o : Pt) : Prop := ∃ s, Stp col s ∧ rf g t s = s ∧ add (al g t o) (add s s) = (0, 0)
def MirC (g : Int) (col : Pt → Int) (t : Nat) : Prop := ∃ o, Keep g col ⟨t, true, o⟩ ∧ LineP g col t o
def GliC (g : Int) (col : Pt → Int) (t : Nat) : Prop := ∃ o, Keep g col ⟨t, true, o⟩ ∧ ¬ LineP g col t o
section
variable {g : Int} {col : Pt → Int} {t : Nat} {a b c : Int}
theorem flip_diff (hg : G g) (ht : t < g.toNat) {o o' : Pt} (h : Keep g col ⟨t, true, o⟩) (h' : Keep g col ⟨t, true, o'⟩) : Stp col (add o' (neg o)) := by
 intro p
 have hi : okT g (⟨t, true, o⟩ : Mv) := ht
 have hb := both_inv hg hi
 have hk := Keep.inv hg hi h
 have e : ∀ q, To g ⟨t, true, o'⟩ q = add (To g ⟨t, true, o⟩ q) (add o' (neg o)) := fun q => by unfold To; apply ext2 <;> simp [add, neg] <;> omega
 have h1 := h' (To g (inv g ⟨t, true, o⟩) p)
 rw [e, ← To_both hg (inv_ok hg hi), hb.2, To_idm] at h1
 rw [h1]
 exact hk p
theorem keep_shift {o : Pt} (h : Keep g col ⟨t, true, o⟩) {z : Pt} (hz : Stp col z) : Keep g col ⟨t, true, add o z⟩ := fun q => by
 have e : To g ⟨t, true, add o z⟩ q = add (To g ⟨t, true, o⟩ q) z := by unfold To; apply ext2 <;> simp [add] <;> omega
 rw [e, hz, h]
theorem al_keep (hg : G g) (ht : t < g.toNat) {o : Pt} (h : Keep g col ⟨t, true, o⟩) : Stp col (al g t o) := by
 have h2 := Keep.both hg (m := ⟨t, true, o⟩) (h := ⟨t, true, o⟩) ht h h
 rw [← stp_keep (g := g)]
 have hb : bothT g ⟨t, true, o⟩ ⟨t, true, o⟩ = 0 := by
  unfold bothT
  simp only [if_true]
  rw [show t + (g.toNat - t) = g.toNat by omega, Nat.mod_self]
 have e : both g ⟨t, true, o⟩ ⟨t, true, o⟩ = ⟨0, false, al g t o⟩ := by
  unfold both
  rw [hb]
  have : To g ⟨t, true, o⟩ o = al g t o := by unfold To al rf; apply ext2 <;> simp [add] <;> omega
  simp only [this, Bool.xor_self]
 rw [e] at h2
 exact h2
theorem both_o (o : Pt) : (both g ⟨t, true, o⟩ ⟨t, true, o⟩).o = al g t o := by
 show To g ⟨t, true, o⟩ o = al g t o
 unfold To al rf
 apply ext2 <;> simp [add] <;> omega
theorem way_parts (hg : G g) (hf : Fine (Stp col) a b c) (ht : t < g.toNat) {o : Pt} (h : Keep g col ⟨t, true, o⟩) :
  ∃ kp, kp ≠ 0 ∧ shoP a b c (if al g t (a, 0) = (0, 0) then al g t (c, b) else al g t (a, 0)) = sml kp (dir g t) ∧ (∀ k, Stp col (sml k (dir g t)) ↔ kp ∣ k) ∧
   ∃ m0 m1, al g t (a, 0) = sml (m0 * kp) (dir g t) ∧ al g t (c, b) = sml (m1 * kp) (dir g t) := by
 have hs := stp_sub col
 have hok : okT g (⟨t, true, o⟩ : Mv) := ht
 have hsa : Stp col (al g t (a, 0)) := stp_al hg hok h rfl hf.sa
 have hsb : Stp col (al g t (c, b)) := stp_al hg hok h rfl hf.sb
 obtain ⟨k0, hk0⟩ := (fix_dir hg ht _).1 (al_fix hg t (a, 0))
 obtain ⟨k1, hk1⟩ := (fix_dir hg ht _).1 (al_fix hg t (c, b))
 have hd0 := dir_ne g t
 have hd := dir_dvd g t
 have hone : al g t (a, 0) = (0, 0) → al g t (c, b) ≠ (0, 0) := fun e => al_one hg ht hf.a0 hf.b0 e
 rw [hk0] at hsa hone ⊢
 rw [hk1] at hsb hone ⊢
 generalize dir g t = d at *
 have hz : ∀ k, sml k d = (0, 0) ↔ k = 0 := fun k => ⟨fun e => sml_inj hd0 (e.trans (sml_zero d).symm), fun e => by rw [e, sml_zero]⟩
 have hv : ∃ kv, kv ≠ 0 ∧ Stp col (sml kv d) ∧ (if sml k0 d = (0, 0) then sml k1 d else sml k0 d) = sml kv d := by
  by_cases e : k0 = 0
  ·rw [if_pos ((hz k0).2 e)]
   exact ⟨k1, fun e1 => hone ((hz k0).2 e) ((hz k1).2 e1), hsb, rfl⟩
  ·rw [if_neg (fun e1 => e ((hz k0).1 e1))]
   exact ⟨k0, e, hsa, rfl⟩
 obtain ⟨kv, hkv, hSv, he⟩ := hv
 rw [he]
 obtain ⟨kp, h1, h2, h3⟩ := sho_gen hs (fun z => latB_stp hf z) hd0 hd hkv hSv
 have hp : Stp col (sml kp d) := by
  rw [← h2]
  have := (shoP_spec (a := a) (b := b) (c := c) (v := sml kv d) (fun e => hkv ((hz _).1 e)) ((latB_stp hf _).2 hSv)).1
  exact (latB_stp hf _).1 this
 obtain ⟨m0, e0⟩ := h3 k0 hsa
 obtain ⟨m1, e1⟩ := h3 k1 hsb
 refine ⟨kp, h1, h2, fun k => ⟨h3 k, ?_⟩, m0, m1, by rw [e0, Int.mul_comm], by rw [e1, Int.mul_comm]⟩
 rintro ⟨j, rfl⟩
 have := hs.sml hp j
 rwa [show ((j * (sml kp d).1, j * (sml kp d).2) : Pt) = sml (kp * j) d by apply ext2 <;> simp [sml, Int.mul_assoc, Int.mul_comm, Int.mul_left_comm]] at this
theorem way_spec (hg : G g) (hf : Fine (Stp col) a b c) (ht : t < g.toNat) {o : Pt} (h : Keep g col ⟨t, true, o⟩) :
  ((wayP g a b c ⟨t, true, o⟩).1 = true ↔ MirC g col t) ∧ ((wayP g a b c ⟨t, true, o⟩).2 = true ↔ GliC g col t) := by
 obtain ⟨kp, hkp, hsho, hgen, m0, m1, h0, h1⟩ := way_parts hg hf ht h
 have hd0 := dir_ne g t
 have hs := stp_sub col
 have hw : ∀ o', Keep g col ⟨t, true, o'⟩ → ∃ m, al g t o' = sml (m * kp) (dir g t) ∧ (LineP g col t o' ↔ m % 2 = 0) := fun o' h' => by
  obtain ⟨k, hk⟩ := (fix_dir hg ht _).1 (al_fix hg t o')
  have hS := al_keep hg ht h'
  rw [hk] at hS
  obtain ⟨m, hm⟩ := (hgen k).1 hS
  refine ⟨m, by rw [hk, hm, Int.mul_comm], ?_⟩
  constructor
  ·rintro ⟨s, s1, s2, s3⟩
   obtain ⟨ks, rfl⟩ := (fix_dir hg ht _).1 s2
   obtain ⟨j, hj⟩ := (hgen ks).1 s1
   rw [hk, sml_add, sml_add] at s3
   have e := sml_inj hd0 (s3.trans (sml_zero _).symm)
   have e2 : kp * (m + 2 * j) = kp * 0 := by rw [Int.mul_add, ← hm, show kp * (2 * j) = ks + ks by rw [Int.mul_left_comm, ← hj]; omega, Int.mul_zero]; exact e
   have := Int.eq_of_mul_eq_mul_left hkp e2
   omega
  ·intro e
   obtain ⟨j, hj⟩ : ∃ j, m = 2 * j := ⟨m / 2, by omega⟩
   refine ⟨sml (kp * -j) (dir g t), (hgen _).2 ⟨_, rfl⟩, (fix_dir hg ht _).2 ⟨_, rfl⟩, ?_⟩
   rw [hk, sml_add, sml_add, hm, hj]
   rw [show kp * (2 * j) + (kp * -j + kp * -j) = 0 by rw [Int.mul_left_comm, Int.mul_neg]; omega, sml_zero]
 have hz : ∀ z, Stp col z → ∃ i j, al g t z = sml ((i * m0 + j * m1) * kp) (dir g t) := fun z hz => by
  obtain ⟨⟨j, hj⟩, i, hi⟩ := (hf.spec hs z).1 hz
  have hb := hf.b0
  have hj2 : z.2 / b = j := by rw [hj]; exact Int.mul_ediv_cancel_left _ (by omega)
  rw [hj2] at hi
  refine ⟨i, j, ?_⟩
  have e : z = add (sml i (a, 0)) (sml j (c, b)) := by
   apply ext2
   ·show z.1 = i * a + j * c
    rw [Int.mul_comm i a]; omega
   ·show z.2 = i * 0 + j * b
    rw [hj, Int.mul_comm]; omega
  rw [e, al_add, al_sml, al_sml, h0, h1, sml_sml, sml_sml, sml_add]
  congr 1
  rw [Int.add_mul, Int.mul_assoc, Int.mul_assoc]
 obtain ⟨mw, hmw, hL⟩ := hw o h
 have hwp : wayP g a b c ⟨t, true, o⟩ = if m0 % 2 ≠ 0 ∨ m1 % 2 ≠ 0 then (true, true) else (decide (mw % 2 = 0), !decide (mw % 2 = 0)) := by
  unfold wayP
  simp only [both_o]
  rw [hsho, h0, h1, hmw, tms_mul hd0 hkp, tms_mul hd0 hkp, tms_mul hd0 hkp]
  have e2 : ∀ m : Int, Int.tmod m 2 = 0 ↔ m % 2 = 0 := fun m => by
   rw [← Int.dvd_iff_tmod_eq_zero]; omega
  simp only [ne_eq, e2]
 rw [hwp]
 by_cases hodd : m0 % 2 ≠ 0 ∨ m1 % 2 ≠ 0
 ·rw [if_pos hodd]
  -- a step that changes it
  obtain ⟨z, hzS, mz, hmz, hmo⟩ : ∃ z, Stp col z ∧ ∃ mz, al g t z = sml (mz * kp) (dir g t) ∧ mz % 2 ≠ 0 := by
   rcases hodd with e | e
   ·exact ⟨_, hf.sa, m0, h0, e⟩
   ·exact ⟨_, hf.sb, m1, h1, e⟩
  have h' := keep_shift h hzS
  obtain ⟨m', hm', hL'⟩ := hw _ h'
  have e : m' = mw + mz := by
   rw [al_add, hmw, hmz, sml_add, ← Int.add_mul] at hm'
   exact (Int.eq_of_mul_eq_mul_right hkp (sml_inj hd0 hm')).symm
  refine ⟨⟨fun _ => ?_, fun _ => rfl⟩, ⟨fun _ => ?_, fun _ => rfl⟩⟩
  ·by_cases e2 : mw % 2 = 0
   ·exact ⟨o, h, hL.2 e2⟩
   ·exact ⟨_, h', hL'.2 (by omega)⟩
  ·by_cases e2 : mw % 2 = 0
   ·exact ⟨_, h', fun hl => by have := hL'.1 hl; omega⟩
   ·exact ⟨o, h, fun hl => e2 (hL.1 hl)⟩
 ·rw [if_neg hodd]
  have hall : ∀ o', Keep g col ⟨t, true, o'⟩ → (LineP g col t o' ↔ mw % 2 = 0) := fun o' h' => by
   obtain ⟨m', hm', hL'⟩ := hw o' h'
   obtain ⟨i, j, hij⟩ := hz _ (flip_diff hg ht h h')
   have e : o' = add o (add o' (neg o)) := by apply ext2 <;> simp [add, neg] <;> omega
   rw [e, al_add, hmw, hij, sml_add, ← Int.add_mul] at hm'
   have e3 := (Int.eq_of_mul_eq_mul_right hkp (sml_inj hd0 hm')).symm
   rw [hL']
   have p0 : m0 % 2 = 0 := by omega
   have p1 : m1 % 2 = 0 := by omega
   have q0 : (i * m0) % 2 = 0 := by rw [Int.mul_emod, p0]; simp
   have q1 : (j * m1) % 2 = 0 := by rw [Int.mul_emod, p1]; simp
   omega
  constructor
  ·rw [decide_eq_true_eq]
   exact ⟨fun e => ⟨o, h, hL.2 e⟩, fun ⟨o', k1, k2⟩ => (hall o' k1).1 k2⟩
  ·simp only [Bool.not_eq_true', decide_eq_false_iff_not]
   exact ⟨fun e => ⟨o, h, fun hl => e (hL.1 hl)⟩, fun ⟨o', k1, k2⟩ e => k2 ((hall o' k1).2 e)⟩
end
end Z
section
open Go.RowKit
open Z (torN place pnt Mv To lin okT nrm both idm md stepB)
@[go_sem] theorem mv_field2 (a b c d : Value) (w : World) : (Instr.field 56 (.agg #[a, b, c, d]) 2).run Tryd.prog w = .ok (.agg #[c, d]) w := by kernel_rfl
end
section
open Go.RowKit
open Z (torN place pnt Mv To lin okT nrm both idm md stepB)
structure BoxM (fb : Nat) (m : Mv) (v : Value) (w : World) : Prop where
 c0 : w.cell? ⟨fb, 0, none⟩ = some (.int .i64 (m.t : Int))
 c1 : w.cell? ⟨fb, 1, none⟩ = some (.bool m.f)
 c2 : w.cell? ⟨fb, 2, none⟩ = some (.int .i64 m.o.1)
 c3 : w.cell? ⟨fb, 3, none⟩ = some (.int .i64 m.o.2)
 lt : fb < w.heap.size
 ne : v.ownBlock ≠ some fb
def shM (n : Int) (m : Mv) (i j : Int) : Mv := ⟨m.t, m.f, (m.o.1 + n * i, m.o.2 + n * j)⟩
end
section
open Go.RowKit
open Z (torN place pnt Mv To lin okT nrm both idm md stepB)
structure MvsOk (g : Int) (L : List Mv) : Prop where
 t : ∀ m ∈ L, m.t < g.toNat
 o : ∀ m ∈ L, (0 ≤ m.o.1 ∧ m.o.1 ≤ 24) ∧ (0 ≤ m.o.2 ∧ m.o.2 ≤ 24)
end
section
open Go.RowKit
open Z (torN place pnt Mv To lin okT nrm both idm md stepB)
structure MvsB (g : Int) (L : List Mv) : Prop where
 t : ∀ m ∈ L, m.t < g.toNat
 o : ∀ m ∈ L, (-200 ≤ m.o.1 ∧ m.o.1 ≤ 200) ∧ (-200 ≤ m.o.2 ∧ m.o.2 ≤ 200)
end
section
open Go.RowKit
open Z (torN place pnt Mv To lin okT nrm both idm md stepB)
end
section
open Go.RowKit
open Z (torN place pnt Mv To lin okT nrm both idm md stepB)
end
section
open Go.RowKit
open Z (torN place pnt Mv To lin okT nrm both idm md stepB)
def q3 (n : Int) (m : Mv) (k : Nat) : Mv := shM n m (((k % 3 : Nat) : Int) - 1) (((k / 3 : Nat) : Int) - 1)
end
section
open Go.RowKit
open Z (torN place pnt Mv To lin okT nrm both idm md stepB)
end
namespace Z
theorem mem_turnsF (L : List Mv) : ∀ (T : List Nat) (t : Nat), t ∈ L.foldl turnS T ↔ t ∈ T ∨ ∃ m ∈ L, m.f = false ∧ m.t = t := by
 induction L with
 | nil => intro T t; simp
 | cons a L ih =>
  intro T t
  rw [List.foldl_cons, ih]
  have e : t ∈ turnS T a ↔ t ∈ T ∨ (a.f = false ∧ a.t = t) := by
   unfold turnS
   split
   ·rename_i h
    constructor
    ·exact .inl
    ·rintro (h2 | ⟨h2, h3⟩)
     ·exact h2
     ·rcases h with h | h
      ·rw [h] at h2; cases h2
      ·rw [← h3]; exact h
   ·rename_i h
    rw [List.mem_append, List.mem_singleton]
    have hf : a.f = false := by
     cases h9 : a.f
     ·rfl
     ·exact absurd (.inl h9) h
    constructor
    ·rintro (h2 | h2)
     ·exact .inl h2
     ·exact .inr ⟨hf, h2.symm⟩
    ·rintro (h2 | h2)
     ·exact .inl h2
     ·exact .inr h2.2.symm
  rw [e]
  constructor
  ·rintro ((h | h) | ⟨m, hm, h⟩)
   ·exact .inl h
   ·exact .inr ⟨a, List.mem_cons_self .., h⟩
   ·exact .inr ⟨m, List.mem_cons_of_mem _ hm, h⟩
  ·rintro (h | ⟨m, hm, h⟩)
   ·exact .inl (.inl h)
   ·rcases List.mem_cons.1 hm with rfl | hm
    ·exact .inl (.inr h)
    ·exact .inr ⟨m, hm, h⟩
theorem nodup_turnsF (L : List Mv) : ∀ (T : List Nat), T.Nodup → (L.foldl turnS T).Nodup := by
 induction L with
 | nil => intro T h; exact h
 | cons a L ih => intro T h; exact ih _ (turnS_nodup h a)
theorem any_keys {E : List (Nat × Bool × Bool)} {t : Nat} : (E.any fun e => e.1 == t) = true ↔ t ∈ E.map (·.1) := by
 rw [List.any_eq_true, List.mem_map]
 constructor
 ·rintro ⟨e, he, h⟩
  exact ⟨e, he, eq_of_beq h⟩
 ·rintro ⟨e, he, h⟩
  exact ⟨e, he, by rw [h]; exact beq_self_eq_true _⟩
theorem mem_waysF (g a b c : Int) (L : List Mv) : ∀ (E : List (Nat × Bool × Bool)) (t : Nat), t ∈ (L.foldl (wayS g a b c) E).map (·.1) ↔ t ∈ E.map (·.1) ∨ ∃ m ∈ L, m.f = true ∧ m.t = t := by
 induction L with
 | nil => intro T t; simp
 | cons x L ih =>
  intro T t
  rw [List.foldl_cons, ih]
  have e : t ∈ (wayS g a b c T x).map (·.1) ↔ t ∈ T.map (·.1) ∨ (x.f = true ∧ x.t = t) := by
   unfold wayS
   split
   ·rename_i h
    constructor
    ·exact .inl
    ·rintro (h2 | ⟨h2, h3⟩)
     ·exact h2
     ·rcases h with h | h
      ·rw [h] at h2; cases h2
      ·rw [← h3]; exact any_keys.1 h
   ·rename_i h
    rw [List.map_append, List.mem_append, List.map_singleton, List.mem_singleton]
    have hf : x.f = true := by
     cases h9 : x.f
     ·exact absurd (.inl h9) h
     ·rfl
    constructor
    ·rintro (h2 | h2)
     ·exact .inl h2
     ·exact .inr ⟨hf, h2.symm⟩
    ·rintro (h2 | h2)
     ·exact .inl h2
     ·exact .inr h2.2.symm
  rw [e]
  constructor
  ·rintro ((h | h) | ⟨m, hm, h⟩)
   ·exact .inl h
   ·exact .inr ⟨x, List.mem_cons_self .., h⟩
   ·exact .inr ⟨m, List.mem_cons_of_mem _ hm, h⟩
  ·rintro (h | ⟨m, hm, h⟩)
   ·exact .inl (.inl h)
   ·rcases List.mem_cons.1 hm with rfl | hm
    ·exact .inl (.inr h)
    ·exact .inr ⟨m, hm, h⟩
theorem mem_turns {L : List Mv} {t : Nat} : t ∈ turnsF L ↔ ∃ m ∈ L, m.f = false ∧ m.t = t := by
 unfold turnsF
 rw [mem_turnsF]
 simp
theorem mem_ways {g a b c : Int} {L : List Mv} {t : Nat} : t ∈ (waysF g a b c L).map (·.1) ↔ ∃ m ∈ L, m.f = true ∧ m.t = t := by
 unfold waysF
 rw [mem_waysF]
 simp
theorem waysF_nil {g a b c : Int} {L : List Mv} : waysF g a b c L = [] ↔ ∀ m ∈ L, m.f = false := by
 constructor
 ·intro h m hm
  cases h9 : m.f
  ·rfl
  ·have : m.t ∈ (waysF g a b c L).map (·.1) := mem_ways.2 ⟨m, hm, h9, rfl⟩
   rw [h] at this
   simp at this
 ·intro h
  cases h9 : waysF g a b c L with
  | nil => rfl
  | cons e E =>
   have : e.1 ∈ (waysF g a b c L).map (·.1) := by rw [h9]; simp
   obtain ⟨m, hm, h1, _⟩ := mem_ways.1 this
   rw [h m hm] at h1
   cases h1
theorem nod_length {T : List Nat} {g : Nat} (hn : T.Nodup) (hb : ∀ t ∈ T, t < g) : T.length = (List.range g).countP fun v => decide (v ∈ T) := by
 rw [List.countP_eq_length_filter]
 refine List.Perm.length_eq ?_
 rw [List.perm_ext_iff_of_nodup hn (List.Pairwise.filter _ List.nodup_range)]
 intro t
 rw [List.mem_filter, List.mem_range, decide_eq_true_eq]
 exact ⟨fun h => ⟨hb t h, h⟩, fun h => h.2⟩
section
variable {g : Nat} {n : Nat} {col : Pt → Int} {L : List Mv}
def hasT (L : List Mv) (f : Bool) (t : Nat) : Bool := L.any (keyB t f)
theorem hasT_iff {L : List Mv} {f : Bool} {t : Nat} : hasT L f t = true ↔ ∃ m ∈ L, m.f = f ∧ m.t = t := by
 unfold hasT
 rw [List.any_eq_true]
 exact ⟨fun ⟨m, h, k⟩ => ⟨m, h, (keyB_iff.1 k).2, (keyB_iff.1 k).1⟩, fun ⟨m, h, k1, k2⟩ => ⟨m, h, keyB_iff.2 ⟨k2, k1⟩⟩⟩
theorem turns_len (h : Grp (g : Int) n col L) : (turnsF L).length = (List.range g).countP (hasT L false) := by
 rw [nod_length (g := g) (T := turnsF L) (nodup_turnsF L [] List.nodup_nil) (fun t ht => by
  obtain ⟨m, hm, _, rfl⟩ := mem_turns.1 ht
  have := h.ok hm; unfold okT at this; omega)]
 refine List.countP_congr fun v _ => ?_
 rw [decide_eq_true_eq, mem_turns, hasT_iff]
theorem sort_count (h : Grp (g : Int) n col L) (hg : G (g : Int)) (hn : 0 < n) (hp : Per n col) (f : Bool) : L.countP (fun m => m.f == f) = (List.range g).countP (hasT L f) * (torusL n).countP (stepB L) := by
 rw [← sumL_countP, List.countP_eq_length_filter, length_by g (fun m => m.t) g (L.filter fun m => m.f == f) (fun x hx => by
  have := h.ok (List.mem_filter.1 hx).1; unfold okT at this; omega)]
 refine sumL_congr fun v _ => ?_
 rw [List.countP_filter]
 have e : L.countP (fun a => a.t == v && a.f == f) = L.countP (keyB v f) := List.countP_congr fun x _ => by
  rw [keyB_iff, Bool.and_eq_true, beq_iff_eq, beq_iff_eq]
 rw [e]
 cases hv : hasT L f v with
 | false =>
  rw [if_neg (by simp), List.countP_eq_zero]
  intro x hx e
  have : hasT L f v = true := hasT_iff.2 ⟨x, hx, (keyB_iff.1 e).2, (keyB_iff.1 e).1⟩
  rw [hv] at this
  cases this
 | true =>
  rw [if_pos rfl]
  obtain ⟨m, hm, rfl, rfl⟩ := hasT_iff.1 hv
  exact block_count h hg hn hp hm
theorem hasT_mul (h : Grp (g : Int) n col L) (hg : G (g : Int)) (hn : 0 < n) (hp : Per n col) {p q : Bool} {i j : Nat} (hi : hasT L p i = true) (hj : hasT L q j = true) : hasT L (p ^^ q) ((if p then i + (g - j) else i + j) % g) = true := by
 obtain ⟨x, hx, rfl, rfl⟩ := hasT_iff.1 hi
 obtain ⟨y, hy, rfl, rfl⟩ := hasT_iff.1 hj
 refine hasT_iff.2 ⟨_, h.mul hg (by omega) hp hx hy, rfl, ?_⟩
 show bothT g x y = _
 unfold bothT
 split <;> simp
end
def clB (g : Nat) (bs cs : List Bool) : Bool :=
 bs.getD 0 false && (List.range g).all fun i => (List.range g).all fun j =>
  (!(bs.getD i false && bs.getD j false) || bs.getD ((i + j) % g) false) && (!(bs.getD i false && cs.getD j false) || cs.getD ((i + j) % g) false) &&
  (!(cs.getD i false && cs.getD j false) || bs.getD ((i + (g - j)) % g) false) && (!(cs.getD i false && bs.getD j false) || cs.getD ((i + (g - j)) % g) false)
def gdB (g : Nat) (bs cs : List Bool) : Bool :=
 let t := bs.countP id
 let f := cs.countP id
 (if g == 4 then t == 1 || t == 2 || t == 4 else t == 1 || t == 2 || t == 3 || t == 6) && (f == 0 || f == t)
theorem cl4 : ∀ b1 b2 b3 c0 c1 c2 c3 : Bool, clB 4 [true, b1, b2, b3] [c0, c1, c2, c3] = true → gdB 4 [true, b1, b2, b3] [c0, c1, c2, c3] = true := by decide +kernel
theorem cl6 : ∀ b1 b2 b3 b4 b5 c0 c1 c2 c3 c4 c5 : Bool, clB 6 [true, b1, b2, b3, b4, b5] [c0, c1, c2, c3, c4, c5] = true → gdB 6 [true, b1, b2, b3, b4, b5] [c0, c1, c2, c3, c4, c5] = true := by decide +kernel
section
variable {g : Nat} {n : Nat} {col : Pt → Int} {L : List Mv}
theorem sorts (h : Grp (g : Int) n col L) (hg : G (g : Int)) (hn : 0 < n) (hp : Per n col) : gdB g ((List.range g).map (hasT L false)) ((List.range g).map (hasT L true)) = true := by
 have h0 : hasT L false 0 = true := hasT_iff.2 ⟨idm, h.one hg (by omega), rfl, rfl⟩
 have hget : ∀ (p : Bool) i, i < g → ((List.range g).map (hasT L p)).getD i false = hasT L p i := fun p i hi => by
  rw [List.getD_eq_getElem?_getD, List.getElem?_map, List.getElem?_range hi]
  rfl
 have hg0 : 0 < g := by rcases hg with e | e <;> omega
 have hcl : clB g ((List.range g).map (hasT L false)) ((List.range g).map (hasT L true)) = true := by
  unfold clB
  rw [Bool.and_eq_true, hget _ _ hg0]
  refine ⟨h0, ?_⟩
  rw [List.all_eq_true]
  intro i hi
  rw [List.all_eq_true]
  intro j hj
  rw [List.mem_range] at hi hj
  rw [hget _ _ hi, hget _ _ hi, hget _ _ hj, hget _ _ hj, hget _ _ (Nat.mod_lt _ hg0), hget _ _ (Nat.mod_lt _ hg0), hget _ _ (Nat.mod_lt _ hg0), hget _ _ (Nat.mod_lt _ hg0)]
  have m1 := fun a b => hasT_mul (p := false) (q := false) (i := i) (j := j) h hg hn hp a b
  have m2 := fun a b => hasT_mul (p := false) (q := true) (i := i) (j := j) h hg hn hp a b
  have m3 := fun a b => hasT_mul (p := true) (q := true) (i := i) (j := j) h hg hn hp a b
  have m4 := fun a b => hasT_mul (p := true) (q := false) (i := i) (j := j) h hg hn hp a b
  simp only [Bool.xor_self, Bool.false_xor, Bool.true_xor, Bool.not_false, Bool.not_true, if_true, if_false, Bool.false_eq_true] at m1 m2 m3 m4
  generalize hasT L false ((i + j) % g) = x1 at *
  generalize hasT L true ((i + j) % g) = x2 at *
  generalize hasT L false ((i + (g - j)) % g) = x3 at *
  generalize hasT L true ((i + (g - j)) % g) = x4 at *
  generalize hasT L false i = y1 at *
  generalize hasT L true i = y2 at *
  generalize hasT L false j = y3 at *
  generalize hasT L true j = y4 at *
  cases x1 <;> cases x2 <;> cases x3 <;> cases x4 <;> cases y1 <;> cases y2 <;> cases y3 <;> cases y4 <;> simp_all
 rcases hg with e | e
 ·obtain rfl : g = 4 := by omega
  have e1 : (List.range 4).map (hasT L false) = [true, hasT L false 1, hasT L false 2, hasT L false 3] := by rw [← h0]; rfl
  have e2 : (List.range 4).map (hasT L true) = [hasT L true 0, hasT L true 1, hasT L true 2, hasT L true 3] := rfl
  rw [e1, e2] at hcl ⊢
  exact cl4 _ _ _ _ _ _ _ hcl
 ·obtain rfl : g = 6 := by omega
  have e1 : (List.range 6).map (hasT L false) = [true, hasT L false 1, hasT L false 2, hasT L false 3, hasT L false 4, hasT L false 5] := by rw [← h0]; rfl
  have e2 : (List.range 6).map (hasT L true) = [hasT L true 0, hasT L true 1, hasT L true 2, hasT L true 3, hasT L true 4, hasT L true 5] := rfl
  rw [e1, e2] at hcl ⊢
  exact cl6 _ _ _ _ _ _ _ _ _ _ _ hcl
end
def tnK (k : Int) : Int := ([1, 2, 1, 1, 1, 2, 2, 2, 2, 4, 4, 4, 3, 3, 3, 6, 6] : List Int).getD (k.toNat - 1) 0
def flK (k : Int) : Int := if k = 1 ∨ k = 2 ∨ k = 10 ∨ k = 13 ∨ k = 16 then 0 else tnK k
theorem kind_turns {tn : Nat} (h : tn = 1 ∨ tn = 2 ∨ tn = 3 ∨ tn = 4 ∨ tn = 6) (al9 : Bool) (E : List (Nat × Bool × Bool)) : 1 ≤ kindP tn al9 E ∧ kindP tn al9 E ≤ 17 ∧ tnK (kindP tn al9 E) = tn ∧ flK (kindP tn al9 E) = if E = [] then 0 else tn := by
 unfold kindP
 rcases h with rfl | rfl | rfl | rfl | rfl <;> simp only [if_true, if_false, Nat.reduceEqDiff] <;> (by_cases hE : E = []) <;> simp only [hE, if_true, if_false] <;> (repeat' split) <;> (refine ⟨by decide, by decide, by rfl, by rfl⟩)
theorem counts_ok {g W H n : Nat} {cs : List Int} (hg : G (g : Int)) (hn : 0 < n) (hW : W ∣ n) (hH : H ∣ n) {a b : Nat} {c : Int} (hf : Fine (Stp (colP W H cs)) a b c) (al9 : Bool) {K : Int}
    (hK : kindP (turnsF (movesL W H cs g n)).length al9 (waysF g a b c (movesL W H cs g n)) = K) :
    1 ≤ K ∧ K ≤ 17 ∧ (g = 4 → tnK K ≠ 3 ∧ tnK K ≠ 6) ∧ (g = 6 → tnK K ≠ 4) ∧
    ∃ S : Nat, Int.tdiv ((n : Int) * n) ((a : Int) * b) = S ∧ ((movesL W H cs g n).countP (fun m => m.f == false) : Int) = tnK K * S ∧ ((movesL W H cs g n).countP (fun m => m.f == true) : Int) = flK K * S := by
  have grp := movesL_grp (cs := cs) (g := (g : Int)) hn hW hH
  have per := colP_per cs hW hH
  have hst := steps_count grp hg hn per hf
  have hT := turns_len grp
  have h1 := sort_count grp hg hn per false
  have h2 := sort_count grp hg hn per true
  have hs := sorts grp hg hn per
  have hE : waysF g a b c (movesL W H cs g n) = [] ↔ (List.range g).countP (hasT (movesL W H cs g n) true) = 0 := by
    rw [waysF_nil, List.countP_eq_zero]
    constructor
    · intro h v _ e
      obtain ⟨m, hm, h3, _⟩ := hasT_iff.1 e
      rw [h m hm] at h3
      cases h3
    · intro h m hm
      cases h9 : m.f
      · rfl
      · have := grp.ok hm
        unfold okT at this
        exact absurd (hasT_iff.2 ⟨m, hm, h9, rfl⟩) (h m.t (List.mem_range.2 (by omega)))
  generalize waysF g a b c (movesL W H cs g n) = E at *
  generalize (torusL n).countP (stepB (movesL W H cs g n)) = S at *
  have hab : 0 < a * b := by have := hf.a0; have := hf.b0; exact Nat.mul_pos (by omega) (by omega)
  have hdv : Int.tdiv ((n : Int) * n) ((a : Int) * b) = S := by
    rw [← Int.natCast_mul, ← Int.natCast_mul, ← hst]
    show ((S * (a * b) / (a * b) : Nat) : Int) = _
    rw [Nat.mul_div_cancel _ hab]
  unfold gdB at hs
  simp only [List.countP_map, Function.id_comp] at hs
  rw [← hT] at hs h1
  generalize (List.range g).countP (hasT (movesL W H cs g n) true) = f at *
  generalize (turnsF (movesL W H cs g n)).length = tn at *
  rw [Bool.and_eq_true] at hs
  obtain ⟨hs1, hs2⟩ := hs
  have hf2 : f = 0 ∨ f = tn := by simpa using hs2
  have htn : (g = 4 → tn = 1 ∨ tn = 2 ∨ tn = 4) ∧ (g = 6 → tn = 1 ∨ tn = 2 ∨ tn = 3 ∨ tn = 6) := by
    constructor
    · rintro rfl
      have : (tn = 1 ∨ tn = 2) ∨ tn = 4 := by simpa using hs1
      omega
    · rintro rfl
      have : ((tn = 1 ∨ tn = 2) ∨ tn = 3) ∨ tn = 6 := by simpa using hs1
      omega
  have hg2 : g = 4 ∨ g = 6 := by rcases hg with e | e <;> omega
  obtain ⟨k1, k2, k3, k4⟩ := kind_turns (tn := tn) (by rcases hg2 with e | e; (· have := htn.1 e; omega); (· have := htn.2 e; omega)) al9 E
  rw [hK] at k1 k2 k3 k4
  refine ⟨k1, k2, fun e => ?_, fun e => ?_, S, hdv, ?_, ?_⟩
  · rw [k3]; have := htn.1 e; omega
  · rw [k3]; have := htn.2 e; omega
  · rw [k3, h1]; push_cast; rfl
  · rw [k4, h2]
    rcases hf2 with e | e
    · rw [if_pos (hE.2 e), e]; simp
    · by_cases h0 : E = []
      · have := hE.1 h0
        rw [if_pos h0, this]; simp
      · rw [if_neg h0, e]; push_cast; rfl
end Z
end Go.Proofs.YtajdoobkfbdgoaaDoor
