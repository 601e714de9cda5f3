/- Lemmas and contracts of functions (what each call returns, and that it changes nothing that was there) that the proof of a law of this seat uses; each lemma states its own conditions. -/
import Derived.Test.YtooilennejakhaaB03
import Derived.Test.YtooilennejakhaaB01
import Derived.Deep.OwnRows
namespace Go.Proofs.Ytooilennejakhaa
open Go.RowKit
set_option linter.unusedVariables false
set_option linter.unusedSimpArgs false
namespace Z
section
variable {g : Int} {n : Nat} {col : Pt → Int} {L L' : List Mv} {f : Mv}
/-- At where f takes a point stands what stood at it. -/
def movd (g : Int) (f : Mv) (col : Pt → Int) (z : Pt) : Int := col (To g (inv g f) z)
theorem movd_at (hg : G g) (hf : okT g f) (z : Pt) : movd g f col (To g f z) = col z := by
  unfold movd; rw [← To_both hg hf, (both_inv hg hf).1, To_idm]
theorem movd_per {n : Int} (hp : Per n col) : Per n (movd g f col) := fun a b h => hp _ _ (To_eqm rfl rfl (Eqm.refl n _) h)
theorem movd_back (hg : G g) (hf : okT g f) (z : Pt) : movd g (inv g f) (movd g f col) z = col z := by
  have hi := inv_ok hg hf
  unfold movd
  rw [← To_both hg (inv_ok hg hi), (both_inv hg hi).2, To_idm]
theorem keep_conj (hg : G g) (hf : okT g f) {h : Mv} (hh : okT g h) (k : Keep g col h) : Keep g (movd g f col) (both g (both g f h) (inv g f)) := fun z => by
  have hi := inv_ok hg hf
  rw [To_both hg hi, To_both hg hh, movd_at hg hf, k]
  rfl
theorem keep_back (hg : G g) (hf : okT g f) {h : Mv} (hh : okT g h) (k : Keep g (movd g f col) h) : Keep g col (both g (both g (inv g f) h) f) := fun z => by
  rw [To_both hg hf, To_both hg hh]
  have h1 := k (To g f z)
  rw [movd_at hg hf] at h1
  exact h1
theorem conj_inj (hg : G g) (hf : okT g f) {a b : Mv} (ha : okT g a) (hb : okT g b) (oa : 0 ≤ a.o.1 ∧ a.o.1 < n ∧ 0 ≤ a.o.2 ∧ a.o.2 < n) (ob : 0 ≤ b.o.1 ∧ b.o.1 < n ∧ 0 ≤ b.o.2 ∧ b.o.2 < n)
    (e : redM n (both g (both g f a) (inv g f)) = redM n (both g (both g f b) (inv g f))) : a = b := by
  have hi := inv_ok hg hf
  have key : ∀ {x : Mv}, okT g x → redM n (both g (both g (inv g f) (both g (both g f x) (inv g f))) f) = redM n x := by
    intro x hx
    have : both g (both g (inv g f) (both g (both g f x) (inv g f))) f = x := by
      refine ext_maps hg (both_ok hg _ _) hx fun z => ?_
      rw [To_both hg hf, To_both hg (both_ok hg _ _), To_both hg hi, To_both hg hx, ← To_both hg hf (f := inv g f) (h := f), (both_inv hg hf).1, To_idm, ← To_both hg hf, (both_inv hg hf).1, To_idm]
    rw [this]
  have e2 : redM n (both g (both g (inv g f) (both g (both g f a) (inv g f))) f) = redM n (both g (both g (inv g f) (both g (both g f b) (inv g f))) f) := by
    rw [← both_redL, ← both_redR (g := g) (n := n) (f := inv g f), e, both_redR, both_redL]
  rw [key ha, key hb, redM_self oa, redM_self ob] at e2
  exact e2
theorem moved_length (hg : G g) (hn : 0 < n) (hp : Per n col) (hf : okT g f) (h : Grp g n col L) (h' : Grp g n (movd g f col) L') : L.length = L'.length := by
  have hn2 : (0 : Int) < n := by omega
  have hi := inv_ok hg hf
  have hp' : Per (n : Int) (movd g f col) := movd_per hp
  have hnod : (L.map fun m => redM n (both g (both g f m) (inv g f))).Nodup := by
    unfold List.Nodup
    rw [List.pairwise_map]
    refine List.Pairwise.imp_of_mem ?_ h.nod
    intro x y hx hy hne e
    exact hne (conj_inj hg hf (h.ok hx) (h.ok hy) (h.bd hx) (h.bd hy) e)
  have := perm_length hnod h'.nod (fun m => by
    rw [List.mem_map]
    constructor
    · rintro ⟨x, hx, rfl⟩
      exact h'.red hn2 hp' (both_ok hg _ _) (keep_conj hg hf (h.ok hx) (h.keep hx))
    · intro hm
      have k := keep_back hg hf (h'.ok hm) (h'.keep hm)
      refine ⟨redM n (both g (both g (inv g f) m) f), h.red hn2 hp (both_ok hg _ _) k, ?_⟩
      have e : both g (both g f (both g (both g (inv g f) m) f)) (inv g f) = m := by
        refine ext_maps hg (both_ok hg _ _) (h'.ok hm) fun z => ?_
        rw [To_both hg hi, To_both hg (both_ok hg _ _), To_both hg hf, To_both hg (h'.ok hm), ← To_both hg hi (f := f) (h := inv g f), (both_inv hg hf).2, To_idm, ← To_both hg hi, (both_inv hg hf).2, To_idm]
      rw [← both_redL, both_redR, both_redL, e, redM_self (h'.bd hm)])
  rw [List.length_map] at this
  exact this
end
end Z
end Go.Proofs.Ytooilennejakhaa

namespace Go.Proofs.Ytooilennejakhaa
open Go.RowKit
set_option linter.unusedVariables false
set_option linter.unusedSimpArgs false
namespace Z
/-- How far it is till a pattern comes again. -/
def torN (W H : Nat) : Nat := W / Nat.gcd W H * H
theorem torN_eq (W H : Nat) : torN W H = W * (H / Nat.gcd W H) := by
  unfold torN
  rw [Nat.div_mul_right_comm (Nat.gcd_dvd_left W H), Nat.mul_div_assoc _ (Nat.gcd_dvd_right W H)]
theorem torN_dvd (W H : Nat) : W ∣ torN W H ∧ H ∣ torN W H :=
  ⟨⟨_, torN_eq W H⟩, ⟨W / Nat.gcd W H, by unfold torN; rw [Nat.mul_comm]⟩⟩
theorem torN_pos {W H : Nat} (hW : 0 < W) (hH : 0 < H) : 0 < torN W H := by
  unfold torN
  exact Nat.mul_pos (Nat.div_pos (Nat.le_of_dvd hW (Nat.gcd_dvd_left W H)) (Nat.gcd_pos_of_pos_left H hW)) hH
/-- The first multiple of W that is one of H. -/
theorem torN_min {W H k : Nat} (hW : 0 < W) (hH : 0 < H) (hk : 0 < k) (h : H ∣ W * k) : torN W H ≤ W * k := by
  have hg := Nat.gcd_pos_of_pos_left H hW
  have hc : Nat.Coprime (H / Nat.gcd W H) (W / Nat.gcd W H) := (Nat.coprime_div_gcd_div_gcd hg).symm
  have h1 : H / Nat.gcd W H ∣ W / Nat.gcd W H * k := by
    obtain ⟨m, hm⟩ := h
    refine ⟨m, ?_⟩
    have e1 : Nat.gcd W H * (W / Nat.gcd W H * k) = Nat.gcd W H * (H / Nat.gcd W H * m) := by
      rw [← Nat.mul_assoc, Nat.mul_div_cancel' (Nat.gcd_dvd_left W H), ← Nat.mul_assoc, Nat.mul_div_cancel' (Nat.gcd_dvd_right W H), hm]
    exact Nat.eq_of_mul_eq_mul_left hg e1
  have h2 : H / Nat.gcd W H ∣ k := hc.dvd_of_dvd_mul_left h1
  rw [torN_eq]
  exact Nat.mul_le_mul_left W (Nat.le_of_dvd hk h2)
/-- The colour at a point. -/
def colP (W H : Nat) (cs : List Int) (p : Pt) : Int := cs.getD ((p.2 % (H : Int)).toNat * W + (p.1 % (W : Int)).toNat) 0
theorem colP_per {W H n : Nat} (cs : List Int) (hW : W ∣ n) (hH : H ∣ n) : Per (n : Int) (colP W H cs) := by
  rintro a b ⟨k, rfl⟩
  unfold colP add sml
  simp only
  obtain ⟨x, rfl⟩ := hW
  obtain ⟨y, hy⟩ := hH
  have e1 : (b.1 + ((W * x : Nat) : Int) * k.1) % (W : Int) = b.1 % (W : Int) := by
    rw [Int.natCast_mul, Int.mul_assoc]; exact Int.add_mul_emod_self_left _ _ _
  have e2 : (b.2 + ((W * x : Nat) : Int) * k.2) % (H : Int) = b.2 % (H : Int) := by
    rw [hy, Int.natCast_mul, Int.mul_assoc]; exact Int.add_mul_emod_self_left _ _ _
  rw [e1, e2]
/-- A place on the torus. -/
def place (n : Nat) (p : Pt) : Nat := (p.2 % (n : Int)).toNat * n + (p.1 % (n : Int)).toNat
def pnt (n k : Nat) : Pt := (((k % n : Nat) : Int), ((k / n : Nat) : Int))
theorem place_lt {n : Nat} (hn : 0 < n) (p : Pt) : place n p < n * n := by
  unfold place
  have h1 := Int.emod_nonneg p.1 (show (n : Int) ≠ 0 by omega); have h2 := Int.emod_lt_of_pos p.1 (show (0 : Int) < n by omega)
  have h3 := Int.emod_nonneg p.2 (show (n : Int) ≠ 0 by omega); have h4 := Int.emod_lt_of_pos p.2 (show (0 : Int) < n by omega)
  have : ((p.2 % (n : Int)).toNat + 1) * n ≤ n * n := Nat.mul_le_mul_right n (by omega)
  rw [Nat.add_mul, Nat.one_mul] at this
  omega
theorem pnt_place {n : Nat} (hn : 0 < n) (p : Pt) : pnt n (place n p) = md n p := by
  have h1 := Int.emod_nonneg p.1 (show (n : Int) ≠ 0 by omega); have h2 := Int.emod_lt_of_pos p.1 (show (0 : Int) < n by omega)
  have h3 := Int.emod_nonneg p.2 (show (n : Int) ≠ 0 by omega)
  have hx : (p.1 % (n : Int)).toNat < n := by omega
  unfold pnt place md
  apply ext2
  · simp only
    rw [Nat.mul_comm, Nat.mul_add_mod, Nat.mod_eq_of_lt hx]; omega
  · simp only
    rw [Nat.mul_comm, Nat.mul_add_div hn, Nat.div_eq_of_lt hx]; omega
theorem place_pnt {n k : Nat} (hn : 0 < n) (hk : k < n * n) : place n (pnt n k) = k := by
  unfold place pnt
  simp only
  have h1 : k % n < n := Nat.mod_lt k hn
  have h2 : k / n < n := Nat.div_lt_of_lt_mul hk
  rw [Int.emod_eq_of_lt (Int.natCast_nonneg _) (Int.ofNat_lt.2 h1), Int.emod_eq_of_lt (Int.natCast_nonneg _) (Int.ofNat_lt.2 h2), Int.toNat_natCast, Int.toNat_natCast, Nat.mul_comm]
  exact Nat.div_add_mod k n
/-- Laid out. -/
def laidL (W H : Nat) (cs : List Int) (n : Nat) : List Int := (List.range (n * n)).map fun k => colP W H cs (pnt n k)
theorem laidL_len (W H : Nat) (cs : List Int) (n : Nat) : (laidL W H cs n).length = n * n := by simp [laidL]
theorem laidL_get {W H n k : Nat} {cs : List Int} (h : k < n * n) : (laidL W H cs n).getD k 0 = colP W H cs (pnt n k) := by
  unfold laidL
  rw [List.getD_eq_getElem?_getD, List.getElem?_map, List.getElem?_range h]; rfl
def imageL (g : Int) (n t : Nat) (f : Bool) : List Nat := (List.range (n * n)).map fun k => place n (lin g t f (pnt n k))
theorem imageL_len (g : Int) (n t : Nat) (f : Bool) : (imageL g n t f).length = n * n := by simp [imageL]
theorem imageL_get {g : Int} {n t k : Nat} {f : Bool} (h : k < n * n) : (imageL g n t f).getD k 0 = place n (lin g t f (pnt n k)) := by
  unfold imageL
  rw [List.getD_eq_getElem?_getD, List.getElem?_map, List.getElem?_range h]; rfl
/-- Are the colours kept? -/
def keepB (W H : Nat) (cs : List Int) (g : Int) (n : Nat) (m : Mv) : Bool := (List.range (n * n)).all fun k => decide (colP W H cs (pnt n k) = colP W H cs (To g m (pnt n k)))
theorem keepB_iff {W H n : Nat} {cs : List Int} {g : Int} {m : Mv} (hn : 0 < n) (hW : W ∣ n) (hH : H ∣ n) : keepB W H cs g n m = true ↔ Keep g (colP W H cs) m := by
  unfold keepB
  rw [List.all_eq_true, keep_torus (n := (n : Int)) (by omega) (colP_per cs hW hH)]
  constructor
  · intro h x y x0 x1 y0 y1
    have hz : (x, y) ∈ torusL n := mem_torus.2 ⟨x0, x1, y0, y1⟩
    obtain ⟨k, hk, e⟩ := List.mem_map.1 hz
    have := of_decide_eq_true (h k hk)
    rw [show pnt n k = (x, y) from e] at this
    exact this.symm
  · intro h k hk
    have hz : pnt n k ∈ torusL n := List.mem_map.2 ⟨k, hk, rfl⟩
    rw [mem_torus] at hz
    exact decide_eq_true (h _ _ hz.1 hz.2.1 hz.2.2.1 hz.2.2.2).symm
/-- What the program looks at: a map of the places, moved by so much. -/
theorem keeps_at {W H n k : Nat} {cs : List Int} {g : Int} {t : Nat} {f : Bool} {o : Pt} (hn : 0 < n) (hW : W ∣ n) (hH : H ∣ n) (hk : k < n * n) :
    (laidL W H cs n).getD (place n (add (pnt n ((imageL g n t f).getD k 0)) o)) 0 = colP W H cs (To g ⟨t, f, o⟩ (pnt n k)) := by
  rw [laidL_get (place_lt hn _), pnt_place hn, imageL_get hk, pnt_place hn]
  refine colP_per cs hW hH _ _ ((eqm_md n _).symm.trans ?_)
  unfold To
  exact (eqm_md n _).symm.add (Eqm.refl _ _)
/-- All moves, in their order. -/
def allM (g : Int) (n : Nat) : List Mv := [false, true].flatMap fun f => (List.range g.toNat).flatMap fun t => (List.range (n * n)).map fun k => ⟨t, f, pnt n k⟩
def movesL (W H : Nat) (cs : List Int) (g : Int) (n : Nat) : List Mv := (allM g n).filter (keepB W H cs g n)
theorem mem_allM {g : Int} {n : Nat} {m : Mv} : m ∈ allM g n ↔ okT g m ∧ 0 ≤ m.o.1 ∧ m.o.1 < n ∧ 0 ≤ m.o.2 ∧ m.o.2 < n := by
  unfold allM okT
  simp only [List.mem_flatMap, List.mem_map, List.mem_range]
  constructor
  · rintro ⟨f, _, t, ht, k, hk, rfl⟩
    exact ⟨ht, mem_torus.1 (List.mem_map.2 ⟨k, List.mem_range.2 hk, rfl⟩)⟩
  · rintro ⟨h1, h2⟩
    obtain ⟨k, hk, e⟩ := List.mem_map.1 (mem_torus.2 h2)
    refine ⟨m.f, by cases m.f <;> simp, m.t, h1, k, List.mem_range.1 hk, ?_⟩
    cases m
    simp only [Mv.mk.injEq, true_and]
    exact e
theorem pnt_inj {n a b : Nat} (e : pnt n a = pnt n b) : a = b := by
  have h1 : a % n = b % n := by have := congrArg Prod.fst e; unfold pnt at this; simp only at this; omega
  have h2 : a / n = b / n := by have := congrArg Prod.snd e; unfold pnt at this; simp only at this; omega
  rw [← Nat.div_add_mod a n, ← Nat.div_add_mod b n, h1, h2]
theorem nodup_allM (g : Int) (n : Nat) : (allM g n).Nodup := by
  unfold allM List.Nodup
  rw [List.pairwise_flatMap]
  refine ⟨fun f _ => ?_, ?_⟩
  · rw [List.pairwise_flatMap]
    refine ⟨fun t _ => ?_, ?_⟩
    · rw [List.pairwise_map]
      refine List.Pairwise.imp_of_mem ?_ List.nodup_range
      intro a b _ _ hne e
      injection e with _ _ e
      exact hne (pnt_inj e)
    · refine List.Pairwise.imp_of_mem ?_ List.nodup_range
      intro a b _ _ hne x hx y hy e
      simp only [List.mem_map] at hx hy
      obtain ⟨_, _, rfl⟩ := hx
      obtain ⟨_, _, rfl⟩ := hy
      injection e with e
      exact hne e
  · simp only [List.pairwise_cons, List.mem_cons, List.not_mem_nil, or_false, List.Pairwise.nil, and_true]
    refine ⟨?_, fun _ h => h.elim⟩
    intro b hb x hx y hy e
    subst hb
    simp only [List.mem_flatMap, List.mem_map] at hx hy
    obtain ⟨_, _, _, _, rfl⟩ := hx
    obtain ⟨_, _, _, _, rfl⟩ := hy
    injection e with _ e
    cases e
theorem movesL_grp {W H n : Nat} {cs : List Int} {g : Int} (hn : 0 < n) (hW : W ∣ n) (hH : H ∣ n) : Grp g n (colP W H cs) (movesL W H cs g n) where
  nod := List.Pairwise.filter _ (nodup_allM g n)
  mem m := by
    unfold movesL
    rw [List.mem_filter, mem_allM, keepB_iff hn hW hH]
    exact ⟨fun h => ⟨h.1.1, h.2, h.1.2⟩, fun h => ⟨⟨h.1, h.2.2⟩, h.2.1⟩⟩
end Z
end Go.Proofs.Ytooilennejakhaa

namespace Go.Proofs.Ytooilennejakhaa
open Go.RowKit
set_option linter.unusedVariables false
set_option linter.unusedSimpArgs false
namespace Z
theorem least (p : Nat → Bool) : ∀ n, p n = true → ∃ a, a ≤ n ∧ p a = true ∧ ∀ x, x < a → p x = false := by
  intro n
  induction n using Nat.strongRecOn with
  | _ n ih =>
    intro hn
    by_cases h : ∃ x, x < n ∧ p x = true
    · obtain ⟨x, hx, hp⟩ := h
      obtain ⟨a, ha, h1, h2⟩ := ih x hx hp
      exact ⟨a, by omega, h1, h2⟩
    · refine ⟨n, Nat.le_refl _, hn, fun x hx => ?_⟩
      cases hq : p x with
      | false => rfl
      | true => exact absurd ⟨x, hx, hq⟩ h
/-- One step to the side. -/
structure Sid (p : Nat → Nat → Bool) (n a : Nat) : Prop where
  a1 : 1 ≤ a
  an : a ≤ n
  ka : p a 0 = true
  mn : ∀ x, 1 ≤ x → x < a → p x 0 = false
/-- The lowest one up. -/
structure Upw (p : Nat → Nat → Bool) (n a c b : Nat) : Prop where
  b1 : 1 ≤ b
  bn : b ≤ n
  ca : c < a
  kb : p c b = true
  mn : ∀ y x, 1 ≤ y → y < b → x < a → p x y = false
  mx : ∀ x, x < c → p x b = false
theorem Sid.ex {p : Nat → Nat → Bool} {n : Nat} (hn : 0 < n) (h : p n 0 = true) : ∃ a, Sid p n a := by
  obtain ⟨a, h1, h2, h3⟩ := least (fun x => p (x + 1) 0) (n - 1) (by rw [Nat.sub_add_cancel hn]; exact h)
  exact ⟨a + 1, by omega, by omega, h2, fun x h4 h5 => by have := h3 (x - 1) (by omega); rwa [Nat.sub_add_cancel h4] at this⟩
theorem Upw.ex {p : Nat → Nat → Bool} {n a : Nat} (hn : 0 < n) (ha : 1 ≤ a) (h : p 0 n = true) : ∃ c b, Upw p n a c b := by
  obtain ⟨b, h1, h2, h3⟩ := least (fun y => (List.range a).any fun x => p x (y + 1)) (n - 1) (by rw [Nat.sub_add_cancel hn, List.any_eq_true]; exact ⟨0, List.mem_range.2 ha, h⟩)
  rw [List.any_eq_true] at h2
  obtain ⟨x0, hx0, hp0⟩ := h2
  obtain ⟨c, h4, h5, h6⟩ := least (fun x => p x (b + 1)) x0 hp0
  refine ⟨c, b + 1, by omega, by omega, by have := List.mem_range.1 hx0; omega, h5, fun y x y1 y2 xa => ?_, h6⟩
  have := h3 (y - 1) (by omega)
  rw [Nat.sub_add_cancel y1, List.any_eq_false] at this
  cases hq : p x y with
  | false => rfl
  | true => exact absurd hq (this x (List.mem_range.2 xa))
/-- Is a step kept? -/
def stK (W H : Nat) (cs : List Int) (g : Int) (n : Nat) (x y : Nat) : Bool := keepB W H cs g n ⟨0, false, ((x : Int), (y : Int))⟩
section
variable {W H n : Nat} {cs : List Int} {g : Int}
theorem stK_iff (hn : 0 < n) (hW : W ∣ n) (hH : H ∣ n) {x y : Nat} : stK W H cs g n x y = true ↔ Stp (colP W H cs) ((x : Int), (y : Int)) := by
  unfold stK; rw [keepB_iff hn hW hH, stp_keep]
theorem stK_n (hn : 0 < n) (hW : W ∣ n) (hH : H ∣ n) : stK W H cs g n n 0 = true ∧ stK W H cs g n 0 n = true := by
  have hp := colP_per cs hW hH
  have s0 := (stp_sub (colP W H cs)).zero
  rw [stK_iff hn hW hH, stK_iff hn hW hH]
  exact ⟨(stp_per hp ⟨(1, 0), by unfold add sml; simp⟩).2 s0, (stp_per hp ⟨(0, 1), by unfold add sml; simp⟩).2 s0⟩
theorem fine_ex (hn : 0 < n) (hW : W ∣ n) (hH : H ∣ n) : ∃ a c b, Sid (stK W H cs g n) n a ∧ Upw (stK W H cs g n) n a c b := by
  obtain ⟨h1, h2⟩ := stK_n (g := g) (cs := cs) hn hW hH
  obtain ⟨a, ha⟩ := Sid.ex hn h1
  obtain ⟨c, b, h⟩ := Upw.ex hn ha.a1 h2
  exact ⟨a, c, b, ha, h⟩
theorem fine_of (hn : 0 < n) (hW : W ∣ n) (hH : H ∣ n) {a c b : Nat} (ha : Sid (stK W H cs g n) n a) (hb : Upw (stK W H cs g n) n a c b) : Fine (Stp (colP W H cs)) a b c where
  a0 := by have := ha.a1; omega
  sa := (stK_iff hn hW hH).1 ha.ka
  amin x x0 xa hx := by
    obtain ⟨m, rfl⟩ := Int.eq_ofNat_of_zero_le (show 0 ≤ x by omega)
    have h := ha.mn m (by omega) (by omega)
    have h2 := (stK_iff (g := g) hn hW hH (x := m) (y := 0)).2 hx
    rw [h] at h2; cases h2
  b0 := by have := hb.b1; omega
  c0 := by omega
  c1 := by have := hb.ca; omega
  sb := (stK_iff hn hW hH).1 hb.kb
  bmin x y y0 yb x0 xa hx := by
    obtain ⟨m, rfl⟩ := Int.eq_ofNat_of_zero_le (show 0 ≤ x by omega)
    obtain ⟨k, rfl⟩ := Int.eq_ofNat_of_zero_le (show 0 ≤ y by omega)
    have h := hb.mn k m (by omega) (by omega) (by omega)
    have h2 := (stK_iff (g := g) hn hW hH (x := m) (y := k)).2 hx
    rw [h] at h2; cases h2
/-- The first points. -/
def domL (W H : Nat) (cs : List Int) (g : Int) (n : Nat) : List Nat := (List.range (n * n)).filter fun k => firstB g n (movesL W H cs g n) (pnt n k)
theorem pnt_mem (hn : 0 < n) {k : Nat} (hk : k < n * n) : pnt n k ∈ torusL n := List.mem_map.2 ⟨k, List.mem_range.2 hk, rfl⟩
theorem rank_pnt (n k : Nat) : rankP n (pnt n k) = k := by
  unfold rankP pnt
  simp only [Int.toNat_natCast]
  rw [Nat.mul_comm]; exact Nat.div_add_mod k n
theorem place_act (g : Int) (n : Nat) (m : Mv) (z : Pt) : place n (To g m z) = rankP n (act g n m z) := rfl
theorem pnt_rank {z : Pt} (hz : z ∈ torusL n) : pnt n (rankP n z) = z := by
  obtain ⟨k, hk, rfl⟩ := List.mem_map.1 hz
  exact congrArg (pnt n) (rank_pnt n k)
theorem rank_lt {z : Pt} (hz : z ∈ torusL n) : rankP n z < n * n := by
  obtain ⟨k, hk, rfl⟩ := List.mem_map.1 hz
  rw [show rankP n (((k % n : Nat) : Int), ((k / n : Nat) : Int)) = k from rank_pnt n k]
  exact List.mem_range.1 hk
theorem first_ex {L : List Mv} {col : Pt → Int} (hg : G g) (hn : 0 < n) (hp : Per n col) (h : Grp g n col L) : ∀ k, k < n * n → ∃ p, p ≤ k ∧ firstB g n L (pnt n p) = true ∧ ∃ f ∈ L, rankP n (act g n f (pnt n p)) = k := by
  have hn2 : (0 : Int) < n := by omega
  intro k
  induction k using Nat.strongRecOn with
  | _ k ih =>
    intro hk
    have hz := pnt_mem hn hk
    cases hq : firstB g n L (pnt n k) with
    | true => exact ⟨k, Nat.le_refl _, hq, idm, h.one hg hn2, by rw [act_one (mem_torus.1 hz), rank_pnt]⟩
    | false =>
      unfold firstB at hq
      rw [List.all_eq_false] at hq
      obtain ⟨f, hf, hlt⟩ := hq
      have hlt2 : rankP n (act g n f (pnt n k)) < k := by
        have h3 := rank_pnt n k
        simp only [decide_eq_true_eq, h3] at hlt
        omega
      have hm := act_mem hn (g := g) f (pnt n k)
      obtain ⟨p, hpk, hfp, e, he, hr⟩ := ih _ hlt2 (rank_lt hm)
      refine ⟨p, by omega, hfp, mulM g n (invM g n f) e, h.mul hg hn2 hp (h.inv hg hn2 hp hf) he, ?_⟩
      have h4 : act g n e (pnt n p) = act g n f (pnt n k) := rankP_inj (act_mem hn _ _) hm hr
      rw [act_mul hg (h.ok he), h4, act_inv hg hn2 (h.ok hf) (mem_torus.1 hz), rank_pnt]
/-- What the places seen so far tell. -/
theorem seen_first {L : List Mv} {col : Pt → Int} (hg : G g) (hn : 0 < n) (hp : Per n col) (h : Grp g n col L) {k : Nat} (hk : k < n * n) :
    (∃ p, p < k ∧ firstB g n L (pnt n p) = true ∧ ∃ f ∈ L, rankP n (act g n f (pnt n p)) = k) ↔ firstB g n L (pnt n k) = false := by
  have hn2 : (0 : Int) < n := by omega
  constructor
  · rintro ⟨p, hpk, hfp, f, hf, hr⟩
    cases hq : firstB g n L (pnt n k) with
    | false => rfl
    | true =>
      have hpn : p < n * n := by omega
      have e : act g n f (pnt n p) = pnt n k := by rw [← pnt_rank (act_mem hn f (pnt n p)), hr]
      have := first_alone hg hn hp h (pnt_mem hn hpn) (pnt_mem hn hk) hfp hq hf e
      exact absurd (pnt_inj this) (by omega)
  · intro hq
    obtain ⟨p, hpk, hfp, f, hf, hr⟩ := first_ex hg hn hp h k hk
    refine ⟨p, ?_, hfp, f, hf, hr⟩
    rcases Nat.lt_or_ge p k with h1 | h1
    · exact h1
    · obtain rfl : p = k := by omega
      rw [hfp] at hq; cases hq
/-- A pattern moved, place by place. -/
def movdL (W H : Nat) (cs : List Int) (g : Int) (n : Nat) (m : Mv) : Nat → List Int
  | 0 => List.replicate (n * n) 0
  | k + 1 => (movdL W H cs g n m k).set (place n (To g m (pnt n k))) (colP W H cs (pnt n k))
theorem movdL_len (m : Mv) : ∀ k, (movdL W H cs g n m k).length = n * n
  | 0 => by simp [movdL]
  | k + 1 => by simp [movdL, movdL_len m k]
theorem movdL_get (hg : G g) (hn : 0 < n) (hW : W ∣ n) (hH : H ∣ n) {m : Mv} (hm : okT g m) : ∀ k, k ≤ n * n → ∀ j, j < n * n → rankP n (act g n (inv g m) (pnt n j)) < k → (movdL W H cs g n m k).getD j 0 = colP W H cs (To g (inv g m) (pnt n j))
  | 0, _, _, _, h => absurd h (by omega)
  | k + 1, hk, j, hj, h => by
    have hn2 : (0 : Int) < n := by omega
    have hi := inv_ok hg hm
    simp only [movdL]
    have hl := movdL_len (W := W) (H := H) (cs := cs) (g := g) (n := n) m k
    rw [List.getD_eq_getElem?_getD, List.getElem?_set]
    by_cases e : place n (To g m (pnt n k)) = j
    · rw [if_pos e, if_pos (by rw [hl, e]; exact hj)]
      simp only [Option.getD_some]
      have e2 : md n (To g m (pnt n k)) = pnt n j := by rw [← e, pnt_place hn]
      refine colP_per cs hW hH _ _ ?_
      have h3 : Eqm n (pnt n j) (To g m (pnt n k)) := by rw [← e2]; exact (eqm_md n _).symm
      have h4 := To_eqm (g := g) (m := inv g m) (h := inv g m) rfl rfl (Eqm.refl n _) h3
      rw [← To_both hg hm, (both_inv hg hm).1, To_idm] at h4
      exact h4.symm
    · rw [if_neg e, ← List.getD_eq_getElem?_getD]
      refine movdL_get hg hn hW hH hm k (by omega) j hj ?_
      rcases Nat.lt_or_ge (rankP n (act g n (inv g m) (pnt n j))) k with h1 | h1
      · exact h1
      · exfalso
        have h2 : rankP n (act g n (inv g m) (pnt n j)) = k := by omega
        apply e
        have h3 : act g n (inv g m) (pnt n j) = pnt n k := by rw [← h2, pnt_rank (act_mem hn _ _)]
        rw [← h3, place_act]
        have h5 : act g n m (act g n (inv g m) (pnt n j)) = pnt n j := by
          unfold act
          have h6 := To_eqm (g := g) (m := m) (h := m) rfl rfl (Eqm.refl n _) (eqm_md n (To g (inv g m) (pnt n j)))
          rw [← To_both hg hi, (both_inv hg hm).2, To_idm] at h6
          rw [← md_eq h6]
          exact md_self (mem_torus.1 (pnt_mem hn hj))
        rw [h5, rank_pnt]
theorem movdL_movd (hg : G g) (hn : 0 < n) (hW : W ∣ n) (hH : H ∣ n) {m : Mv} (hm : okT g m) (j : Nat) (hj : j < n * n) : (movdL W H cs g n m (n * n)).getD j 0 = movd g m (colP W H cs) (pnt n j) :=
  movdL_get hg hn hW hH hm (n * n) (Nat.le_refl _) j hj (rank_lt (act_mem hn _ _))
/-- What stands in the moved chart is the pattern moved. -/
theorem movd_col (hg : G g) (hn : 0 < n) (hW : W ∣ n) (hH : H ∣ n) {m : Mv} (hm : okT g m) : colP n n (movdL W H cs g n m (n * n)) = movd g m (colP W H cs) := by
  funext p
  have h1 : colP n n (movdL W H cs g n m (n * n)) p = (movdL W H cs g n m (n * n)).getD (place n p) 0 := rfl
  rw [h1, movdL_movd hg hn hW hH hm _ (place_lt hn p), pnt_place hn]
  exact movd_per (colP_per cs hW hH) _ _ (eqm_md n p).symm
theorem movdL_mem {m : Mv} {P : Int → Prop} (h0 : P 0) (hc : ∀ x ∈ cs, P x) : ∀ k, ∀ x ∈ movdL W H cs g n m k, P x
  | 0, x, hx => by simp only [movdL, List.mem_replicate] at hx; rw [hx.2]; exact h0
  | k + 1, x, hx => by
    simp only [movdL] at hx
    rcases List.mem_or_eq_of_mem_set hx with h | rfl
    · exact movdL_mem h0 hc k x h
    · unfold colP
      rw [List.getD_eq_getElem?_getD]
      cases hq : cs[(((pnt n k).2 % (H : Int)).toNat * W + ((pnt n k).1 % (W : Int)).toNat)]? with
      | none => exact h0
      | some y => exact hc y (List.mem_of_getElem? hq)
theorem torN_self {n : Nat} (hn : 0 < n) : torN n n = n := by unfold torN; rw [Nat.gcd_self, Nat.div_self hn, Nat.one_mul]
end
end Z
end Go.Proofs.Ytooilennejakhaa

namespace Go.Proofs.Ytooilennejakhaa
open Go.RowKit
set_option linter.unusedVariables false
set_option linter.unusedSimpArgs false
/-- t is the type of slices of e, an element of 'size' cells and 'bytes' bytes, zero z. -/
def ElemOk (t e size bytes : Nat) (z : Value) : Prop :=
  Try.prog.underlying t = some (.slice e) ∧ (Try.prog.info? e).map (fun i => (i.zero, i.size, i.bytes)) = some (some z, size, bytes) ∧ z.cells.size = size ∧ 0 < size
theorem belowGrown {B : Nat} {W w' : World} {v : Value} (hg : W.grownBy w' v.ownBlock) (hB : B ≤ W.heap.size) (hr : ∀ k, v.ownBlock = some k → B ≤ k) : Below B W w' :=
  (Below.refl B W).grown hg hB hr
/-- 'append(s, x)' of one element x, whose cells are cs. -/
theorem wpApp {W : World} {ops : Array Oper} {rest : List Oper} {o : Oper} {a : Act} {Q : Exit → Act → World → Prop} {t e size bytes : Nat} {z : Value} (hE : ElemOk t e size bytes z)
    (hgd : o.guard = none) (s x : Operand) (ho : o.op = .call { callee := .builtin .append, args := #[s, x], argTypes := #[t, t] })
    (base : Nat) (v : Value) (n : Nat) (xs : List Value) (cs : Array Value) (hs : a.eval s = v) (hown : W.ownsRow base e size v n xs)
    (hx : a.eval x = .slice (some ⟨W.heap.size, 0, none⟩) 1 1) (hl : cs.size = size) (h1 : ∀ u ∈ cs.toList, u.oneCell' = true)
    (hb : bytes ≤ 4096) (hn : n ≤ 1000000000) (hbase : base ≤ W.heap.size)
    (h : ∀ v' w', w'.ownsRow base e size v' (n + 1) (xs ++ cs.toList) → Below base W w' → wpList Try.prog ops Q rest (a.put o.dst v') w') : wpList Try.prog ops Q (o :: rest) a (W.alloc (.cells cs e)) := by
  obtain ⟨h2, h3, h4, h5⟩ := hE
  obtain ⟨i0, hi, hz0, hz1, hz2⟩ := info_parts h3
  refine wpList_append_own _ hgd s x t ho base e i0 z size bytes h2 hi hz0 hz1 hz2 h4 h5 v n xs hs (hown.alloc _) ⟨W.heap.size, 0, none⟩ 1 1 cs.toList hx (by simpa using hl) ?_ h1 (by unfold maxLen; omega) ?_ (by simp; omega) ?_
  · intro j u hj
    have : (⟨W.heap.size, 0, none⟩ : Addr).add j = ⟨W.heap.size, j, none⟩ := by rw [Addr.add_lit]; simp
    rw [this, World.cell?_alloc_new]
    simpa using hj
  · calc (n + 1) * bytes ≤ 1000000001 * 4096 := Nat.mul_le_mul (by omega) hb
      _ ≤ 140737488355328 := by omega
  · intro v' w' hown' hg _
    refine h v' w' hown' ?_
    have hk := hown.lt
    exact ((Below.refl base W).alloc hbase _).trans (belowGrown hg (by simp; omega) fun k hk' => (hk k hk').1)
/-- A list of integers that came in: at address a (of no account where the list is empty). -/
def IsInts (w : World) (a : Option Addr) (n : Nat) (zs : List Int) : Prop :=
  zs.length = n ∧ (0 < n → ∃ b o, a = some ⟨b, o, none⟩ ∧ b < w.heap.size ∧ ∀ j, j < n → w.cell? ⟨b, o + j, none⟩ = some (.int .i64 (zs.getD j 0)))
theorem IsInts.below {w w' : World} {a : Option Addr} {n : Nat} {zs : List Int} (h : IsInts w a n zs) (hb : Below w.heap.size w w') : IsInts w' a n zs := by
  refine ⟨h.1, fun hn => ?_⟩
  obtain ⟨b, o, h1, h2, h3⟩ := h.2 hn
  exact ⟨b, o, h1, Nat.lt_of_lt_of_le h2 hb.size, fun j hj => bCs hb (h3 j hj)⟩
/-- 'make([]T, n)', T of one cell. -/
theorem makeRow {t e bytes : Nat} {z : Value} (hE : ElemOk t e 1 bytes z) (hz : z.cells = #[z]) (n : Nat) (hb : bytes ≤ 4096) (hn : n ≤ 1000000000) : ∀ w : World,
    (Instr.makeSlice t (.int .i64 (n : Int)) (.int .i64 (n : Int))).run Try.prog w = .ok (.slice (some ⟨w.heap.size, 0, none⟩) n n) (w.alloc (.cells (madeCells #[z] n) e)) :=
  run_make_row' t e z bytes hE.1 hE.2.1 hz .i64 .i64 n (Nat.le_trans (Nat.mul_le_mul hb hn) (by omega)) (by omega)
theorem rowBelow {w w' : World} {b t n B : Nat} {f : Nat → Value} (h : w.rowIs b t n f) (hb : Below B w w') (hB : b < B) : w'.rowIs b t n f := h.of_block (hb.block b hB)
theorem getD_set (l : List Int) (i j : Nat) (v : Int) (hi : i < l.length) : (l.set i v).getD j 0 = if j = i then v else l.getD j 0 := by
  rw [List.getD_eq_getElem?_getD, List.getElem?_set, List.getD_eq_getElem?_getD]
  by_cases h : i = j
  · subst h; simp [hi]
  · rw [if_neg h, if_neg (fun e => h e.symm)]
end Go.Proofs.Ytooilennejakhaa
