/- Lemmas on which the law of this seat rests; each states its own conditions. -/
import Derived.Test.YtajdoobkfbdgoaaDoorC02
import Derived.Test.YtajdoobkfbdgoaaDoorC01
import Derived.Deep.OwnRows
import Derived.StillTail
set_option linter.unusedVariables false
set_option linter.unusedSimpArgs false
namespace Go.Proofs.YtajdoobkfbdgoaaDoor
section
open Go.RowKit
namespace Z
def torN (W H : Nat) : Nat := W / Nat.gcd W H * H
theorem torN_eq (W H : Nat) : torN W H = W * (H / Nat.gcd W H) := by
 unfold torN
 rw [Nat.div_mul_right_comm (Nat.gcd_dvd_left W H), Nat.mul_div_assoc _ (Nat.gcd_dvd_right W H)]
theorem torN_dvd (W H : Nat) : W ∣ torN W H ∧ H ∣ torN W H :=
 ⟨⟨_, torN_eq W H⟩, ⟨W / Nat.gcd W H, by unfold torN; rw [Nat.mul_comm]⟩⟩
theorem torN_pos {W H : Nat} (hW : 0 < W) (hH : 0 < H) : 0 < torN W H := by
 unfold torN
 exact Nat.mul_pos (Nat.div_pos (Nat.le_of_dvd hW (Nat.gcd_dvd_left W H)) (Nat.gcd_pos_of_pos_left H hW)) hH
def colP (W H : Nat) (cs : List Int) (p : Pt) : Int := cs.getD ((p.2 % (H : Int)).toNat * W + (p.1 % (W : Int)).toNat) 0
theorem colP_per {W H n : Nat} (cs : List Int) (hW : W ∣ n) (hH : H ∣ n) : Per (n : Int) (colP W H cs) := by
 rintro a b ⟨k, rfl⟩
 unfold colP add sml
 simp only
 obtain ⟨x, rfl⟩ := hW
 obtain ⟨y, hy⟩ := hH
 have e1 : (b.1 + ((W * x : Nat) : Int) * k.1) % (W : Int) = b.1 % (W : Int) := by
  rw [Int.natCast_mul, Int.mul_assoc]; exact Int.add_mul_emod_self_left _ _ _
 have e2 : (b.2 + ((W * x : Nat) : Int) * k.2) % (H : Int) = b.2 % (H : Int) := by
  rw [hy, Int.natCast_mul, Int.mul_assoc]; exact Int.add_mul_emod_self_left _ _ _
 rw [e1, e2]
def place (n : Nat) (p : Pt) : Nat := (p.2 % (n : Int)).toNat * n + (p.1 % (n : Int)).toNat
def pnt (n k : Nat) : Pt := (((k % n : Nat) : Int), ((k / n : Nat) : Int))
theorem place_lt {n : Nat} (hn : 0 < n) (p : Pt) : place n p < n * n := by
 unfold place
 have h1 := Int.emod_nonneg p.1 (show (n : Int) ≠ 0 by omega); have h2 := Int.emod_lt_of_pos p.1 (show (0 : Int) < n by omega)
 have h3 := Int.emod_nonneg p.2 (show (n : Int) ≠ 0 by omega); have h4 := Int.emod_lt_of_pos p.2 (show (0 : Int) < n by omega)
 have : ((p.2 % (n : Int)).toNat + 1) * n ≤ n * n := Nat.mul_le_mul_right n (by omega)
 rw [Nat.add_mul, Nat.one_mul] at this
 omega
theorem pnt_place {n : Nat} (hn : 0 < n) (p : Pt) : pnt n (place n p) = md n p := by
 have h1 := Int.emod_nonneg p.1 (show (n : Int) ≠ 0 by omega); have h2 := Int.emod_lt_of_pos p.1 (show (0 : Int) < n by omega)
 have h3 := Int.emod_nonneg p.2 (show (n : Int) ≠ 0 by omega)
 have hx : (p.1 % (n : Int)).toNat < n := by omega
 unfold pnt place md
 apply ext2
 ·simp only
  rw [Nat.mul_comm, Nat.mul_add_mod, Nat.mod_eq_of_lt hx]; omega
 ·simp only
  rw [Nat.mul_comm, Nat.mul_add_div hn, Nat.div_eq_of_lt hx]; omega
def laidL (W H : Nat) (cs : List Int) (n : Nat) : List Int := (List.range (n * n)).map fun k => colP W H cs (pnt n k)
theorem laidL_len (W H : Nat) (cs : List Int) (n : Nat) : (laidL W H cs n).length = n * n := by simp [laidL]
theorem laidL_get {W H n k : Nat} {cs : List Int} (h : k < n * n) : (laidL W H cs n).getD k 0 = colP W H cs (pnt n k) := by
 unfold laidL
 rw [List.getD_eq_getElem?_getD, List.getElem?_map, List.getElem?_range h]; rfl
def imageL (g : Int) (n t : Nat) (f : Bool) : List Nat := (List.range (n * n)).map fun k => place n (lin g t f (pnt n k))
theorem imageL_len (g : Int) (n t : Nat) (f : Bool) : (imageL g n t f).length = n * n := by simp [imageL]
theorem imageL_get {g : Int} {n t k : Nat} {f : Bool} (h : k < n * n) : (imageL g n t f).getD k 0 = place n (lin g t f (pnt n k)) := by
 unfold imageL
 rw [List.getD_eq_getElem?_getD, List.getElem?_map, List.getElem?_range h]; rfl
def keepB (W H : Nat) (cs : List Int) (g : Int) (n : Nat) (m : Mv) : Bool := (List.range (n * n)).all fun k => decide (colP W H cs (pnt n k) = colP W H cs (To g m (pnt n k)))
theorem keepB_iff {W H n : Nat} {cs : List Int} {g : Int} {m : Mv} (hn : 0 < n) (hW : W ∣ n) (hH : H ∣ n) : keepB W H cs g n m = true ↔ Keep g (colP W H cs) m := by
 unfold keepB
 rw [List.all_eq_true, keep_torus (n := (n : Int)) (by omega) (colP_per cs hW hH)]
 constructor
 ·intro h x y x0 x1 y0 y1
  have hz : (x, y) ∈ torusL n := mem_torus.2 ⟨x0, x1, y0, y1⟩
  obtain ⟨k, hk, e⟩ := List.mem_map.1 hz
  have := of_decide_eq_true (h k hk)
  rw [show pnt n k = (x, y) from e] at this
  exact this.symm
 ·intro h k hk
  have hz : pnt n k ∈ torusL n := List.mem_map.2 ⟨k, hk, rfl⟩
  rw [mem_torus] at hz
  exact decide_eq_true (h _ _ hz.1 hz.2.1 hz.2.2.1 hz.2.2.2).symm
theorem keeps_at {W H n k : Nat} {cs : List Int} {g : Int} {t : Nat} {f : Bool} {o : Pt} (hn : 0 < n) (hW : W ∣ n) (hH : H ∣ n) (hk : k < n * n) :
  (laidL W H cs n).getD (place n (add (pnt n ((imageL g n t f).getD k 0)) o)) 0 = colP W H cs (To g ⟨t, f, o⟩ (pnt n k)) := by
 rw [laidL_get (place_lt hn _), pnt_place hn, imageL_get hk, pnt_place hn]
 refine colP_per cs hW hH _ _ ((eqm_md n _).symm.trans ?_)
 unfold To
 exact (eqm_md n _).symm.add (Eqm.refl _ _)
def allM (g : Int) (n : Nat) : List Mv := [false, true].flatMap fun f => (List.range g.toNat).flatMap fun t => (List.range (n * n)).map fun k => ⟨t, f, pnt n k⟩
def movesL (W H : Nat) (cs : List Int) (g : Int) (n : Nat) : List Mv := (allM g n).filter (keepB W H cs g n)
theorem mem_allM {g : Int} {n : Nat} {m : Mv} : m ∈ allM g n ↔ okT g m ∧ 0 ≤ m.o.1 ∧ m.o.1 < n ∧ 0 ≤ m.o.2 ∧ m.o.2 < n := by
 unfold allM okT
 simp only [List.mem_flatMap, List.mem_map, List.mem_range]
 constructor
 ·rintro ⟨f, _, t, ht, k, hk, rfl⟩
  exact ⟨ht, mem_torus.1 (List.mem_map.2 ⟨k, List.mem_range.2 hk, rfl⟩)⟩
 ·rintro ⟨h1, h2⟩
  obtain ⟨k, hk, e⟩ := List.mem_map.1 (mem_torus.2 h2)
  refine ⟨m.f, by cases m.f <;> simp, m.t, h1, k, List.mem_range.1 hk, ?_⟩
  cases m
  simp only [Mv.mk.injEq, true_and]
  exact e
theorem pnt_inj {n a b : Nat} (e : pnt n a = pnt n b) : a = b := by
 have h1 : a % n = b % n := by have := congrArg Prod.fst e; unfold pnt at this; simp only at this; omega
 have h2 : a / n = b / n := by have := congrArg Prod.snd e; unfold pnt at this; simp only at this; omega
 rw [← Nat.div_add_mod a n, ← Nat.div_add_mod b n, h1, h2]
theorem nodup_allM (g : Int) (n : Nat) : (allM g n).Nodup := by
 unfold allM List.Nodup
 rw [List.pairwise_flatMap]
 refine ⟨fun f _ => ?_, ?_⟩
 ·rw [List.pairwise_flatMap]
  refine ⟨fun t _ => ?_, ?_⟩
  ·rw [List.pairwise_map]
   refine List.Pairwise.imp_of_mem ?_ List.nodup_range
   intro a b _ _ hne e
   injection e with _ _ e
   exact hne (pnt_inj e)
  ·refine List.Pairwise.imp_of_mem ?_ List.nodup_range
   intro a b _ _ hne x hx y hy e
   simp only [List.mem_map] at hx hy
   obtain ⟨_, _, rfl⟩ := hx
   obtain ⟨_, _, rfl⟩ := hy
   injection e with e
   exact hne e
 ·simp only [List.pairwise_cons, List.mem_cons, List.not_mem_nil, or_false, List.Pairwise.nil, and_true]
  refine ⟨?_, fun _ h => h.elim⟩
  intro b hb x hx y hy e
  subst hb
  simp only [List.mem_flatMap, List.mem_map] at hx hy
  obtain ⟨_, _, _, _, rfl⟩ := hx
  obtain ⟨_, _, _, _, rfl⟩ := hy
  injection e with _ e
  cases e
theorem movesL_grp {W H n : Nat} {cs : List Int} {g : Int} (hn : 0 < n) (hW : W ∣ n) (hH : H ∣ n) : Grp g n (colP W H cs) (movesL W H cs g n) where
 nod := List.Pairwise.filter _ (nodup_allM g n)
 mem m := by
  unfold movesL
  rw [List.mem_filter, mem_allM, keepB_iff hn hW hH]
  exact ⟨fun h => ⟨h.1.1, h.2, h.1.2⟩, fun h => ⟨⟨h.1, h.2.2⟩, h.2.1⟩⟩
end Z
end
section
open Go.RowKit
namespace Z
theorem least (p : Nat → Bool) : ∀ n, p n = true → ∃ a, a ≤ n ∧ p a = true ∧ ∀ x, x < a → p x = false := by
 intro n
 induction n using Nat.strongRecOn with
 | _ n ih =>
  intro hn
  by_cases h : ∃ x, x < n ∧ p x = true
  ·obtain ⟨x, hx, hp⟩ := h
   obtain ⟨a, ha, h1, h2⟩ := ih x hx hp
   exact ⟨a, by omega, h1, h2⟩
  ·refine ⟨n, Nat.le_refl _, hn, fun x hx => ?_⟩
   cases hq : p x with
   | false => rfl
   | true => exact absurd ⟨x, hx, hq⟩ h
structure Sid (p : Nat → Nat → Bool) (n a : Nat) : Prop where
 a1 : 1 ≤ a
 an : a ≤ n
 ka : p a 0 = true
 mn : ∀ x, 1 ≤ x → x < a → p x 0 = false
structure Upw (p : Nat → Nat → Bool) (n a c b : Nat) : Prop where
 b1 : 1 ≤ b
 bn : b ≤ n
 ca : c < a
 kb : p c b = true
 mn : ∀ y x, 1 ≤ y → y < b → x < a → p x y = false
 mx : ∀ x, x < c → p x b = false
theorem Sid.ex {p : Nat → Nat → Bool} {n : Nat} (hn : 0 < n) (h : p n 0 = true) : ∃ a, Sid p n a := by
 obtain ⟨a, h1, h2, h3⟩ := least (fun x => p (x + 1) 0) (n - 1) (by rw [Nat.sub_add_cancel hn]; exact h)
 exact ⟨a + 1, by omega, by omega, h2, fun x h4 h5 => by have := h3 (x - 1) (by omega); rwa [Nat.sub_add_cancel h4] at this⟩
theorem Upw.ex {p : Nat → Nat → Bool} {n a : Nat} (hn : 0 < n) (ha : 1 ≤ a) (h : p 0 n = true) : ∃ c b, Upw p n a c b := by
 obtain ⟨b, h1, h2, h3⟩ := least (fun y => (List.range a).any fun x => p x (y + 1)) (n - 1) (by rw [Nat.sub_add_cancel hn, List.any_eq_true]; exact ⟨0, List.mem_range.2 ha, h⟩)
 rw [List.any_eq_true] at h2
 obtain ⟨x0, hx0, hp0⟩ := h2
 obtain ⟨c, h4, h5, h6⟩ := least (fun x => p x (b + 1)) x0 hp0
 refine ⟨c, b + 1, by omega, by omega, by have := List.mem_range.1 hx0; omega, h5, fun y x y1 y2 xa => ?_, h6⟩
 have := h3 (y - 1) (by omega)
 rw [Nat.sub_add_cancel y1, List.any_eq_false] at this
 cases hq : p x y with
 | false => rfl
 | true => exact absurd hq (this x (List.mem_range.2 xa))
def stK (W H : Nat) (cs : List Int) (g : Int) (n : Nat) (x y : Nat) : Bool := keepB W H cs g n ⟨0, false, ((x : Int), (y : Int))⟩
section
variable {W H n : Nat} {cs : List Int} {g : Int}
theorem stK_iff (hn : 0 < n) (hW : W ∣ n) (hH : H ∣ n) {x y : Nat} : stK W H cs g n x y = true ↔ Stp (colP W H cs) ((x : Int), (y : Int)) := by
 unfold stK; rw [keepB_iff hn hW hH, stp_keep]
theorem stK_n (hn : 0 < n) (hW : W ∣ n) (hH : H ∣ n) : stK W H cs g n n 0 = true ∧ stK W H cs g n 0 n = true := by
 have hp := colP_per cs hW hH
 have s0 := (stp_sub (colP W H cs)).zero
 rw [stK_iff hn hW hH, stK_iff hn hW hH]
 exact ⟨(stp_per hp ⟨(1, 0), by unfold add sml; simp⟩).2 s0, (stp_per hp ⟨(0, 1), by unfold add sml; simp⟩).2 s0⟩
theorem fine_ex (hn : 0 < n) (hW : W ∣ n) (hH : H ∣ n) : ∃ a c b, Sid (stK W H cs g n) n a ∧ Upw (stK W H cs g n) n a c b := by
 obtain ⟨h1, h2⟩ := stK_n (g := g) (cs := cs) hn hW hH
 obtain ⟨a, ha⟩ := Sid.ex hn h1
 obtain ⟨c, b, h⟩ := Upw.ex hn ha.a1 h2
 exact ⟨a, c, b, ha, h⟩
theorem fine_of (hn : 0 < n) (hW : W ∣ n) (hH : H ∣ n) {a c b : Nat} (ha : Sid (stK W H cs g n) n a) (hb : Upw (stK W H cs g n) n a c b) : Fine (Stp (colP W H cs)) a b c where
 a0 := by have := ha.a1; omega
 sa := (stK_iff hn hW hH).1 ha.ka
 amin x x0 xa hx := by
  obtain ⟨m, rfl⟩ := Int.eq_ofNat_of_zero_le (show 0 ≤ x by omega)
  have h := ha.mn m (by omega) (by omega)
  have h2 := (stK_iff (g := g) hn hW hH (x := m) (y := 0)).2 hx
  rw [h] at h2; cases h2
 b0 := by have := hb.b1; omega
 c0 := by omega
 c1 := by have := hb.ca; omega
 sb := (stK_iff hn hW hH).1 hb.kb
 bmin x y y0 yb x0 xa hx := by
  obtain ⟨m, rfl⟩ := Int.eq_ofNat_of_zero_le (show 0 ≤ x by omega)
  obtain ⟨k, rfl⟩ := Int.eq_ofNat_of_zero_le (show 0 ≤ y by omega)
  have h := hb.mn k m (by omega) (by omega) (by omega)
  have h2 := (stK_iff (g := g) hn hW hH (x := m) (y := k)).2 hx
  rw [h] at h2; cases h2
theorem pnt_mem (hn : 0 < n) {k : Nat} (hk : k < n * n) : pnt n k ∈ torusL n := List.mem_map.2 ⟨k, List.mem_range.2 hk, rfl⟩
theorem rank_pnt (n k : Nat) : rankP n (pnt n k) = k := by
 unfold rankP pnt
 simp only [Int.toNat_natCast]
 rw [Nat.mul_comm]; exact Nat.div_add_mod k n
theorem place_act (g : Int) (n : Nat) (m : Mv) (z : Pt) : place n (To g m z) = rankP n (act g n m z) := rfl
theorem pnt_rank {z : Pt} (hz : z ∈ torusL n) : pnt n (rankP n z) = z := by
 obtain ⟨k, hk, rfl⟩ := List.mem_map.1 hz
 exact congrArg (pnt n) (rank_pnt n k)
theorem rank_lt {z : Pt} (hz : z ∈ torusL n) : rankP n z < n * n := by
 obtain ⟨k, hk, rfl⟩ := List.mem_map.1 hz
 rw [show rankP n (((k % n : Nat) : Int), ((k / n : Nat) : Int)) = k from rank_pnt n k]
 exact List.mem_range.1 hk
theorem first_ex {L : List Mv} {col : Pt → Int} (hg : G g) (hn : 0 < n) (hp : Per n col) (h : Grp g n col L) : ∀ k, k < n * n → ∃ p, p ≤ k ∧ firstB g n L (pnt n p) = true ∧ ∃ f ∈ L, rankP n (act g n f (pnt n p)) = k := by
 have hn2 : (0 : Int) < n := by omega
 intro k
 induction k using Nat.strongRecOn with
 | _ k ih =>
  intro hk
  have hz := pnt_mem hn hk
  cases hq : firstB g n L (pnt n k) with
  | true => exact ⟨k, Nat.le_refl _, hq, idm, h.one hg hn2, by rw [act_one (mem_torus.1 hz), rank_pnt]⟩
  | false =>
   unfold firstB at hq
   rw [List.all_eq_false] at hq
   obtain ⟨f, hf, hlt⟩ := hq
   have hlt2 : rankP n (act g n f (pnt n k)) < k := by
    have h3 := rank_pnt n k
    simp only [decide_eq_true_eq, h3] at hlt
    omega
   have hm := act_mem hn (g := g) f (pnt n k)
   obtain ⟨p, hpk, hfp, e, he, hr⟩ := ih _ hlt2 (rank_lt hm)
   refine ⟨p, by omega, hfp, mulM g n (invM g n f) e, h.mul hg hn2 hp (h.inv hg hn2 hp hf) he, ?_⟩
   have h4 : act g n e (pnt n p) = act g n f (pnt n k) := rankP_inj (act_mem hn _ _) hm hr
   rw [act_mul hg (h.ok he), h4, act_inv hg hn2 (h.ok hf) (mem_torus.1 hz), rank_pnt]
theorem seen_first {L : List Mv} {col : Pt → Int} (hg : G g) (hn : 0 < n) (hp : Per n col) (h : Grp g n col L) {k : Nat} (hk : k < n * n) :
  (∃ p, p < k ∧ firstB g n L (pnt n p) = true ∧ ∃ f ∈ L, rankP n (act g n f (pnt n p)) = k) ↔ firstB g n L (pnt n k) = false := by
 have hn2 : (0 : Int) < n := by omega
 constructor
 ·rintro ⟨p, hpk, hfp, f, hf, hr⟩
  cases hq : firstB g n L (pnt n k) with
  | false => rfl
  | true =>
   have hpn : p < n * n := by omega
   have e : act g n f (pnt n p) = pnt n k := by rw [← pnt_rank (act_mem hn f (pnt n p)), hr]
   have := first_alone hg hn hp h (pnt_mem hn hpn) (pnt_mem hn hk) hfp hq hf e
   exact absurd (pnt_inj this) (by omega)
 ·intro hq
  obtain ⟨p, hpk, hfp, f, hf, hr⟩ := first_ex hg hn hp h k hk
  refine ⟨p, ?_, hfp, f, hf, hr⟩
  rcases Nat.lt_or_ge p k with h1 | h1
  ·exact h1
  ·obtain rfl : p = k := by omega
   rw [hfp] at hq; cases hq
def movdL (W H : Nat) (cs : List Int) (g : Int) (n : Nat) (m : Mv) : Nat → List Int
 | 0 => List.replicate (n * n) 0
 | k + 1 => (movdL W H cs g n m k).set (place n (To g m (pnt n k))) (colP W H cs (pnt n k))
theorem movdL_len (m : Mv) : ∀ k, (movdL W H cs g n m k).length = n * n
 | 0 => by simp [movdL]
 | k + 1 => by simp [movdL, movdL_len m k]
theorem movdL_get (hg : G g) (hn : 0 < n) (hW : W ∣ n) (hH : H ∣ n) {m : Mv} (hm : okT g m) : ∀ k, k ≤ n * n → ∀ j, j < n * n → rankP n (act g n (inv g m) (pnt n j)) < k → (movdL W H cs g n m k).getD j 0 = colP W H cs (To g (inv g m) (pnt n j))
 | 0, _, _, _, h => absurd h (by omega)
 | k + 1, hk, j, hj, h => by
  have hn2 : (0 : Int) < n := by omega
  have hi := inv_ok hg hm
  simp only [movdL]
  have hl := movdL_len (W := W) (H := H) (cs := cs) (g := g) (n := n) m k
  rw [List.getD_eq_getElem?_getD, List.getElem?_set]
  by_cases e : place n (To g m (pnt n k)) = j
  ·rw [if_pos e, if_pos (by rw [hl, e]; exact hj)]
   simp only [Option.getD_some]
   have e2 : md n (To g m (pnt n k)) = pnt n j := by rw [← e, pnt_place hn]
   refine colP_per cs hW hH _ _ ?_
   have h3 : Eqm n (pnt n j) (To g m (pnt n k)) := by rw [← e2]; exact (eqm_md n _).symm
   have h4 := To_eqm (g := g) (m := inv g m) (h := inv g m) rfl rfl (Eqm.refl n _) h3
   rw [← To_both hg hm, (both_inv hg hm).1, To_idm] at h4
   exact h4.symm
  ·rw [if_neg e, ← List.getD_eq_getElem?_getD]
   refine movdL_get hg hn hW hH hm k (by omega) j hj ?_
   rcases Nat.lt_or_ge (rankP n (act g n (inv g m) (pnt n j))) k with h1 | h1
   ·exact h1
   ·exfalso
    have h2 : rankP n (act g n (inv g m) (pnt n j)) = k := by omega
    apply e
    have h3 : act g n (inv g m) (pnt n j) = pnt n k := by rw [← h2, pnt_rank (act_mem hn _ _)]
    rw [← h3, place_act]
    have h5 : act g n m (act g n (inv g m) (pnt n j)) = pnt n j := by
     unfold act
     have h6 := To_eqm (g := g) (m := m) (h := m) rfl rfl (Eqm.refl n _) (eqm_md n (To g (inv g m) (pnt n j)))
     rw [← To_both hg hi, (both_inv hg hm).2, To_idm] at h6
     rw [← md_eq h6]
     exact md_self (mem_torus.1 (pnt_mem hn hj))
    rw [h5, rank_pnt]
theorem movdL_movd (hg : G g) (hn : 0 < n) (hW : W ∣ n) (hH : H ∣ n) {m : Mv} (hm : okT g m) (j : Nat) (hj : j < n * n) : (movdL W H cs g n m (n * n)).getD j 0 = movd g m (colP W H cs) (pnt n j) :=
 movdL_get hg hn hW hH hm (n * n) (Nat.le_refl _) j hj (rank_lt (act_mem hn _ _))
theorem movd_col (hg : G g) (hn : 0 < n) (hW : W ∣ n) (hH : H ∣ n) {m : Mv} (hm : okT g m) : colP n n (movdL W H cs g n m (n * n)) = movd g m (colP W H cs) := by
 funext p
 have h1 : colP n n (movdL W H cs g n m (n * n)) p = (movdL W H cs g n m (n * n)).getD (place n p) 0 := rfl
 rw [h1, movdL_movd hg hn hW hH hm _ (place_lt hn p), pnt_place hn]
 exact movd_per (colP_per cs hW hH) _ _ (eqm_md n p).symm
theorem movdL_mem {m : Mv} {P : Int → Prop} (h0 : P 0) (hc : ∀ x ∈ cs, P x) : ∀ k, ∀ x ∈ movdL W H cs g n m k, P x
 | 0, x, hx => by simp only [movdL, List.mem_replicate] at hx; rw [hx.2]; exact h0
 | k + 1, x, hx => by
  simp only [movdL] at hx
  rcases List.mem_or_eq_of_mem_set hx with h | rfl
  ·exact movdL_mem h0 hc k x h
  ·unfold colP
   rw [List.getD_eq_getElem?_getD]
   cases hq : cs[(((pnt n k).2 % (H : Int)).toNat * W + ((pnt n k).1 % (W : Int)).toNat)]? with
   | none => exact h0
   | some y => exact hc y (List.mem_of_getElem? hq)
theorem torN_self {n : Nat} (hn : 0 < n) : torN n n = n := by unfold torN; rw [Nat.gcd_self, Nat.div_self hn, Nat.one_mul]
end
end Z
end
section
open Go.RowKit
def ElemOk (t e size bytes : Nat) (z : Value) : Prop :=
 Tryd.prog.underlying t = some (.slice e) ∧ (Tryd.prog.info? e).map (fun i => (i.zero, i.size, i.bytes)) = some (some z, size, bytes) ∧ z.cells.size = size ∧ 0 < size
theorem belowGrown {B : Nat} {W w' : World} {v : Value} (hg : W.grownBy w' v.ownBlock) (hB : B ≤ W.heap.size) (hr : ∀ k, v.ownBlock = some k → B ≤ k) : Below B W w' :=
 (Below.refl B W).grown hg hB hr
theorem wpApp {W : World} {ops : Array Oper} {rest : List Oper} {o : Oper} {a : Act} {Q : Exit → Act → World → Prop} {t e size bytes : Nat} {z : Value} (hE : ElemOk t e size bytes z)
  (hgd : o.guard = none) (s x : Operand) (ho : o.op = .call { callee := .builtin .append, args := #[s, x], argTypes := #[t, t] })
  (base : Nat) (v : Value) (n : Nat) (xs : List Value) (cs : Array Value) (hs : a.eval s = v) (hown : W.ownsRow base e size v n xs)
  (hx : a.eval x = .slice (some ⟨W.heap.size, 0, none⟩) 1 1) (hl : cs.size = size) (h1 : ∀ u ∈ cs.toList, u.oneCell' = true)
  (hb : bytes ≤ 4096) (hn : n ≤ 1000000000) (hbase : base ≤ W.heap.size)
  (h : ∀ v' w', w'.ownsRow base e size v' (n + 1) (xs ++ cs.toList) → Below base W w' → wpList Tryd.prog ops Q rest (a.put o.dst v') w') : wpList Tryd.prog ops Q (o :: rest) a (W.alloc (.cells cs e)) := by
 obtain ⟨h2, h3, h4, h5⟩ := hE
 obtain ⟨i0, hi, hz0, hz1, hz2⟩ := info_parts h3
 refine wpList_append_own _ hgd s x t ho base e i0 z size bytes h2 hi hz0 hz1 hz2 h4 h5 v n xs hs (hown.alloc _) ⟨W.heap.size, 0, none⟩ 1 1 cs.toList hx (by simpa using hl) ?_ h1 (by unfold maxLen; omega) ?_ (by simp; omega) ?_
 ·intro j u hj
  have : (⟨W.heap.size, 0, none⟩ : Addr).add j = ⟨W.heap.size, j, none⟩ := by rw [Addr.add_lit]; simp
  rw [this, World.cell?_alloc_new]
  simpa using hj
 ·calc (n + 1) * bytes ≤ 1000000001 * 4096 := Nat.mul_le_mul (by omega) hb
   _ ≤ 140737488355328 := by omega
 ·intro v' w' hown' hg _
  refine h v' w' hown' ?_
  have hk := hown.lt
  exact ((Below.refl base W).alloc hbase _).trans (belowGrown hg (by simp; omega) fun k hk' => (hk k hk').1)
def IsInts (w : World) (a : Option Addr) (n : Nat) (zs : List Int) : Prop :=
 zs.length = n ∧ (0 < n → ∃ b o, a = some ⟨b, o, none⟩ ∧ b < w.heap.size ∧ ∀ j, j < n → w.cell? ⟨b, o + j, none⟩ = some (.int .i64 (zs.getD j 0)))
theorem IsInts.below {w w' : World} {a : Option Addr} {n : Nat} {zs : List Int} (h : IsInts w a n zs) (hb : Below w.heap.size w w') : IsInts w' a n zs := by
 refine ⟨h.1, fun hn => ?_⟩
 obtain ⟨b, o, h1, h2, h3⟩ := h.2 hn
 exact ⟨b, o, h1, Nat.lt_of_lt_of_le h2 hb.size, fun j hj => bCs hb (h3 j hj)⟩
theorem makeRow {t e bytes : Nat} {z : Value} (hE : ElemOk t e 1 bytes z) (hz : z.cells = #[z]) (n : Nat) (hb : bytes ≤ 4096) (hn : n ≤ 1000000000) : ∀ w : World,
  (Instr.makeSlice t (.int .i64 (n : Int)) (.int .i64 (n : Int))).run Tryd.prog w = .ok (.slice (some ⟨w.heap.size, 0, none⟩) n n) (w.alloc (.cells (madeCells #[z] n) e)) :=
 run_make_row' t e z bytes hE.1 hE.2.1 hz .i64 .i64 n (Nat.le_trans (Nat.mul_le_mul hb hn) (by omega)) (by omega)
theorem rowBelow {w w' : World} {b t n B : Nat} {f : Nat → Value} (h : w.rowIs b t n f) (hb : Below B w w') (hB : b < B) : w'.rowIs b t n f := h.of_block (hb.block b hB)
theorem getD_set (l : List Int) (i j : Nat) (v : Int) (hi : i < l.length) : (l.set i v).getD j 0 = if j = i then v else l.getD j 0 := by
 rw [List.getD_eq_getElem?_getD, List.getElem?_set, List.getD_eq_getElem?_getD]
 by_cases h : i = j
 ·subst h; simp [hi]
 ·rw [if_neg h, if_neg (fun e => h e.symm)]
end
section
open Go.RowKit
theorem extW_self (W : World) (d : Nat) : extW W #[] d = { W with drawn := d } := by simp [extW]
theorem alloc_extW (W : World) (E : Array Obj) (d : Nat) (o : Obj) : (extW W E d).alloc o = extW W (E.push o) d := by
 unfold World.alloc extW
 simp only
 rw [show (W.heap ++ E).push o = W.heap ++ E.push o by simp]
def cellInt (w : World) (b o : Nat) : Int := match w.cell? ⟨b, o, none⟩ with | some (.int _ n) => n | _ => 0
theorem cellInt_of {w : World} {b o : Nat} {n : Int} (h : w.cell? ⟨b, o, none⟩ = some (.int .i64 n)) : cellInt w b o = n := by unfold cellInt; rw [h]
theorem extW_zero (W : World) : W = extW W #[] W.drawn := by simp [extW]
theorem extW_extW (W : World) (E F : Array Obj) (d e : Nat) : extW (extW W E d) F e = extW W (E ++ F) e := by simp [extW, Array.append_assoc]
def ExtOf (W w : World) : Prop := ∃ E d, w = extW W E d
theorem extOf {f : FuncId} {args : Array Value} {W : World} {E : Array Obj} {d : Nat} {v : Value}
  (h : Calls Tryd.prog f args (extW W E d) fun e w' => e = .returned v ∧ Below (extW W E d).heap.size (extW W E d) w') :
  Calls Tryd.prog f args (extW W E d) fun e w' => e = .returned v ∧ ∃ E d, w' = extW W E d :=
 h.mono fun e w' ⟨he, hb⟩ => by
  obtain ⟨F, k, rfl⟩ := bExt hb
  exact ⟨he, E ++ F, k, extW_extW W E F d k⟩
theorem ext_step {W : World} {ops : Array Oper} {Q : Act → Prop} {a : Act} {o : Oper} {rest : List Oper}
  (h : ∀ K : Act → Prop, (∀ a, wpQuiet Tryd.prog ops (fun w' => ∃ E d, w' = extW W E d) Q rest a → K a) →
   if Region.wanted o (yielded ops a.tmps) then ∃ v, (∀ E d, Oper.quietAt Tryd.prog o a (fun w' => ∃ E d, w' = extW W E d) (extW W E d) v) ∧ K (a.put o.dst v) else K (a.put o.dst undef)) :
  wpQuiet Tryd.prog ops (fun w' => ∃ E d, w' = extW W E d) Q (o :: rest) a := by
 refine wpQuiet_step fun K hK => ?_
 have := h K hK
 split
 ·rename_i hw
  rw [if_pos hw] at this
  obtain ⟨v, h1, h2⟩ := this
  exact ⟨v, fun w' ⟨E, d, e⟩ => e ▸ h1 E d, h2⟩
 ·rename_i hw
  rwa [if_neg hw] at this
theorem wp_region_ext {id : Nat} {Q : Exit → Act → World → Prop} {a : Act} {w : World} {l : List Oper} (hm : Tryd.prog.follows .mixedOrders = true) (hB : Region.lexB .any l.toArray = true)
  (h : wpQuiet Tryd.prog l.toArray (fun w' => ∃ E d, w' = extW w E d) (fun a' => ∀ E d, Q .normal a' (extW w E d)) l a) : (Code.region id l.toArray true).wp Tryd.prog Q a w := by
 refine wp_region_quiet (C := fun w' => ∃ E d, w' = extW w E d) hm hB ⟨#[], w.drawn + 1, by rw [extW_self]⟩ ?_
 have e : (fun a' => ∀ w', (∃ E d, w' = extW w E d) → Q .normal a' w') = fun a' => ∀ E d, Q .normal a' (extW w E d) := by
  funext a'
  exact propext ⟨fun h E d => h _ ⟨E, d, rfl⟩, fun h w' ⟨E, d, e⟩ => e ▸ h E d⟩
 rw [e]
 simpa using h
section
variable {P : Program} {ops : Array Oper} {md : Region.Mode} {C : World → Prop}
def headQ (P : Program) (md : Region.Mode) (ops : Array Oper) (C : World → Prop) (n : Nat) (L : Array Bool → Act → Prop) : Nat → Array Bool → Act → Prop
 | 0, listed, a => L listed a
 | f + 1, listed, a => Region.ready md ops listed ≠ [] ∧ ∀ i ∈ Region.ready md ops listed, i < n ∧ qOp P ops C i (headQ P md ops C n L f (listed.setIfInBounds i true)) a
theorem headQ_any {n g : Nat} {L : Array Bool → Act → Prop} {Q : Exit → Act → World → Prop} (hL : ∀ listed a w, C w → L listed a → wpAny P md ops Q g listed a w) (f : Nat) :
  ∀ (listed : Array Bool) (a : Act) (w : World), C w → headQ P md ops C n L f listed a → wpAny P md ops Q (f + g) listed a w := by
 induction f with
 | zero => intro listed a w hw h; rw [Nat.zero_add]; exact hL _ _ _ hw h
 | succ f ih =>
  intro listed a w hw h
  rw [show f + 1 + g = (f + g) + 1 by omega]
  exact ⟨fun h0 => absurd h0 h.1, fun i hi => wpOp_of_qOp hw (fun a' w' hw' h' => ih _ a' w' hw' h') (h.2 i hi).2⟩
theorem headQ_first {n i : Nat} {oi : Oper} {v : Value} {L : Array Bool → Act → Prop} (hi : ops[i]? = some oi) (hsel : ∀ (j : Nat) (o : Oper) cs b, ops[j]? = some o → o.op ≠ .select cs b)
  (hs : Region.sinkB md ops n = true) (hc : Region.chainB md ops n = true) (hn : n < ops.size) (hin : i < n)
  (hdone : ∀ listed a, L listed a → ∀ j ∈ Region.ready md ops listed, n ≤ j) (f : Nat) :
  ∀ (listed : Array Bool) (a : Act), HeadInv md ops n listed →
   (∀ j oj, ops[j]? = some oj → j ≠ i → listed.getD j true = false → (∀ e ∈ oj.after, Region.binds md e = true → e.on ≠ i) → oi.apart ops oj = true) →
   i ∈ Region.ready md ops listed → YieldsIn P ops C oi v a →
   headQ P md ops C n L f (listed.setIfInBounds i true) (a.put oi.dst v) → headQ P md ops C n L (f + 1) listed a := by
 induction f with
 | zero =>
  intro listed a inv _ hr hy H
  refine ⟨List.ne_nil_of_mem hr, fun j hj => ?_⟩
  have hjn : j < n := Nat.lt_of_not_le fun h => tail_waits hs hc hn inv _ i rfl hin (mem_ready.1 hr).1 j h hj
  refine ⟨hjn, ?_⟩
  by_cases hji : j = i
  ·subst hji; exact hy.qOp hi H
  ·exact absurd (hdone _ _ H j (ready_mono hj hji)) (by omega)
 | succ f ih =>
  intro listed a inv hfree hr hy H
  refine ⟨List.ne_nil_of_mem hr, fun j hj => ?_⟩
  have hjn : j < n := Nat.lt_of_not_le fun h => tail_waits hs hc hn inv _ i rfl hin (mem_ready.1 hr).1 j h hj
  refine ⟨hjn, ?_⟩
  by_cases hji : j = i
  ·subst hji; exact hy.qOp hi H
  ·obtain ⟨hjun, oj, hoj, hall⟩ := mem_ready.1 hj
   have hnot : ∀ e ∈ oj.after, Region.binds md e = true → e.on ≠ i := by
    intro e he hb heq
    have h1 := hall e he hb
    rw [heq, getD_both (mem_ready.1 hr).1] at h1
    cases h1
   have h2 := qOp_put hoj (hfree j oj hoj hji hjun hnot) (fun cs b => hsel i oi cs b hi) (fun cs b => hsel j oj cs b hoj) hy (H.2 j (ready_mono hj hji)).2
   refine qOp_mono (fun a' h3 => ih (listed.setIfInBounds j true) a' (inv.set hj hjn) (fun k ok hk hki hun hno => ?_) (ready_mono hr (Ne.symm hji)) h3.1 ?_) h2
   ·refine hfree k ok hk hki ?_ hno
    by_cases hjk : j = k
    ·subst hjk; exact hjun
    ·rwa [getD_set_ne true hjk] at hun
   ·rw [Array.setIfInBounds_comm _ _ hji]
    exact h3.2
theorem headQ_lex {n g : Nat} {K : Act → Prop} (hsel : Region.noSelect ops = true) (hs : Region.sinkB md ops n = true) (hc : Region.chainB md ops n = true) (hn : n < ops.size) (l : List Oper) :
  ∀ (k : Nat) (listed : Array Bool) (a : Act), (∀ j, j < l.length → l[j]? = ops[k + j]?) → k + l.length = n → HeadInv md ops n listed →
  Region.lexHead md ops g l.length k listed = true → wpQuiet P ops C K l a →
  headQ P md ops C n (fun listed' a' => Region.seqB md ops g n listed' = true ∧ K a') l.length listed a := by
 induction l with
 | nil =>
  intro k listed a _ hk _ hB h
  have hkn : k = n := by simpa using hk
  subst hkn
  exact ⟨by simpa [Region.lexHead] using hB, h⟩
 | cons o l ih =>
  intro k listed a hl hk inv hB h
  have h0 : ops[k]? = some o := by simpa using (hl 0 (by simp)).symm
  simp only [List.length_cons, Region.lexHead, Bool.and_eq_true] at hB
  obtain ⟨⟨hr, hf⟩, hB'⟩ := hB
  have hkn : k < n := by simp only [List.length_cons] at hk; omega
  have hr' : k ∈ Region.ready md ops listed := by simpa using hr
  obtain ⟨v, hy, hK⟩ := yieldsIn_of_qOp (P := P) (C := C) (K := wpQuiet P ops C K l) (a := a) h0 (by unfold qOp; simp only [h0]; exact h)
  exact headQ_first h0 (Region.noSelect_spec hsel) hs hc hn hkn (fun listed' a' hL => seqB_ready hL.1) l.length listed a inv (Region.free_spec h0 hf) hr' hy
   (ih (k + 1) _ _ (fun j hj => by have := hl (j + 1) (by simp; omega); simpa [Nat.add_assoc, Nat.add_comm 1 j] using this) (by simp only [List.length_cons] at hk; omega) (inv.set hr' hkn) hB' hK)
end
theorem any_region_ext_tail {Q : Exit → Act → World → Prop} {a : Act} {w : World} {l : List Oper} (n : Nat) (hm : Tryd.prog.follows .mixedOrders = true) (hB : Region.lexTailB .any l.toArray n = true)
  (h : wpQuiet Tryd.prog l.toArray (fun w' => ∃ E d, w' = extW w E d) (fun a' => ∀ E d, wpList Tryd.prog l.toArray Q (l.drop n) a' (extW w E d)) (l.take n) a) : wpAny Tryd.prog .any l.toArray Q l.toArray.size (Array.replicate l.toArray.size false) a { w with drawn := w.drawn + 1 } := by
 simp only [Region.lexTailB, Bool.and_eq_true, decide_eq_true_eq] at hB
 obtain ⟨⟨⟨⟨hsel, hn⟩, hs⟩, hc⟩, hlex⟩ := hB
 have hn' : n < l.length := by simpa using hn
 have htl : (l.take n).length = n := by simp; omega
 have hdl : (l.drop n).length = l.toArray.size - n := by simp
 have inv0 : HeadInv .any l.toArray n (Array.replicate l.toArray.size false) :=
  ⟨by simp, fun j oj _ hl => (by rw [getD_replicate_false] at hl; cases hl), fun t _ ht => getD_in (by simpa using ht) (getD_replicate_false _ _)⟩
 have H := headQ_lex (md := .any) (g := l.toArray.size - n) hsel hs hc hn (l.take n) 0 _ a (fun j hj => by
  have hj' : j < n := by rw [htl] at hj; exact hj
  simp [hj']) (by simpa using htl) inv0 (by rw [htl]; exact hlex) h
 have := headQ_any (Q := Q) (g := l.toArray.size - n) (fun listed a' w' hw' hL => by
  obtain ⟨E, d, rfl⟩ := hw'
  have := wpAny_of_seq (md := .any) (Q' := Q) (l.drop n) n listed a' (extW w E d) (fun j => by simp [List.getElem?_drop]) (by rw [hdl]; exact hL.1) (hL.2 E d)
  rwa [hdl] at this) _ _ _ { w with drawn := w.drawn + 1 } ⟨#[], w.drawn + 1, by rw [extW_self]⟩ H
 rw [htl, show n + (l.toArray.size - n) = l.toArray.size by omega] at this
 exact this
theorem wp_region_ext_tail {id : Nat} {Q : Exit → Act → World → Prop} {a : Act} {w : World} {l : List Oper} (n : Nat) (hm : Tryd.prog.follows .mixedOrders = true) (hB : Region.lexTailB .any l.toArray n = true)
  (h : wpQuiet Tryd.prog l.toArray (fun w' => ∃ E d, w' = extW w E d) (fun a' => ∀ E d, wpList Tryd.prog l.toArray Q (l.drop n) a' (extW w E d)) (l.take n) a) : (Code.region id l.toArray true).wp Tryd.prog Q a w := wp_region_any hm (any_region_ext_tail n hm hB h)
section
variable {P : Program} {ops : Array Oper} {md : Region.Mode}
theorem extOf_refl (W : World) : ∃ E d, W = extW W E d := ⟨#[], W.drawn, by rw [extW_self]⟩
def headV (P : Program) (md : Region.Mode) (ops : Array Oper) (n m : Nat) (dst : Option Tmp) (z : Obj) (L : Array Bool → Act → World → Prop) : Nat → Array Bool → Act → World → Prop
  | 0, listed, a, W => ∀ E d, L listed a (extW W E d)
  | f + 1, listed, a, W => Region.ready md ops listed ≠ [] ∧ ∀ i ∈ Region.ready md ops listed, i < n ∧
      ((i = m → ∀ E d, headV P md ops n m dst z L f (listed.setIfInBounds i true) (a.put dst (.pointer (some ⟨(extW W E d).heap.size, 0, none⟩))) ((extW W E d).alloc z)) ∧
       (i ≠ m → qOp P ops (fun w => ∃ E d, w = extW W E d) i (fun a' => headV P md ops n m dst z L f (listed.setIfInBounds i true) a' W) a))
theorem headV_any {n m g : Nat} {om : Oper} {z : Obj} {L : Array Bool → Act → World → Prop} {Q : Exit → Act → World → Prop} (hom : ops[m]? = some om) (hgd : om.guard = none)
  (hal : ∀ (a : Act) (w : World) (K : Act → World → Prop), K (a.put om.dst (.pointer (some ⟨w.heap.size, 0, none⟩))) (w.alloc z) → om.wp P a w K Q)
  (hL : ∀ listed a w, L listed a w → wpAny P md ops Q g listed a w) (f : Nat) :
  ∀ (listed : Array Bool) (a : Act) (W : World), headV P md ops n m om.dst z L f listed a W → ∀ E d, wpAny P md ops Q (f + g) listed a (extW W E d) := by
 induction f with
 | zero => intro listed a W h E d; rw [Nat.zero_add]; exact hL _ _ _ (h E d)
 | succ f ih =>
  intro listed a W h E d
  rw [show f + 1 + g = (f + g) + 1 by omega]
  refine ⟨fun h0 => absurd h0 h.1, fun i hi => ?_⟩
  obtain ⟨_, h1, h2⟩ := h.2 i hi
  by_cases him : i = m
  ·subst him
   unfold wpOp
   simp only [hom, Region.wanted, hgd, if_true]
   refine .inl (hal _ _ _ ?_)
   have := ih _ _ _ (h1 rfl E d) #[] ((extW W E d).alloc z).drawn
   rwa [extW_self] at this
  ·refine wpOp_of_qOp (C := fun w => ∃ E d, w = extW W E d) ⟨E, d, rfl⟩ (fun a' w' hw' h' => ?_) (h2 him)
   obtain ⟨E', d', rfl⟩ := hw'
   exact ih _ _ _ h' E' d'
theorem headV_first {n m i : Nat} {oi om : Oper} {v : Value} {z : Obj} {L : Array Bool → Act → World → Prop} (hi : ops[i]? = some oi) (hom : ops[m]? = some om) (hgm : om.guard = none) (hsel : ∀ (j : Nat) (o : Oper) cs b, ops[j]? = some o → o.op ≠ .select cs b)
  (hs : Region.sinkB md ops n = true) (hc : Region.chainB md ops n = true) (hn : n < ops.size) (hin : i < n) (him : i ≠ m)
  (hdone : ∀ listed a w, L listed a w → ∀ j ∈ Region.ready md ops listed, n ≤ j) (W0 : World) (f : Nat) :
  ∀ (listed : Array Bool) (a : Act) (W : World), (∃ E d, W = extW W0 E d) → HeadInv md ops n listed →
   (∀ j oj, ops[j]? = some oj → j ≠ i → listed.getD j true = false → (∀ e ∈ oj.after, Region.binds md e = true → e.on ≠ i) → oi.apart ops oj = true) →
   i ∈ Region.ready md ops listed → (∀ E d, YieldsIn P ops (fun w => ∃ F e, w = extW (extW W0 E d) F e) oi v a) →
   headV P md ops n m om.dst z L f (listed.setIfInBounds i true) (a.put oi.dst v) W → headV P md ops n m om.dst z L (f + 1) listed a W := by
 have eat : ∀ E d F e, extW (extW W0 E d) F e = extW W0 (E ++ F) e := fun E d F e => extW_extW W0 E F d e
 induction f with
 | zero =>
  intro listed a W hW inv _ hr hy H
  obtain ⟨E0, d0, rfl⟩ := hW
  refine ⟨List.ne_nil_of_mem hr, fun j hj => ?_⟩
  have hjn : j < n := Nat.lt_of_not_le fun h => tail_waits hs hc hn inv _ i rfl hin (mem_ready.1 hr).1 j h hj
  refine ⟨hjn, ?_⟩
  by_cases hji : j = i
  ·subst hji; exact ⟨fun h => absurd h him, fun _ => (hy E0 d0).qOp hi H⟩
  ·exact absurd (hdone _ _ _ (H #[] 0) j (ready_mono hj hji)) (by omega)
 | succ f ih =>
  intro listed a W hW inv hfree hr hy H
  obtain ⟨E0, d0, rfl⟩ := hW
  refine ⟨List.ne_nil_of_mem hr, fun j hj => ?_⟩
  have hjn : j < n := Nat.lt_of_not_le fun h => tail_waits hs hc hn inv _ i rfl hin (mem_ready.1 hr).1 j h hj
  refine ⟨hjn, ?_⟩
  by_cases hji : j = i
  ·subst hji; exact ⟨fun h => absurd h him, fun _ => (hy E0 d0).qOp hi H⟩
  ·obtain ⟨hjun, oj, hoj, hall⟩ := mem_ready.1 hj
   have hnot : ∀ e ∈ oj.after, Region.binds md e = true → e.on ≠ i := by
    intro e he hb heq
    have h1 := hall e he hb
    rw [heq, getD_both (mem_ready.1 hr).1] at h1
    cases h1
   have hap := hfree j oj hoj hji hjun hnot
   have hfree' : ∀ k ok, ops[k]? = some ok → k ≠ i → (listed.setIfInBounds j true).getD k true = false → (∀ e ∈ ok.after, Region.binds md e = true → e.on ≠ i) → oi.apart ops ok = true := by
    intro k ok hk hki hun hno
    refine hfree k ok hk hki ?_ hno
    by_cases hjk : j = k
    ·subst hjk; exact hjun
    ·rwa [getD_set_ne true hjk] at hun
   obtain ⟨_, H1, H2⟩ := H.2 j (ready_mono hj hji)
   obtain ⟨p1, p2, p3⟩ := Oper.apart_spec hap
   constructor
   ·intro hjm E d
    have e : oj = om := by subst hjm; exact Option.some.inj (hoj.symm.trans hom)
    subst e
    have H3 := H1 hjm E d
    refine ih _ _ _ ?_ (inv.set hj hjn) hfree' (ready_mono hr (Ne.symm hji)) (fun E' d' => ?_) ?_
    ·rw [eat]
     exact ⟨(E0 ++ E).push z, d, by simp [extW, World.alloc]⟩
    ·exact (hy E' d').of_same (execOp_put oi (fun cs b => hsel i oi cs b hi) a _ _ p3) (wanted_put oi a _ _ p3)
    ·rw [Array.setIfInBounds_comm _ _ hji, Act.put_comm a v _ p2] at *
     exact H3
   ·intro hjm
    have h2 := qOp_put hoj hap (fun cs b => hsel i oi cs b hi) (fun cs b => hsel j oj cs b hoj) (hy E0 d0) (H2 hjm)
    -- what oi yields does not hang on what oj has left
    unfold qOp at h2 ⊢
    simp only [hoj] at h2 ⊢
    have keep : ∀ u, ∀ E d, YieldsIn P ops (fun w => ∃ F e, w = extW (extW W0 E d) F e) oi v (a.put oj.dst u) := fun u E d =>
     (hy E d).of_same (execOp_put oi (fun cs b => hsel i oi cs b hi) a oj.dst u p3) (wanted_put oi a oj.dst u p3)
    split
    ·rename_i hw
     simp only [hw, if_true] at h2
     obtain ⟨u, hu, _, h3⟩ := h2
     refine ⟨u, hu, ih _ _ _ ⟨E0, d0, rfl⟩ (inv.set hj hjn) hfree' (ready_mono hr (Ne.symm hji)) (keep u) ?_⟩
     rw [Array.setIfInBounds_comm _ _ hji]
     exact h3
    ·rename_i hw
     simp only [hw] at h2
     refine ih _ _ _ ⟨E0, d0, rfl⟩ (inv.set hj hjn) hfree' (ready_mono hr (Ne.symm hji)) (keep undef) ?_
     rw [Array.setIfInBounds_comm _ _ hji]
     exact h2.2
theorem quietAt_mono {o : Oper} {a : Act} {C C' : World → Prop} {w : World} {v : Value} (hC : ∀ w, C w → C' w) (h : o.quietAt P a C w v) : o.quietAt P a C' w v := by
 unfold Oper.quietAt at *
 cases hr : (execOp a.eval o).run P w with
 | ok x w' =>
  rw [hr] at h
  cases x
  case enter f args => exact ⟨h.1, h.2.mono fun e w'' ⟨h1, h2⟩ => ⟨h1, hC _ h2⟩⟩
  all_goals exact h
 | halt x w' => rw [hr] at h; exact h
def wpV (P : Program) (ops : Array Oper) (W : World) (K : Act → Prop) : List Oper → Act → Prop
 | [], a => K a
 | o :: rest, a => if Region.wanted o (yielded ops a.tmps) then ∃ v, (∀ E d, o.quietAt P a (fun w' => ∃ F e, w' = extW (extW W E d) F e) (extW W E d) v) ∧ wpV P ops W K rest (a.put o.dst v)
   else wpV P ops W K rest (a.put o.dst undef)
theorem wpV_nil {W : World} {K : Act → Prop} {a : Act} (h : K a) : wpV P ops W K [] a := h
theorem wpV_step {W : World} {Q : Act → Prop} {a : Act} {o : Oper} {rest : List Oper}
  (h : ∀ K : Act → Prop, (∀ a, wpV P ops W Q rest a → K a) →
   if Region.wanted o (yielded ops a.tmps) then ∃ v, (∀ E d, o.quietAt P a (fun w' => ∃ F e, w' = extW (extW W E d) F e) (extW W E d) v) ∧ K (a.put o.dst v) else K (a.put o.dst undef)) :
  wpV P ops W Q (o :: rest) a := h _ fun _ h => h
theorem headV_lex {m : Nat} {g : Nat} {om : Oper} {z : Obj} {K : Act → Prop} {W : World} (hom : ops[m]? = some om) (hgm : om.guard = none) (hsel : Region.noSelect ops = true) (hs : Region.sinkB md ops (m+1) = true) (hc : Region.chainB md ops (m+1) = true) (hn : m + 1 < ops.size) (l : List Oper) :
  ∀ (k : Nat) (listed : Array Bool) (a : Act), (∀ j, j < l.length → l[j]? = ops[k + j]?) → k + l.length = m → HeadInv md ops (m+1) listed →
  Region.lexHead md ops (g+1) l.length k listed = true → wpV P ops W K l a →
  headV P md ops (m+1) m om.dst z (fun listed' a' w' => Region.seqB md ops g (m+1) listed' = true ∧ ∃ a0 E d E' d', K a0 ∧ a' = a0.put om.dst (.pointer (some ⟨(extW W E d).heap.size, 0, none⟩)) ∧ w' = extW ((extW W E d).alloc z) E' d') (l.length + 1) listed a W := by
 induction l with
 | nil =>
  intro k listed a _ hk inv hB h
  have hkn : k = m := by simpa using hk
  subst hkn
  simp only [List.length_nil, Region.lexHead, Region.seqB, Bool.and_eq_true, decide_eq_true_eq] at hB
  refine ⟨by rw [hB.1]; simp, fun i hi => ?_⟩
  rw [hB.1] at hi
  have hik : i = k := by simpa using hi
  subst hik
  exact ⟨by omega, fun _ E d E' d' => ⟨hB.2, a, E, d, E', d', h, rfl, rfl⟩, fun h => absurd rfl h⟩
 | cons o l ih =>
  intro k listed a hl hk inv hB h
  have h0 : ops[k]? = some o := by simpa using (hl 0 (by simp)).symm
  simp only [List.length_cons, Region.lexHead, Bool.and_eq_true] at hB
  obtain ⟨⟨hr, hf⟩, hB'⟩ := hB
  have hkn : k < m := by simp only [List.length_cons] at hk; omega
  have hr' : k ∈ Region.ready md ops listed := by simpa using hr
  have step : ∃ v, (∀ E d, YieldsIn P ops (fun w => ∃ F e, w = extW (extW W E d) F e) o v a) ∧ wpV P ops W K l (a.put o.dst v) := by
   unfold wpV at h
   by_cases hw : Region.wanted o (yielded ops a.tmps) = true
   ·rw [if_pos hw] at h
    obtain ⟨v, h1, h2⟩ := h
    refine ⟨v, fun E d => .inl ⟨hw, fun w hwC => ?_⟩, h2⟩
    obtain ⟨F, e, rfl⟩ := hwC
    rw [extW_extW]
    refine quietAt_mono (fun w' hw' => ?_) (h1 (E ++ F) e)
    obtain ⟨F', e', rfl⟩ := hw'
    exact ⟨F ++ F', e', by rw [extW_extW, extW_extW, Array.append_assoc]⟩
   ·rw [if_neg hw] at h
    exact ⟨undef, fun E d => .inr ⟨by simpa using hw, rfl⟩, h⟩
  obtain ⟨v, hy, hK⟩ := step
  exact headV_first h0 hom hgm (Region.noSelect_spec hsel) hs hc hn (by omega) (by omega) (fun listed' a' w' hL => seqB_ready hL.1) W (l.length + 1) listed a W (extOf_refl W) inv (Region.free_spec h0 hf) hr' hy
   (ih (k + 1) _ _ (fun j hj => by have := hl (j + 1) (by simp; omega); simpa [Nat.add_assoc, Nat.add_comm 1 j] using this) (by simp only [List.length_cons] at hk; omega) (inv.set hr' (by omega)) hB' hK)
end
theorem wp_region_ext_alloc {id : Nat} {Q : Exit → Act → World → Prop} {a : Act} {w : World} {l : List Oper} (m : Nat) (t : TypeId) (dst : Option Tmp) (z : Obj) (hm : Tryd.prog.follows .mixedOrders = true) (hB' : (Region.noSelect l.toArray && decide (m + 1 < l.length) && Region.sinkB .any l.toArray (m+1) && Region.chainB .any l.toArray (m+1) && Region.lexHead .any l.toArray (l.length - (m+1) + 1) m 0 (Array.replicate l.length false)) = true)
  (hom : (l[m]?).map (fun o => (o.op, o.guard, o.dst)) = some (.alloc t, none, dst))
  (hal : ∀ w : World, Sem.run Tryd.prog (Instr.alloc t true (.tuple #[])) w = .ok (.pointer (some ⟨w.heap.size, 0, none⟩)) (w.alloc z))
  (h : wpV Tryd.prog l.toArray w (fun a' => ∀ E d E' d', wpList Tryd.prog l.toArray Q (l.drop (m+1)) (a'.put dst (.pointer (some ⟨(extW w E d).heap.size, 0, none⟩))) (extW ((extW w E d).alloc z) E' d')) (l.take m) a) : (Code.region id l.toArray true).wp Tryd.prog Q a w := by
 simp only [Bool.and_eq_true, decide_eq_true_eq] at hB'
 obtain ⟨⟨⟨⟨hsel, hn⟩, hs⟩, hc⟩, hlex⟩ := hB'
 obtain ⟨om, hom', he⟩ := Option.map_eq_some_iff.1 hom
 simp only [Prod.mk.injEq] at he
 obtain ⟨e1, e2, rfl⟩ := he
 have htl : (l.take m).length = m := by simp; omega
 have hdl : (l.drop (m+1)).length = l.length - (m+1) := by simp
 have inv0 : HeadInv .any l.toArray (m+1) (Array.replicate l.length false) :=
  ⟨by simp, fun j oj _ hl => (by rw [getD_replicate_false] at hl; cases hl), fun t _ ht => getD_in (by simpa using ht) (getD_replicate_false _ _)⟩
 have hom2 : l.toArray[m]? = some om := by simpa using hom'
 have H := headV_lex (P := Tryd.prog) (md := .any) (g := l.length - (m+1)) (z := z) (W := w) hom2 e2 hsel hs hc (by simpa using hn) (l.take m) 0 _ a (fun j hj => by
  have hj' : j < m := by rw [htl] at hj; exact hj
  simp [hj']) (by simpa using htl) inv0 (by rw [htl]; exact hlex) h
 refine wp_region_any hm ?_
 have hal' : ∀ (a : Act) (w : World) (K : Act → World → Prop), K (a.put om.dst (.pointer (some ⟨w.heap.size, 0, none⟩))) (w.alloc z) → om.wp Tryd.prog a w K Q := by
  intro a w K hK
  unfold Oper.wp
  simp [execOp, e1, hal, Result.andThen]
  exact hK
 have := headV_any (g := l.length - (m+1)) (Q := Q) hom2 e2 hal' (fun listed a' w' hL => by
  obtain ⟨hsq, a0, E, d, E', d', hK, rfl, rfl⟩ := hL
  have := wpAny_of_seq (md := .any) (Q' := Q) (l.drop (m+1)) (m+1) listed (a0.put om.dst (.pointer (some ⟨(extW w E d).heap.size, 0, none⟩))) (extW ((extW w E d).alloc z) E' d') (fun j => by simp [List.getElem?_drop]) (by rw [hdl]; exact hsq) (hK E d E' d')
  rwa [hdl] at this) _ _ _ w H #[] (w.drawn + 1)
 rw [htl, extW_self] at this
 have e : m + 1 + (l.length - (m + 1)) = l.length := by omega
 rw [e] at this
 simpa using this
end
section
open Go.RowKit
theorem ExtOf.rf (B : World) : ExtOf B B := ⟨#[], B.drawn, extW_zero B⟩
theorem ExtOf.al {B w : World} (h : ExtOf B w) (o : Obj) : ExtOf B (w.alloc o) := by
 obtain ⟨E, d, rfl⟩ := h
 exact ⟨E.push o, d, alloc_extW B E d o⟩
theorem ExtOf.ex {B w : World} (h : ExtOf B w) (F : Array Obj) (e : Nat) : ExtOf B (extW w F e) := by
 obtain ⟨E, d, rfl⟩ := h
 exact ⟨E ++ F, e, extW_extW B E F d e⟩
end
end Go.Proofs.YtajdoobkfbdgoaaDoor
