/- Lemmas on which the law of this seat rests; each states its own conditions. -/
import Derived.Test.YtajdoobkfbdgoaaGreatDoorB19
set_option linter.unusedVariables false
set_option linter.unusedSimpArgs false
namespace Go.Proofs.YtajdoobkfbdgoaaGreatDoor
section
open Go.RowKit
open Z (torN place pnt Mv To lin okT nrm both idm md stepB Grp Per Keep Stp Fine LineP MirC GliC FlipC TurnC AlongC ShoC add neg sml al rf dir Eqm redM hasT torusL turnsF waysF alongB kindP movesL)
def LatA (col : Z.Pt → Int) (s : Int) : Prop := ∀ z, Stp col z ↔ ∃ x y, z = (s * x, s * y)
def LatB (col : Z.Pt → Int) (s : Int) : Prop := ∀ z, Stp col z ↔ ∃ x y, z = (s * x, s * y) ∧ 3 ∣ x - y
section
variable {col : Z.Pt → Int}
theorem hex_turn (h : TurnC 6 col 2) {x y : Int} (hz : Stp col (x, y)) : Stp col (-y, x + y) := by
 obtain ⟨o, h⟩ := h
 have hg : Z.G 6 := .inr rfl
 have k := fun z (h1 : Stp col z) => Z.stp_lin hg (m := ⟨2, false, o⟩) (show 2 < 6 by omega) h h1
 have h1 := k _ (k _ hz)
 have h2 := (Z.stp_sub col).neg _ h1
 have e : neg (lin 6 2 false (lin 6 2 false (x, y))) = (-y, x + y) := by
  apply Z.ext2 <;> simp [neg, lin, Z.mir, Z.tn, Z.turn] <;> omega
 simp only at h2
 rw [e] at h2
 exact h2
theorem hex_swap (h : TurnC 6 col 2) (hf : FlipC 6 col 0 ∨ FlipC 6 col 1) {x y : Int} (hz : Stp col (x, y)) : Stp col (y, x) := by
 have hg : Z.G 6 := .inr rfl
 rcases hf with ⟨o, k⟩ | ⟨o, k⟩
 ·have h1 := Z.stp_lin hg (m := ⟨0, true, o⟩) (show 0 < 6 by omega) k hz
  have e : lin 6 0 true (x, y) = (x + y, -y) := Z.rf6 0 (by omega) x y
  simp only at h1
  rw [e] at h1
  have h2 := hex_turn h h1
  rwa [show ((-(-y), x + y + -y) : Z.Pt) = (y, x) by apply Z.ext2 <;> simp <;> omega] at h2
 ·have h1 := Z.stp_lin hg (m := ⟨1, true, o⟩) (show 1 < 6 by omega) k hz
  have e : lin 6 1 true (x, y) = (y, x) := Z.rf6 1 (by omega) x y
  simp only at h1
  rwa [e] at h1
theorem hex_lat {a b c : Int} (hf : Fine (Stp col) a b c) (h : TurnC 6 col 2) (hfl : FlipC 6 col 0 ∨ FlipC 6 col 1) : ∃ s : Int, 0 < s ∧ (LatA col s ∨ LatB col s) := by
 have hs := Z.stp_sub col
 have sp := hf.spec hs
 have ha := hf.a0
 have hb := hf.b0
 have h1 := (sp _).1 (hex_swap h hfl hf.sa)
 have h2 := (sp _).1 (hex_swap h hfl hf.sb)
 have h3 := (sp _).1 (hex_turn h hf.sb)
 simp only at h1 h2 h3
 obtain ⟨a', rfl⟩ := h1.1
 obtain ⟨c', rfl⟩ := h2.1
 have ha' : 0 < a' := Int.pos_of_mul_pos_right ha (by omega) |> fun h => h
 have e1 : b * c' / b = c' := Int.mul_ediv_cancel_left _ (by omega)
 have e2 : (b * c' + b) / b = c' + 1 := by rw [show b * c' + b = b * (c' + 1) by rw [Int.mul_add]; omega]; exact Int.mul_ediv_cancel_left _ (by omega)
 have h4 := h2.2
 have h5 := h3.2
 rw [e1] at h4
 rw [e2] at h5
 have d4 : a' ∣ 1 - c' * c' := by
  rw [show b - c' * (b * c') = b * (1 - c' * c') by rw [Int.mul_sub, Int.mul_one, Int.mul_left_comm]] at h4
  exact Int.dvd_of_mul_dvd_mul_left (by omega) h4
 have d5 : a' ∣ -1 - (c' + 1) * c' := by
  rw [show -b - (c' + 1) * (b * c') = b * (-1 - (c' + 1) * c') by rw [Int.mul_sub, Int.mul_left_comm b]; omega] at h5
  exact Int.dvd_of_mul_dvd_mul_left (by omega) h5
 have d6 : a' ∣ c' + 2 := by
  have := Int.dvd_sub d4 d5
  rwa [show 1 - c' * c' - (-1 - (c' + 1) * c') = c' + 2 by rw [Int.add_mul]; omega] at this
 have d7 : a' ∣ 3 := by
  have := Int.dvd_add d4 (show a' ∣ (c' + 2) * (c' - 2) from Int.dvd_mul_of_dvd_left d6)
  rw [show 1 - c' * c' + (c' + 2) * (c' - 2) = -3 by rw [Int.add_mul, Int.mul_sub, Int.mul_sub]; omega] at this
  exact Int.dvd_neg.1 this
 have d8 := Int.le_of_dvd (by omega) d7
 have hcase : a' = 1 ∨ a' = 3 := by
  have : a' = 1 ∨ a' = 2 ∨ a' = 3 := by omega
  rcases this with e | e | e
  ·exact .inl e
  ·subst e; omega
  ·exact .inr e
 have hq : ∀ y, b * y / b = y := fun y => Int.mul_ediv_cancel_left _ (by omega)
 refine ⟨b, hb, ?_⟩
 rcases hcase with rfl | rfl
 ·left
  intro z
  rw [sp]
  constructor
  ·rintro ⟨⟨y, hy⟩, x, hx⟩
   rw [hy, hq] at hx
   refine ⟨x + y * c', y, ?_⟩
   apply Z.ext2
   ·show z.1 = b * (x + y * c')
    rw [Int.mul_add, Int.mul_left_comm b y c']
    rw [Int.mul_one] at hx
    omega
   ·exact hy
  ·rintro ⟨x, y, rfl⟩
   refine ⟨⟨y, rfl⟩, ?_⟩
   simp only
   rw [hq, Int.mul_one]
   exact ⟨x - y * c', by rw [Int.mul_sub, Int.mul_left_comm b y c']⟩
 ·right
  obtain ⟨e, he⟩ := d6
  intro z
  rw [sp]
  constructor
  ·rintro ⟨⟨y, hy⟩, x, hx⟩
   rw [hy, hq] at hx
   refine ⟨3 * x + y * c', y, ?_, ?_⟩
   ·apply Z.ext2
    ·show z.1 = b * (3 * x + y * c')
     rw [Int.mul_add, Int.mul_left_comm b y c', ← Int.mul_assoc b 3 x]
     omega
    ·exact hy
   ·refine ⟨x + y * e - y, ?_⟩
    have : c' = 3 * e - 2 := by omega
    rw [this, Int.mul_sub, Int.mul_sub, Int.mul_add, Int.mul_left_comm y 3 e]
    omega
  ·rintro ⟨x, y, rfl, k, hk⟩
   refine ⟨⟨y, rfl⟩, ?_⟩
   simp only
   rw [hq]
   refine ⟨k + y - y * e, ?_⟩
   have : c' = 3 * e - 2 := by omega
   have hx : x = y + 3 * k := by omega
   rw [this, hx, Int.mul_assoc b 3, Int.mul_left_comm y b, ← Int.mul_sub]
   congr 1
   rw [Int.mul_sub, Int.mul_sub, Int.mul_add, Int.mul_left_comm y 3 e]
   omega
theorem n6_pos {x y : Int} (h : x ≠ 0 ∨ y ≠ 0) : 1 ≤ x * x + x * y + y * y := by
 have h1 := Z.nrm_nonneg (.inr rfl : Z.G 6) (x, y)
 rw [Z.nrm6] at h1
 simp only at h1
 have h2 : x * x + x * y + y * y ≠ 0 := fun e => by
  have e4 := Z.nrm6' (x, y)
  rw [Z.nrm6] at e4
  simp only at e4
  rw [e] at e4
  have s1 := Z.sq_nonneg (2 * x + y)
  have s2 := Z.sq_nonneg y
  have y0 : y * y = 0 := by omega
  have y1 : y = 0 := by rcases Int.mul_eq_zero.1 y0 with h | h <;> exact h
  subst y1
  have x0 : x * x = 0 := by simpa using e
  have x1 : x = 0 := by rcases Int.mul_eq_zero.1 x0 with h | h <;> exact h
  rcases h with h | h
  ·exact h x1
  ·exact h rfl
 omega
theorem n6_scale (s x y : Int) : nrm 6 (s * x, s * y) = s * s * (x * x + x * y + y * y) := by
 rw [Z.nrm6]; simp only; grind
theorem along_A_even {s : Int} (hs : 0 < s) (hl : LatA col s) (h : FlipC 6 col 0) : AlongC 6 col := by
 refine ⟨0, by decide, h, (s, 0), ⟨(hl _).2 ⟨1, 0, by simp⟩, fun e => by have := congrArg Prod.fst e; simp at this; omega, fun y hy hy0 => ?_⟩, by rw [Z.rf6 0 (by omega)]; simp⟩
 obtain ⟨x, y, rfl⟩ := (hl _).1 hy
 have h1 := n6_pos (x := x) (y := y) (by
  by_cases e : x = 0
  ·by_cases e2 : y = 0
   ·exact absurd (by rw [e, e2]; simp) hy0
   ·exact .inr e2
  ·exact .inl e)
 have e := n6_scale s 1 0
 simp only [Int.mul_one, Int.mul_zero, Int.add_zero] at e
 rw [e, n6_scale]
 have h2 := Int.mul_le_mul_of_nonneg_left h1 (show 0 ≤ s * s from Z.sq_nonneg s)
 omega
theorem along_B_odd {s : Int} (hs : 0 < s) (hl : LatB col s) (h : FlipC 6 col 1) : AlongC 6 col := by
 refine ⟨1, by decide, h, (s, s), ⟨(hl _).2 ⟨1, 1, by simp, by omega⟩, fun e => by have := congrArg Prod.fst e; simp at this; omega, fun y hy hy0 => ?_⟩, by rw [Z.rf6 1 (by omega)]; simp⟩
 obtain ⟨x, y, rfl, k, hk⟩ := (hl _).1 hy
 have h1 := n6_pos (x := x) (y := y) (by
  by_cases e : x = 0
  ·by_cases e2 : y = 0
   ·exact absurd (by rw [e, e2]; simp) hy0
   ·exact .inr e2
  ·exact .inl e)
 have h3 : 3 ≤ x * x + x * y + y * y := by
  have e : x = y + 3 * k := by omega
  have e2 : x * x + x * y + y * y = 3 * (y * y + 3 * (y * k) + 3 * (k * k)) := by rw [e]; grind
  omega
 have e := n6_scale s 1 1
 simp only [Int.mul_one] at e
 rw [e, n6_scale]
 have h2 := Int.mul_le_mul_of_nonneg_left h3 (show 0 ≤ s * s from Z.sq_nonneg s)
 omega
theorem along_A_odd {s : Int} (hs : 0 < s) (hl : LatA col s) (h0 : ¬ FlipC 6 col 0) (h2 : ¬ FlipC 6 col 2) (h4 : ¬ FlipC 6 col 4) : ¬ AlongC 6 col := by
 rintro ⟨t, ht, hf, z, ⟨hz, hz0, hmin⟩, hr⟩
 have ht6 : t < 6 := ht
 have hm := hmin (s, 0) ((hl _).2 ⟨1, 0, by simp⟩) (fun e => by have := congrArg Prod.fst e; simp at this; omega)
 have e := n6_scale s 1 0
 simp only [Int.mul_one, Int.mul_zero, Int.add_zero] at e
 rw [e] at hm
 obtain ⟨x, y, rfl⟩ := (hl _).1 hz
 rw [n6_scale] at hm
 have h9 : 3 ≤ x * x + x * y + y * y := by
  have h1 := n6_pos (x := x) (y := y) (by
   by_cases e : x = 0
   ·by_cases e2 : y = 0
    ·exact absurd (by rw [e, e2]; simp) hz0
    ·exact .inr e2
   ·exact .inl e)
  have hx : ∀ {p q : Int}, s * p = s * q → p = q := fun h => Int.eq_of_mul_eq_mul_left (by omega) h
  have ho : t = 1 ∨ t = 3 ∨ t = 5 := by
   have : t = 0 ∨ t = 1 ∨ t = 2 ∨ t = 3 ∨ t = 4 ∨ t = 5 := by omega
   rcases this with rfl | rfl | rfl | rfl | rfl | rfl
   ·exact absurd hf h0
   ·simp
   ·exact absurd hf h2
   ·simp
   ·exact absurd hf h4
   ·simp
  rw [Z.rf6 t ht6] at hr
  rcases ho with rfl | rfl | rfl <;> simp at hr
  ·have := hx hr.1
   subst this
   have : y * y + y * y + y * y = 3 * (y * y) := by omega
   omega
  ·have q : s * (2 * x + y) = 0 := by rw [Int.mul_add, Int.mul_left_comm]; omega
   have : 2 * x + y = 0 := by rcases Int.mul_eq_zero.1 q with h | h <;> omega
   obtain rfl : y = -(2 * x) := by omega
   have : x * x + x * -(2 * x) + -(2 * x) * -(2 * x) = 3 * (x * x) := by grind
   omega
  ·have q : s * (x + 2 * y) = 0 := by rw [Int.mul_add, Int.mul_left_comm]; omega
   have : x + 2 * y = 0 := by rcases Int.mul_eq_zero.1 q with h | h <;> omega
   obtain rfl : x = -(2 * y) := by omega
   have : -(2 * y) * -(2 * y) + -(2 * y) * y + y * y = 3 * (y * y) := by grind
   omega
 have h8 := Int.mul_le_mul_of_nonneg_left h9 (show 0 ≤ s * s from Z.sq_nonneg s)
 have h7 : 0 < s * s := Int.mul_pos hs hs
 omega
theorem along_B_even {s : Int} (hs : 0 < s) (hl : LatB col s) (h1 : ¬ FlipC 6 col 1) (h3 : ¬ FlipC 6 col 3) (h5 : ¬ FlipC 6 col 5) : ¬ AlongC 6 col := by
 rintro ⟨t, ht, hf, z, ⟨hz, hz0, hmin⟩, hr⟩
 have ht6 : t < 6 := ht
 have hm := hmin (s, s) ((hl _).2 ⟨1, 1, by simp, by omega⟩) (fun e => by have := congrArg Prod.fst e; simp at this; omega)
 have e := n6_scale s 1 1
 simp only [Int.mul_one] at e
 rw [e] at hm
 obtain ⟨x, y, rfl, k, hk⟩ := (hl _).1 hz
 rw [n6_scale] at hm
 have h9 : 9 ≤ x * x + x * y + y * y := by
  have h1' := n6_pos (x := x) (y := y) (by
   by_cases e : x = 0
   ·by_cases e2 : y = 0
    ·exact absurd (by rw [e, e2]; simp) hz0
    ·exact .inr e2
   ·exact .inl e)
  have ho : t = 0 ∨ t = 2 ∨ t = 4 := by
   have : t = 0 ∨ t = 1 ∨ t = 2 ∨ t = 3 ∨ t = 4 ∨ t = 5 := by omega
   rcases this with rfl | rfl | rfl | rfl | rfl | rfl
   ·simp
   ·exact absurd hf h1
   ·simp
   ·exact absurd hf h3
   ·simp
   ·exact absurd hf h5
  rw [Z.rf6 t ht6] at hr
  rcases ho with rfl | rfl | rfl <;> simp at hr
  ·have q : y = 0 := by
    have : s * y = 0 := by omega
    rcases Int.mul_eq_zero.1 this with h | h <;> omega
   subst q
   obtain rfl : x = 3 * k := by omega
   have : 3 * k * (3 * k) + 3 * k * 0 + 0 * 0 = 9 * (k * k) := by grind
   omega
  ·have q : x = 0 := by
    have : s * x = 0 := by omega
    rcases Int.mul_eq_zero.1 this with h | h <;> omega
   subst q
   obtain rfl : y = 3 * -k := by omega
   have : (0 : Int) * 0 + 0 * (3 * -k) + 3 * -k * (3 * -k) = 9 * (k * k) := by grind
   omega
  ·have q : s * (x + y) = 0 := by rw [Int.mul_add]; omega
   have q2 : x + y = 0 := by rcases Int.mul_eq_zero.1 q with h | h <;> omega
   obtain ⟨j, rfl⟩ : ∃ j, x = 3 * j := ⟨x / 3, by omega⟩
   obtain rfl : y = -(3 * j) := by omega
   have : 3 * j * (3 * j) + 3 * j * -(3 * j) + -(3 * j) * -(3 * j) = 9 * (j * j) := by grind
   omega
 have h8 := Int.mul_le_mul_of_nonneg_left h9 (show 0 ≤ s * s from Z.sq_nonneg s)
 have h7 : 0 < s * s := Int.mul_pos hs hs
 omega
end
end
section
open Go.RowKit
open Z (torN place pnt Mv To lin okT nrm both idm md stepB Grp Per Keep Stp Fine LineP MirC GliC FlipC TurnC AlongC ShoC add neg sml al rf dir Eqm redM hasT torusL turnsF waysF alongB kindP movesL bothT)
section
variable {g : Int} {n : Nat} {col : Z.Pt → Int} {L : List Mv}
theorem in_mir (h : Grp g n col L) (hg : Z.G g) (hn : 0 < n) (hp : Per n col) {t : Nat} {o : Z.Pt} (ht : t < g.toNat) (hk : Keep g col ⟨t, true, o⟩) (h0 : al g t o = (0, 0)) (b1 : -5 * (n : Int) ≤ o.1 ∧ o.1 < 6 * n) (b2 : -5 * (n : Int) ≤ o.2 ∧ o.2 < 6 * n) : (⟨t, true, o⟩ : Mv) ∈ mrL g n L L.length := by
 obtain ⟨m, hm, rfl, hf, k, hok, hmo⟩ := in_list h hn hp ht hk
 have hb := Z.md_bd (n := (n : Int)) (by omega) o
 rw [← hmo] at hb
 have q1 : o.1 = m.o.1 + n * k.1 := congrArg Prod.fst hok
 have q2 : o.2 = m.o.2 + n * k.2 := congrArg Prod.snd hok
 have hlt : ∀ {p : Int}, -6 * (n : Int) < n * p → n * p < 6 * (n : Int) → -5 ≤ p ∧ p ≤ 5 := fun {p} c1 c2 => by
  have d1 : (n : Int) * -6 < n * p := by omega
  have d2 : (n : Int) * p < n * 6 := by omega
  have := Int.lt_of_mul_lt_mul_left d1 (by omega)
  have := Int.lt_of_mul_lt_mul_left d2 (by omega)
  omega
 obtain ⟨mt, mf, mo⟩ := m
 simp only at hf
 subst hf
 refine mem_mrL.2 ⟨_, hm, rfl, k.1, k.2, hlt (by simp only at q1 hb; omega) (by simp only at q1 hb; omega), hlt (by simp only at q2 hb; omega) (by simp only at q2 hb; omega), ?_, h0⟩
 unfold shM
 rw [hok]
 rfl
theorem of_mir (h : Grp g n col L) (hp : Per n col) {m : Mv} (hm : m ∈ mrL g n L L.length) : ∃ t o, m = ⟨t, true, o⟩ ∧ t < g.toNat ∧ Keep g col ⟨t, true, o⟩ ∧ al g t o = (0, 0) := by
 obtain ⟨x, hx, hf, i, j, _, _, rfl, h0⟩ := mem_mrL.1 hm
 obtain ⟨xt, xf, xo⟩ := x
 simp only at hf
 subst hf
 exact ⟨xt, _, rfl, h.ok hx, keep_n hp (h.keep hx) (i, j), h0⟩
theorem on_pure (hg : Z.G g) (t u : Nat) (o b : Z.Pt) : both g (both g ⟨t, true, o⟩ ⟨u, false, b⟩) (both g ⟨t, true, o⟩ ⟨u, false, b⟩) = idm ↔ al g ((t + (g.toNat - u)) % g.toNat) (add (rf g t b) o) = (0, 0) := by
 have e : both g ⟨t, true, o⟩ ⟨u, false, b⟩ = ⟨(t + (g.toNat - u)) % g.toNat, true, ((add (rf g t b) o).1, (add (rf g t b) o).2)⟩ := rfl
 have hg0 : 0 < g.toNat := by rcases hg with rfl | rfl <;> decide
 rw [e, both_flip hg (Nat.mod_lt _ hg0)]
 unfold idm
 constructor
 ·intro e2; injection e2 with _ _ e3
 ·intro e2
  rw [show ((add (rf g t b) o).1, (add (rf g t b) o).2) = add (rf g t b) o from rfl, e2]
theorem on_iff (h : Grp g n col L) (hg : Z.G g) (hp : Per n col) (u : Nat) (b : Z.Pt) : onB g (mrL g n L L.length) ⟨u, false, b⟩ = true ↔ ∃ t o, (⟨t, true, o⟩ : Mv) ∈ mrL g n L L.length ∧ al g ((t + (g.toNat - u)) % g.toNat) (add (rf g t b) o) = (0, 0) := by
 unfold onB
 rw [List.any_eq_true]
 constructor
 ·rintro ⟨m, hm, e⟩
  obtain ⟨t, o, rfl, _⟩ := of_mir h hp hm
  exact ⟨t, o, hm, (on_pure hg t u o b).1 (of_decide_eq_true e)⟩
 ·rintro ⟨t, o, hm, e⟩
  exact ⟨_, hm, decide_eq_true ((on_pure hg t u o b).2 e)⟩
theorem cen_iff {M : List Mv} {turn : Nat} : cenB g n L M turn = true ↔ ∀ o, (⟨turn, false, o⟩ : Mv) ∈ L → ∀ i j : Nat, i < 3 → j < 3 → onB g M ⟨turn, false, (o.1 + n * i, o.2 + n * j)⟩ = true := by
 unfold cenB
 rw [List.all_eq_true]
 constructor
 ·intro k o ho i j hi hj
  have h1 := k _ ho
  unfold ckB c9B at h1
  simp only [Bool.false_or, decide_true, Bool.not_true] at h1
  have h2 := List.all_eq_true.1 h1 (3 * j + i) (List.mem_range.2 (by omega))
  rw [show (3 * j + i) % 3 = i by omega, show (3 * j + i) / 3 = j by omega] at h2
  exact h2
 ·intro k r hr
  obtain ⟨rt, rf9, ro⟩ := r
  unfold ckB
  cases rf9 with
  | true => rfl
  | false =>
   by_cases e : rt = turn
   ·subst e
    simp only [Bool.false_or, decide_true, Bool.not_true]
    unfold c9B
    exact List.all_eq_true.2 fun q hq => k ro hr (q % 3) (q / 3) (Nat.mod_lt _ (by omega)) (by have := List.mem_range.1 hq; omega)
   ·simp [e]
end
section
variable {n : Nat} {col : Z.Pt → Int} {L : List Mv}
theorem kb {t u : Nat} {b1 b2 x y : Int} (hu : u < 6) (hm : Keep 6 col ⟨t, true, (x, y)⟩) (hr : Keep 6 col ⟨u, false, (b1, b2)⟩) : Keep 6 col ⟨(t + (6 - u)) % 6, true, add (rf 6 t (b1, b2)) (x, y)⟩ :=
 Keep.both (.inr rfl) (m := ⟨t, true, (x, y)⟩) (h := ⟨u, false, (b1, b2)⟩) hu hm hr
theorem al6 (t : Nat) (ht : t < 6) (x y : Int) : al 6 t (x, y) = if t = 0 then (2 * x + y, 0) else if t = 1 then (x + y, x + y) else if t = 2 then (0, x + 2 * y) else if t = 3 then (-y, 2 * y) else if t = 4 then (x - y, y - x) else (2 * x, -x) := by
 unfold al
 rw [Z.rf6 t ht]
 (repeat' split) <;> apply Z.ext2 <;> simp [add] <;> omega
theorem on_odd (h : Grp 6 n col L) (hp : Per n col) {b1 b2 : Int} (hr : Keep 6 col ⟨2, false, (b1, b2)⟩) (h0 : ¬ FlipC 6 col 0) (h2 : ¬ FlipC 6 col 2) (h4 : ¬ FlipC 6 col 4) (ho : onB 6 (mrL 6 n L L.length) ⟨2, false, (b1, b2)⟩ = true) : Keep 6 col ⟨1, true, (-b2, b2)⟩ := by
 obtain ⟨t, o, hm, he⟩ := (on_iff h (.inr rfl) hp 2 (b1, b2)).1 ho
 obtain ⟨t', o', e, ht, hk, ha⟩ := of_mir h hp hm
 injection e with e1 _ e2
 subst e1 e2
 have ht6 : t < 6 := ht
 obtain ⟨x, y⟩ := o
 have hk2 := kb (show 2 < 6 by omega) hk hr
 have hc : t = 1 ∨ t = 3 ∨ t = 5 := by
  have : t = 0 ∨ t = 1 ∨ t = 2 ∨ t = 3 ∨ t = 4 ∨ t = 5 := by omega
  rcases this with rfl | rfl | rfl | rfl | rfl | rfl
  ·exact absurd ⟨_, hk⟩ h0
  ·simp
  ·exact absurd ⟨_, hk⟩ h2
  ·simp
  ·exact absurd ⟨_, hk⟩ h4
  ·simp
 rw [al6 t ht6] at ha
 rw [Z.rf6 t ht6] at he hk2
 rcases hc with rfl | rfl | rfl
 ·simp only [add] at he ha
  rw [show (1 + ((6 : Int).toNat - 2)) % (6 : Int).toNat = 5 from rfl, al6 5 (by omega)] at he
  simp at he ha
  obtain rfl : x = -b2 := by omega
  obtain rfl : y = b2 := by omega
  exact hk
 ·simp only [add] at he ha hk2
  rw [show (3 + ((6 : Int).toNat - 2)) % (6 : Int).toNat = 1 from rfl, al6 1 (by omega)] at he
  simp at he ha hk2
  obtain rfl : y = 0 := by omega
  obtain rfl : x = b1 := by omega
  rwa [show -x - b2 + x = -b2 by omega, Int.add_zero] at hk2
 ·simp only [add] at he ha hk2
  rw [show (5 + ((6 : Int).toNat - 2)) % (6 : Int).toNat = 3 from rfl, al6 3 (by omega)] at he
  simp at he ha hk2
  obtain rfl : x = 0 := by omega
  obtain rfl : y = b1 + b2 := by omega
  have hk3 := kb (show 2 < 6 by omega) hk2 hr
  rw [Z.rf6 3 (by omega)] at hk3
  simp [add] at hk3
  rwa [show -b1 - b2 + b1 = -b2 by omega, show b2 + (-b1 - b2 + (b1 + b2)) = b2 by omega] at hk3
theorem on_even (h : Grp 6 n col L) (hp : Per n col) {b1 b2 : Int} (hr : Keep 6 col ⟨2, false, (b1, b2)⟩) (h1 : ¬ FlipC 6 col 1) (h3 : ¬ FlipC 6 col 3) (h5 : ¬ FlipC 6 col 5) (ho : onB 6 (mrL 6 n L L.length) ⟨2, false, (b1, b2)⟩ = true) : ∃ p, 3 * p = -b1 - 2 * b2 ∧ Keep 6 col ⟨0, true, (p, -2 * p)⟩ := by
 obtain ⟨t, o, hm, he⟩ := (on_iff h (.inr rfl) hp 2 (b1, b2)).1 ho
 obtain ⟨t', o', e, ht, hk, ha⟩ := of_mir h hp hm
 injection e with e1 _ e2
 subst e1 e2
 have ht6 : t < 6 := ht
 obtain ⟨x, y⟩ := o
 have hk2 := kb (show 2 < 6 by omega) hk hr
 have hc : t = 0 ∨ t = 2 ∨ t = 4 := by
  have : t = 0 ∨ t = 1 ∨ t = 2 ∨ t = 3 ∨ t = 4 ∨ t = 5 := by omega
  rcases this with rfl | rfl | rfl | rfl | rfl | rfl
  ·simp
  ·exact absurd ⟨_, hk⟩ h1
  ·simp
  ·exact absurd ⟨_, hk⟩ h3
  ·simp
  ·exact absurd ⟨_, hk⟩ h5
 rw [al6 t ht6] at ha
 rw [Z.rf6 t ht6] at he hk2
 rcases hc with rfl | rfl | rfl
 ·simp only [add] at he ha
  rw [show (0 + ((6 : Int).toNat - 2)) % (6 : Int).toNat = 4 from rfl, al6 4 (by omega)] at he
  simp at he ha
  obtain rfl : y = -2 * x := by omega
  exact ⟨x, by omega, hk⟩
 ·simp only [add] at he ha hk2
  rw [show (2 + ((6 : Int).toNat - 2)) % (6 : Int).toNat = 0 from rfl, al6 0 (by omega)] at he
  simp at he ha hk2
  obtain rfl : x = -2 * y := by omega
  refine ⟨-b1 + -2 * y, by omega, ?_⟩
  rwa [show b1 + b2 + y = -2 * (-b1 + -2 * y) by omega] at hk2
 ·simp only [add] at he ha hk2
  rw [show (4 + ((6 : Int).toNat - 2)) % (6 : Int).toNat = 2 from rfl, al6 2 (by omega)] at he
  simp at he ha hk2
  obtain rfl : x = y := by omega
  have hk3 := kb (show 2 < 6 by omega) hk2 hr
  rw [Z.rf6 2 (by omega)] at hk3
  simp [add] at hk3
  refine ⟨-b1 + (-b2 + x), by omega, ?_⟩
  rwa [show b1 + b2 + (-b1 + x) = -2 * (-b1 + (-b2 + x)) by omega] at hk3
end
end
section
open Go.RowKit
open Z (torN place pnt Mv To lin okT nrm both idm md stepB Grp Per Keep Stp Fine LineP MirC GliC FlipC TurnC AlongC ShoC add neg sml al rf dir Eqm redM hasT torusL turnsF waysF alongB kindP movesL bothT)
section
variable {n : Nat} {col : Z.Pt → Int} {L : List Mv}
theorem turn_n {g : Int} (hp : Per n col) {t : Nat} {x y : Int} (h : Keep g col ⟨t, false, (x, y)⟩) (i j : Int) : Keep g col ⟨t, false, (x + n * i, y + n * j)⟩ :=
 Keep.eqm hp (m := ⟨t, false, (x, y)⟩) (h := ⟨t, false, (x + n * i, y + n * j)⟩) rfl rfl (Eqm.symm ⟨(i, j), rfl⟩) h
theorem turn_s {g : Int} {t : Nat} {o z : Z.Pt} (h : Keep g col ⟨t, false, o⟩) (hz : Stp col z) : Keep g col ⟨t, false, add o z⟩ := fun q => by
 have e : To g ⟨t, false, add o z⟩ q = add (To g ⟨t, false, o⟩ q) z := by unfold To; apply Z.ext2 <;> simp [add] <;> omega
 rw [e, hz, h]
theorem cen_odd_A (h : Grp 6 n col L) (hn : 0 < n) (hp : Per n col) {s : Int} (hl : LatA col s) (h1 : FlipC 6 col 1) : cenB 6 n L (mrL 6 n L L.length) 2 = true := by
 rw [cen_iff]
 rintro ⟨o1, o2⟩ ho i j hi hj
 have hbd := ((h.mem _).1 ho).2.2
 simp only at hbd ⊢
 have hr := turn_n hp (h.keep ho) (i : Int) (j : Int)
 obtain ⟨b1, e1⟩ : ∃ b, o1 + (n : Int) * (i : Int) = b := ⟨_, rfl⟩
 obtain ⟨b2, e2⟩ : ∃ b, o2 + (n : Int) * (j : Int) = b := ⟨_, rfl⟩
 rw [e1, e2] at hr ⊢
 have hb2 : 0 ≤ b2 ∧ b2 < 3 * n := by
  have c1 := Int.mul_le_mul_of_nonneg_left (show (j : Int) ≤ 2 by omega) (show (0 : Int) ≤ n by omega)
  have c2 := Int.mul_nonneg (show (0 : Int) ≤ n by omega) (show (0 : Int) ≤ j by omega)
  omega
 obtain ⟨⟨x, y⟩, hk⟩ := h1
 have ha := Z.al_keep (.inr rfl) (show 1 < 6 by omega) hk
 rw [al6 1 (by omega)] at ha
 simp only [Nat.reduceEqDiff, if_false, if_true, Nat.one_ne_zero] at ha
 obtain ⟨u, v, huv⟩ := (hl _).1 ha
 have u1 : x + y = s * u := congrArg Prod.fst huv
 have hk1 := Z.keep_shift hk ((hl (s * -u, s * 0)).2 ⟨_, _, rfl⟩)
 rw [show add (x, y) (s * -u, s * 0) = (-y, y) by apply Z.ext2 <;> simp [add, Int.mul_neg] <;> omega] at hk1
 have hk2 := kb (show 2 < 6 by omega) hk1 hr
 have ha2 := Z.al_keep (.inr rfl) (show (1 + (6 - 2)) % 6 < 6 by omega) hk2
 rw [Z.rf6 1 (by omega)] at ha2
 simp only [Nat.reduceEqDiff, if_false, if_true, Nat.one_ne_zero, add] at ha2
 rw [show (1 + (6 - 2)) % 6 = 5 from rfl, al6 5 (by omega)] at ha2
 simp only [Nat.reduceEqDiff, if_false, if_true, reduceCtorEq] at ha2
 obtain ⟨p, q, hpq⟩ := (hl _).1 ha2
 have q1 : -(b2 + -y) = s * q := congrArg Prod.snd hpq
 have hk3 := Z.keep_shift hk1 ((hl (s * q, s * -q)).2 ⟨_, _, rfl⟩)
 rw [show add (-y, y) (s * q, s * -q) = (-b2, b2) by apply Z.ext2 <;> simp [add, Int.mul_neg] <;> omega] at hk3
 refine (on_iff h (.inr rfl) hp 2 (b1, b2)).2 ⟨1, (-b2, b2), in_mir h (.inr rfl) hn hp (by decide) hk3 (by rw [al6 1 (by omega)]; simp; omega) (by simp only; omega) (by simp only; omega), ?_⟩
 rw [show (1 + ((6 : Int).toNat - 2)) % (6 : Int).toNat = 5 from rfl, Z.rf6 1 (by omega)]
 simp only [Nat.reduceEqDiff, if_false, if_true, Nat.one_ne_zero, add]
 rw [al6 5 (by omega)]
 simp
 omega
theorem cen_odd_B (h : Grp 6 n col L) (hn : 0 < n) (hp : Per n col) {s : Int} (hs : 0 < s) (hl : LatB col s) (ht : TurnC 6 col 2) (h0 : ¬ FlipC 6 col 0) (h2 : ¬ FlipC 6 col 2) (h4 : ¬ FlipC 6 col 4) : cenB 6 n L (mrL 6 n L L.length) 2 ≠ true := by
 intro hc
 rw [cen_iff] at hc
 have hP : ∀ b1 b2, Keep 6 col ⟨2, false, (b1, b2)⟩ → Keep 6 col ⟨1, true, (-b2, b2)⟩ := fun b1 b2 hr => by
  obtain ⟨m, hm, mt, mf, k, hk, _⟩ := in_list h hn hp (show 2 < 6 by omega) hr
  obtain ⟨t, f, o1, o2⟩ := m
  simp only at mt mf hk
  subst mt mf
  have h1 := hc _ hm 0 0 (by omega) (by omega)
  simp only [Int.natCast_zero, Int.mul_zero, Int.add_zero] at h1
  have h3 := on_odd h hp (h.keep hm) h0 h2 h4 h1
  have h5 := keep_n hp h3 (-k.2, k.2)
  have e : b2 = o2 + n * k.2 := congrArg Prod.snd hk
  rwa [show add (-o2, o2) (sml n (-k.2, k.2)) = (-b2, b2) by apply Z.ext2 <;> simp [add, sml, Int.mul_neg] <;> omega] at h5
 obtain ⟨⟨b1, b2⟩, hr⟩ := ht
 have hr2 := turn_s hr ((hl (s * 1, s * 1)).2 ⟨_, _, rfl, by omega⟩)
 have k1 := hP _ _ hr
 have k2 := hP _ _ hr2
 have hd := Z.flip_diff (.inr rfl) (show 1 < 6 by omega) k1 k2
 obtain ⟨x, y, hxy, hdv⟩ := (hl _).1 hd
 have e1 : -(b2 + s * 1) + -(-b2) = s * x := congrArg Prod.fst hxy
 have e2 : (b2 + s * 1) + -b2 = s * y := congrArg Prod.snd hxy
 have f1 : x = -1 := Int.eq_of_mul_eq_mul_left (show s ≠ 0 by omega) (by rw [Int.mul_neg]; omega)
 have f2 : y = 1 := Int.eq_of_mul_eq_mul_left (show s ≠ 0 by omega) (by omega)
 subst f1 f2
 omega
theorem cen_even_A (h : Grp 6 n col L) (hn : 0 < n) (hp : Per n col) {s : Int} (hs : 0 < s) (hl : LatA col s) (ht : TurnC 6 col 2) (h1 : ¬ FlipC 6 col 1) (h3 : ¬ FlipC 6 col 3) (h5 : ¬ FlipC 6 col 5) : cenB 6 n L (mrL 6 n L L.length) 2 ≠ true := by
 intro hc
 rw [cen_iff] at hc
 have hP : ∀ b1 b2, Keep 6 col ⟨2, false, (b1, b2)⟩ → ∃ p, 3 * p = -b1 - 2 * b2 ∧ Keep 6 col ⟨0, true, (p, -2 * p)⟩ := fun b1 b2 hr => by
  obtain ⟨m, hm, mt, mf, k, hk, _⟩ := in_list h hn hp (show 2 < 6 by omega) hr
  obtain ⟨t, f, o1, o2⟩ := m
  simp only at mt mf hk
  subst mt mf
  obtain ⟨k1, k2⟩ := k
  have e1 : b1 = o1 + n * k1 := congrArg Prod.fst hk
  have e2 : b2 = o2 + n * k2 := congrArg Prod.snd hk
  obtain ⟨i, hi⟩ : ∃ i : Nat, (i : Int) = (k1 + 2 * k2) % 3 := ⟨((k1 + 2 * k2) % 3).toNat, by omega⟩
  have h9 := hc _ hm i 0 (by omega) (by omega)
  simp only [Int.natCast_zero, Int.mul_zero, Int.add_zero] at h9
  have hr9 := turn_n hp (h.keep hm) (i : Int) 0
  simp only [Int.mul_zero, Int.add_zero] at hr9
  obtain ⟨p, hp1, hp2⟩ := on_even h hp hr9 h1 h3 h5 h9
  obtain ⟨q, hq⟩ : ∃ q, (i : Int) = k1 + 2 * k2 + 3 * q := ⟨-((k1 + 2 * k2) / 3), by omega⟩
  have h8 := keep_n hp hp2 (q, -2 * q)
  have e3 : (n : Int) * i = n * k1 + 2 * (n * k2) + 3 * (n * q) := by rw [hq]; grind
  refine ⟨p + n * q, by omega, ?_⟩
  rwa [show add (p, -2 * p) (sml n (q, -2 * q)) = (p + n * q, -2 * (p + n * q)) by
   apply Z.ext2
   ·rfl
   ·show -2 * p + (n : Int) * (-2 * q) = -2 * (p + n * q)
    rw [Int.mul_left_comm]; omega] at h8
 obtain ⟨⟨b1, b2⟩, hr⟩ := ht
 have hr2 := turn_s hr ((hl (s * 1, s * 0)).2 ⟨_, _, rfl⟩)
 obtain ⟨p, a1, k1⟩ := hP _ _ hr
 obtain ⟨p', a2, k2⟩ := hP _ _ hr2
 have hd := Z.flip_diff (.inr rfl) (show 0 < 6 by omega) k1 k2
 obtain ⟨x, y, hxy⟩ := (hl _).1 hd
 have e1 : p' + -p = s * x := congrArg Prod.fst hxy
 have e2 : s * (1 + 3 * x) = 0 := by rw [Int.mul_add, Int.mul_left_comm]; omega
 rcases Int.mul_eq_zero.1 e2 with e | e <;> omega
theorem cen_even_B (h : Grp 6 n col L) (hn : 0 < n) (hp : Per n col) {s : Int} (hs : 0 < s) (hl : LatB col s) (h0 : FlipC 6 col 0) : cenB 6 n L (mrL 6 n L L.length) 2 = true := by
 rw [cen_iff]
 rintro ⟨o1, o2⟩ ho i j hi hj
 have hbd := ((h.mem _).1 ho).2.2
 simp only at hbd ⊢
 have hr := turn_n hp (h.keep ho) (i : Int) (j : Int)
 obtain ⟨b1, e1⟩ : ∃ b, o1 + (n : Int) * (i : Int) = b := ⟨_, rfl⟩
 obtain ⟨b2, e2⟩ : ∃ b, o2 + (n : Int) * (j : Int) = b := ⟨_, rfl⟩
 rw [e1, e2] at hr ⊢
 have hb2 : (0 ≤ b2 ∧ b2 < 3 * n) ∧ 0 ≤ b1 ∧ b1 < 3 * n := by
  have c1 := Int.mul_le_mul_of_nonneg_left (show (j : Int) ≤ 2 by omega) (show (0 : Int) ≤ n by omega)
  have c2 := Int.mul_nonneg (show (0 : Int) ≤ n by omega) (show (0 : Int) ≤ j by omega)
  have c3 := Int.mul_le_mul_of_nonneg_left (show (i : Int) ≤ 2 by omega) (show (0 : Int) ≤ n by omega)
  have c4 := Int.mul_nonneg (show (0 : Int) ≤ n by omega) (show (0 : Int) ≤ i by omega)
  omega
 obtain ⟨⟨x, y⟩, hk⟩ := h0
 have ha := Z.al_keep (.inr rfl) (show 0 < 6 by omega) hk
 rw [al6 0 (by omega)] at ha
 simp only [if_true] at ha
 obtain ⟨u, v, huv, w, hw⟩ := (hl _).1 ha
 have u1 : 2 * x + y = s * u := congrArg Prod.fst huv
 have v1 : 0 = s * v := congrArg Prod.snd huv
 have v0 : v = 0 := by rcases Int.mul_eq_zero.1 v1.symm with e | e <;> omega
 obtain rfl : u = 3 * w := by omega
 have hk1 := Z.keep_shift hk ((hl (s * -w, s * -w)).2 ⟨_, _, rfl, by omega⟩)
 obtain ⟨p0, hp0⟩ : ∃ p, x - s * w = p := ⟨_, rfl⟩
 rw [show add (x, y) (s * -w, s * -w) = (p0, -2 * p0) by
  have : s * (3 * w) = 3 * (s * w) := Int.mul_left_comm ..
  apply Z.ext2 <;> simp [add, Int.mul_neg] <;> omega] at hk1
 have hk2 := kb (show 2 < 6 by omega) hk1 hr
 have ha2 := Z.al_keep (.inr rfl) (show (0 + (6 - 2)) % 6 < 6 by omega) hk2
 rw [Z.rf6 0 (by omega)] at ha2
 simp only [if_true, add] at ha2
 rw [show (0 + (6 - 2)) % 6 = 4 from rfl, al6 4 (by omega)] at ha2
 simp only [Nat.reduceEqDiff, if_false, if_true, reduceCtorEq] at ha2
 obtain ⟨c, d, hcd, z, hz⟩ := (hl _).1 ha2
 have q1 : b1 + b2 + p0 - (-b2 + -2 * p0) = s * c := congrArg Prod.fst hcd
 have q2 : -b2 + -2 * p0 - (b1 + b2 + p0) = s * d := congrArg Prod.snd hcd
 have q3 : d = -c := Int.eq_of_mul_eq_mul_left (show s ≠ 0 by omega) (by rw [Int.mul_neg]; omega)
 obtain ⟨w', rfl⟩ : ∃ w', c = 3 * w' := ⟨c / 3, by omega⟩
 have hk3 := Z.keep_shift hk1 ((hl (s * -w', s * (2 * w'))).2 ⟨_, _, rfl, by omega⟩)
 obtain ⟨p, hpp⟩ : ∃ p, p0 - s * w' = p := ⟨_, rfl⟩
 have q4 : s * (3 * w') = 3 * (s * w') := Int.mul_left_comm ..
 have q5 : s * (2 * w') = 2 * (s * w') := Int.mul_left_comm ..
 rw [show add (p0, -2 * p0) (s * -w', s * (2 * w')) = (p, -2 * p) by apply Z.ext2 <;> simp [add, Int.mul_neg] <;> omega] at hk3
 have h3p : 3 * p = -b1 - 2 * b2 := by omega
 refine (on_iff h (.inr rfl) hp 2 (b1, b2)).2 ⟨0, (p, -2 * p), in_mir h (.inr rfl) hn hp (by decide) hk3 (by rw [al6 0 (by omega)]; simp; omega) (by simp only; omega) (by simp only; omega), ?_⟩
 rw [show (0 + ((6 : Int).toNat - 2)) % (6 : Int).toNat = 4 from rfl, Z.rf6 0 (by omega)]
 simp only [if_true, add]
 rw [al6 4 (by omega)]
 simp
 omega
theorem cen_along (h : Grp 6 n col L) (hn : 0 < n) (hp : Per n col) {a b c : Int} (hf : Fine (Stp col) a b c) (hc : cntC 6 (TurnC 6 col) = 3) {t : Nat} (ht : t < 6) (hfl : FlipC 6 col t) : cenB 6 n L (mrL 6 n L L.length) 2 = true ↔ ¬ AlongC 6 col := by
 obtain ⟨t2, t4, n1, n3, n5⟩ := turns6.2.2 hc
 have hg : Z.G 6 := .inr rfl
 have ff := fun i j (hi : i < 6) (hj : j < 6) => cl_ff (g := 6) (col := col) hg (i := i) (j := j) hi hj
 have f2 := cl_tf (g := 6) hg (show 2 < 6 by omega) ht t2 hfl
 have f4 := cl_tf (g := 6) hg (show 4 < 6 by omega) ht t4 hfl
 have hpar : (FlipC 6 col 0 ∧ ¬ FlipC 6 col 1 ∧ ¬ FlipC 6 col 3 ∧ ¬ FlipC 6 col 5) ∨ (FlipC 6 col 1 ∧ ¬ FlipC 6 col 0 ∧ ¬ FlipC 6 col 2 ∧ ¬ FlipC 6 col 4) := by
  have he : FlipC 6 col 0 → (FlipC 6 col 0 ∧ ¬ FlipC 6 col 1 ∧ ¬ FlipC 6 col 3 ∧ ¬ FlipC 6 col 5) := fun h0 =>
   ⟨h0, fun k => n1 (ff 1 0 (by omega) (by omega) k h0), fun k => n3 (ff 3 0 (by omega) (by omega) k h0), fun k => n5 (ff 5 0 (by omega) (by omega) k h0)⟩
  have ho : FlipC 6 col 1 → (FlipC 6 col 1 ∧ ¬ FlipC 6 col 0 ∧ ¬ FlipC 6 col 2 ∧ ¬ FlipC 6 col 4) := fun h1 =>
   ⟨h1, fun k => n5 (ff 0 1 (by omega) (by omega) k h1), fun k => n1 (ff 2 1 (by omega) (by omega) k h1), fun k => n3 (ff 4 1 (by omega) (by omega) k h1)⟩
  have : t = 0 ∨ t = 1 ∨ t = 2 ∨ t = 3 ∨ t = 4 ∨ t = 5 := by omega
  rcases this with rfl | rfl | rfl | rfl | rfl | rfl
  ·exact .inl (he hfl)
  ·exact .inr (ho hfl)
  ·exact .inl (he f4)
  ·exact .inr (ho f4)
  ·exact .inl (he f2)
  ·exact .inr (ho f2)
 rcases hpar with ⟨h0, h1, h3, h5⟩ | ⟨h1, h0, h2, h4⟩
 ·obtain ⟨s, hs, hl | hl⟩ := hex_lat hf t2 (.inl h0)
  ·exact ⟨fun k => absurd k (cen_even_A h hn hp hs hl t2 h1 h3 h5), fun k => absurd (along_A_even hs hl h0) k⟩
  ·exact ⟨fun _ => along_B_even hs hl h1 h3 h5, fun _ => cen_even_B h hn hp hs hl h0⟩
 ·obtain ⟨s, hs, hl | hl⟩ := hex_lat hf t2 (.inr h1)
  ·exact ⟨fun _ => along_A_odd hs hl h0 h2 h4, fun _ => cen_odd_A h hn hp hl h1⟩
  ·exact ⟨fun k => absurd k (cen_odd_B h hn hp hs hl t2 h0 h2 h4), fun k => absurd (along_B_odd hs hl h1) k⟩
end
end
end Go.Proofs.YtajdoobkfbdgoaaGreatDoor
