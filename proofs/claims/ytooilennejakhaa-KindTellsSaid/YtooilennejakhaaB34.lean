/- Lemmas and contracts of functions (what each call returns, and that it changes nothing that was there) that the proof of a law of this seat uses; each lemma states its own conditions. -/
import Derived.Test.YtooilennejakhaaB33
namespace Go.Proofs.Ytooilennejakhaa
open Go.RowKit
set_option linter.unusedVariables false
set_option linter.unusedSimpArgs false
open Z (torN place pnt Mv To lin okT nrm both idm md stepB Grp Per Keep Stp Fine LineP MirC GliC FlipC TurnC AlongC add neg sml al rf Eqm redM hasT torusL turnsF waysF alongB kindP movesL)
section
variable {g : Int} {col : Z.Pt → Int}
theorem cl_tt (hg : Z.G g) {i j : Nat} (hi : i < g.toNat) (hj : j < g.toNat) (h : TurnC g col i) (k : TurnC g col j) : TurnC g col ((i + j) % g.toNat) := by
  obtain ⟨o, h⟩ := h
  obtain ⟨q, k⟩ := k
  exact ⟨_, Keep.both hg (m := ⟨i, false, o⟩) (h := ⟨j, false, q⟩) hj h k⟩
theorem cl_tf (hg : Z.G g) {i j : Nat} (hi : i < g.toNat) (hj : j < g.toNat) (h : TurnC g col i) (k : FlipC g col j) : FlipC g col ((i + j) % g.toNat) := by
  obtain ⟨o, h⟩ := h
  obtain ⟨q, k⟩ := k
  exact ⟨_, Keep.both hg (m := ⟨i, false, o⟩) (h := ⟨j, true, q⟩) hj h k⟩
theorem cl_ff (hg : Z.G g) {i j : Nat} (hi : i < g.toNat) (hj : j < g.toNat) (h : FlipC g col i) (k : FlipC g col j) : TurnC g col ((i + (g.toNat - j)) % g.toNat) := by
  obtain ⟨o, h⟩ := h
  obtain ⟨q, k⟩ := k
  exact ⟨_, Keep.both hg (m := ⟨i, true, o⟩) (h := ⟨j, true, q⟩) hj h k⟩
theorem turn_zero (hg : Z.G g) : TurnC g col 0 := ⟨(0, 0), Keep.id g col⟩
end
theorem tur4 : ∀ b1 b2 b3 : Bool, (b1 = true → b2 = true) → (b3 = true → b2 = true) → (b1 = true → b2 = true → b3 = true) → (b3 = true → b2 = true → b1 = true) →
    (1 + b1.toNat + b2.toNat + b3.toNat ≠ 3) ∧ (1 + b1.toNat + b2.toNat + b3.toNat = 2 → b2 = true ∧ b1 = false ∧ b3 = false) ∧ (1 + b1.toNat + b2.toNat + b3.toNat = 4 → b1 = true) := by decide
theorem tur6 : ∀ b1 b2 b3 b4 b5 : Bool, (b1 = true → b2 = true) → (b2 = true → b4 = true) → (b4 = true → b2 = true) → (b5 = true → b4 = true) → (b1 = true → b2 = true → b3 = true) → (b5 = true → b4 = true → b3 = true) → (b1 = true → b4 = true → b5 = true) → (b5 = true → b2 = true → b1 = true) → (b3 = true → b2 = true → b5 = true) → (b3 = true → b4 = true → b1 = true) →
    (1 + b1.toNat + b2.toNat + b3.toNat + b4.toNat + b5.toNat ≠ 4) ∧ (1 + b1.toNat + b2.toNat + b3.toNat + b4.toNat + b5.toNat = 2 → b3 = true ∧ b1 = false ∧ b2 = false ∧ b4 = false ∧ b5 = false) ∧ (1 + b1.toNat + b2.toNat + b3.toNat + b4.toNat + b5.toNat = 3 → b2 = true ∧ b4 = true ∧ b1 = false ∧ b3 = false ∧ b5 = false) := by
  intro b1 b2 b3 b4 b5
  cases b1 <;> cases b2 <;> cases b3 <;> cases b4 <;> cases b5 <;> simp
open Classical in
theorem cnt4 (P : Nat → Prop) : cntC 4 P = (decide (P 0)).toNat + (decide (P 1)).toNat + (decide (P 2)).toNat + (decide (P 3)).toNat := by
  unfold cntC
  rw [show (List.range (4 : Int).toNat) = [0, 1, 2, 3] from rfl]
  simp only [List.countP_cons, List.countP_nil]
  cases decide (P 0) <;> cases decide (P 1) <;> cases decide (P 2) <;> cases decide (P 3) <;> rfl
open Classical in
theorem cnt6 (P : Nat → Prop) : cntC 6 P = (decide (P 0)).toNat + (decide (P 1)).toNat + (decide (P 2)).toNat + (decide (P 3)).toNat + (decide (P 4)).toNat + (decide (P 5)).toNat := by
  unfold cntC
  rw [show (List.range (6 : Int).toNat) = [0, 1, 2, 3, 4, 5] from rfl]
  simp only [List.countP_cons, List.countP_nil]
  cases decide (P 0) <;> cases decide (P 1) <;> cases decide (P 2) <;> cases decide (P 3) <;> cases decide (P 4) <;> cases decide (P 5) <;> rfl
open Classical in
theorem cnt_zero {g : Int} {P : Nat → Prop} : cntC g P = 0 ↔ ∀ t, t < g.toNat → ¬ P t := by
  unfold cntC
  rw [List.countP_eq_zero]
  exact ⟨fun h t ht => by have := h t (List.mem_range.2 ht); simpa using this, fun h t ht => by have := h t (List.mem_range.1 ht); simpa using this⟩
section
variable {col : Z.Pt → Int}
open Classical in
theorem turns4 : (cntC 4 (TurnC 4 col) ≠ 3) ∧ (cntC 4 (TurnC 4 col) = 2 → TurnC 4 col 2 ∧ ¬ TurnC 4 col 1 ∧ ¬ TurnC 4 col 3) ∧ (cntC 4 (TurnC 4 col) = 4 → TurnC 4 col 1) := by
  have hg : Z.G 4 := .inl rfl
  have c := fun i j (hi : i < 4) (hj : j < 4) => cl_tt (g := 4) (col := col) hg (i := i) (j := j) hi hj
  have k := tur4 (decide (TurnC 4 col 1)) (decide (TurnC 4 col 2)) (decide (TurnC 4 col 3))
    (by simpa using fun h => c 1 1 (by omega) (by omega) h h) (by simpa using fun h => c 3 3 (by omega) (by omega) h h)
    (by simpa using fun h h2 => c 1 2 (by omega) (by omega) h h2) (by simpa using fun h h2 => c 3 2 (by omega) (by omega) h h2)
  rw [cnt4, decide_eq_true (turn_zero hg)]
  simpa using k
open Classical in
theorem turns6 : (cntC 6 (TurnC 6 col) ≠ 4) ∧ (cntC 6 (TurnC 6 col) = 2 → TurnC 6 col 3 ∧ ¬ TurnC 6 col 1 ∧ ¬ TurnC 6 col 2 ∧ ¬ TurnC 6 col 4 ∧ ¬ TurnC 6 col 5) ∧ (cntC 6 (TurnC 6 col) = 3 → TurnC 6 col 2 ∧ TurnC 6 col 4 ∧ ¬ TurnC 6 col 1 ∧ ¬ TurnC 6 col 3 ∧ ¬ TurnC 6 col 5) := by
  have hg : Z.G 6 := .inr rfl
  have c := fun i j (hi : i < 6) (hj : j < 6) => cl_tt (g := 6) (col := col) hg (i := i) (j := j) hi hj
  have k := tur6 (decide (TurnC 6 col 1)) (decide (TurnC 6 col 2)) (decide (TurnC 6 col 3)) (decide (TurnC 6 col 4)) (decide (TurnC 6 col 5))
    (by simpa using fun h => c 1 1 (by omega) (by omega) h h) (by simpa using fun h => c 2 2 (by omega) (by omega) h h) (by simpa using fun h => c 4 4 (by omega) (by omega) h h) (by simpa using fun h => c 5 5 (by omega) (by omega) h h)
    (by simpa using fun h h2 => c 1 2 (by omega) (by omega) h h2) (by simpa using fun h h2 => c 5 4 (by omega) (by omega) h h2)
    (by simpa using fun h h2 => c 1 4 (by omega) (by omega) h h2) (by simpa using fun h h2 => c 5 2 (by omega) (by omega) h h2)
    (by simpa using fun h h2 => c 3 2 (by omega) (by omega) h h2) (by simpa using fun h h2 => c 3 4 (by omega) (by omega) h h2)
  rw [cnt6, decide_eq_true (turn_zero hg)]
  simpa using k
end
/-- Where one flip has both, so has the flip across it. -/
theorem glide_across {g : Int} {col : Z.Pt → Int} (hg : Z.G g) {t u : Nat} (ht : t < g.toNat) (hu : u < g.toNat) (hr : ∀ z, rf g u z = neg (rf g t z)) (hm : MirC g col t) (hl : GliC g col t) (hf : FlipC g col u) : GliC g col u := by
  obtain ⟨o, ko, s0, a1, a2, a3⟩ := hm
  obtain ⟨o', ko', hno⟩ := hl
  obtain ⟨q, kq⟩ := hf
  have hs := Z.stp_sub col
  have hz := Z.flip_diff hg ht ko ko'
  obtain ⟨z, hzz⟩ : ∃ z, add o' (neg o) = z := ⟨_, rfl⟩
  rw [hzz] at hz
  have eo : o' = add o z := by rw [← hzz]; apply Z.ext2 <;> simp [add, neg] <;> omega
  by_cases h1 : LineP g col u q
  · by_cases h2 : LineP g col u (add q z)
    · exfalso
      obtain ⟨s, b1, b2, b3⟩ := h1
      obtain ⟨s', c1, c2, c3⟩ := h2
      refine hno ⟨add (add s0 (neg z)) (add s (neg s')), hs.add _ _ (hs.add _ _ a1 (hs.neg _ hz)) (hs.add _ _ b1 (hs.neg _ c1)), ?_, ?_⟩
      all_goals
        rw [hr] at b2 c2
        rw [Z.al_add] at c3
        unfold al at a3 b3 c3
        rw [hr] at b3 c3
        rw [hr] at c3
        have ers : rf g t s = neg s := by
          have q1 := congrArg Prod.fst b2; have q2 := congrArg Prod.snd b2
          simp only [neg] at q1 q2
          apply Z.ext2 <;> simp only [neg] <;> omega
        have ers' : rf g t s' = neg s' := by
          have q1 := congrArg Prod.fst c2; have q2 := congrArg Prod.snd c2
          simp only [neg] at q1 q2
          apply Z.ext2 <;> simp only [neg] <;> omega
        have rneg : ∀ y, rf g t (neg y) = neg (rf g t y) := fun y => by
          have e : neg y = sml (-1) y := by apply Z.ext2 <;> simp [neg, sml]
          rw [e, Z.rf_sml]
          apply Z.ext2 <;> simp [neg, sml]
        try rw [eo]
        simp only [al, Z.rf_add, rneg, a2, ers, ers']
        have p1 := congrArg Prod.fst a3; have p2 := congrArg Prod.snd a3
        have p3 := congrArg Prod.fst b3; have p4 := congrArg Prod.snd b3
        have p5 := congrArg Prod.fst c3; have p6 := congrArg Prod.snd c3
        simp only [add, neg] at p1 p2 p3 p4 p5 p6
        apply Z.ext2
        · simp only [add, neg]; omega
        · simp only [add, neg]; omega
    · exact ⟨_, Z.keep_shift kq hz, h2⟩
  · exact ⟨_, kq, h1⟩
end Go.Proofs.Ytooilennejakhaa

namespace Go.Proofs.Ytooilennejakhaa
open Go.RowKit
set_option linter.unusedVariables false
set_option linter.unusedSimpArgs false
open Z (torN place pnt Mv To lin okT nrm both idm md stepB Grp Per Keep Stp Fine LineP MirC GliC FlipC TurnC AlongC ShoC add neg sml al rf dir Eqm redM hasT torusL turnsF waysF alongB kindP movesL)
def LatA (col : Z.Pt → Int) (s : Int) : Prop := ∀ z, Stp col z ↔ ∃ x y, z = (s * x, s * y)
def LatB (col : Z.Pt → Int) (s : Int) : Prop := ∀ z, Stp col z ↔ ∃ x y, z = (s * x, s * y) ∧ 3 ∣ x - y
section
variable {col : Z.Pt → Int}
theorem hex_turn (h : TurnC 6 col 2) {x y : Int} (hz : Stp col (x, y)) : Stp col (-y, x + y) := by
  obtain ⟨o, h⟩ := h
  have hg : Z.G 6 := .inr rfl
  have k := fun z (h1 : Stp col z) => Z.stp_lin hg (m := ⟨2, false, o⟩) (show 2 < 6 by omega) h h1
  have h1 := k _ (k _ hz)
  have h2 := (Z.stp_sub col).neg _ h1
  have e : neg (lin 6 2 false (lin 6 2 false (x, y))) = (-y, x + y) := by
    apply Z.ext2 <;> simp [neg, lin, Z.mir, Z.tn, Z.turn] <;> omega
  simp only at h2
  rw [e] at h2
  exact h2
theorem hex_swap (h : TurnC 6 col 2) (hf : FlipC 6 col 0 ∨ FlipC 6 col 1) {x y : Int} (hz : Stp col (x, y)) : Stp col (y, x) := by
  have hg : Z.G 6 := .inr rfl
  rcases hf with ⟨o, k⟩ | ⟨o, k⟩
  · have h1 := Z.stp_lin hg (m := ⟨0, true, o⟩) (show 0 < 6 by omega) k hz
    have e : lin 6 0 true (x, y) = (x + y, -y) := Z.rf6 0 (by omega) x y
    simp only at h1
    rw [e] at h1
    have h2 := hex_turn h h1
    rwa [show ((-(-y), x + y + -y) : Z.Pt) = (y, x) by apply Z.ext2 <;> simp <;> omega] at h2
  · have h1 := Z.stp_lin hg (m := ⟨1, true, o⟩) (show 1 < 6 by omega) k hz
    have e : lin 6 1 true (x, y) = (y, x) := Z.rf6 1 (by omega) x y
    simp only at h1
    rwa [e] at h1
theorem hex_lat {a b c : Int} (hf : Fine (Stp col) a b c) (h : TurnC 6 col 2) (hfl : FlipC 6 col 0 ∨ FlipC 6 col 1) : ∃ s : Int, 0 < s ∧ (LatA col s ∨ LatB col s) := by
  have hs := Z.stp_sub col
  have sp := hf.spec hs
  have ha := hf.a0
  have hb := hf.b0
  have h1 := (sp _).1 (hex_swap h hfl hf.sa)
  have h2 := (sp _).1 (hex_swap h hfl hf.sb)
  have h3 := (sp _).1 (hex_turn h hf.sb)
  simp only at h1 h2 h3
  obtain ⟨a', rfl⟩ := h1.1
  obtain ⟨c', rfl⟩ := h2.1
  have ha' : 0 < a' := Int.pos_of_mul_pos_right ha (by omega) |> fun h => h
  have e1 : b * c' / b = c' := Int.mul_ediv_cancel_left _ (by omega)
  have e2 : (b * c' + b) / b = c' + 1 := by rw [show b * c' + b = b * (c' + 1) by rw [Int.mul_add]; omega]; exact Int.mul_ediv_cancel_left _ (by omega)
  have h4 := h2.2
  have h5 := h3.2
  rw [e1] at h4
  rw [e2] at h5
  have d4 : a' ∣ 1 - c' * c' := by
    rw [show b - c' * (b * c') = b * (1 - c' * c') by rw [Int.mul_sub, Int.mul_one, Int.mul_left_comm]] at h4
    exact Int.dvd_of_mul_dvd_mul_left (by omega) h4
  have d5 : a' ∣ -1 - (c' + 1) * c' := by
    rw [show -b - (c' + 1) * (b * c') = b * (-1 - (c' + 1) * c') by rw [Int.mul_sub, Int.mul_left_comm b]; omega] at h5
    exact Int.dvd_of_mul_dvd_mul_left (by omega) h5
  have d6 : a' ∣ c' + 2 := by
    have := Int.dvd_sub d4 d5
    rwa [show 1 - c' * c' - (-1 - (c' + 1) * c') = c' + 2 by rw [Int.add_mul]; omega] at this
  have d7 : a' ∣ 3 := by
    have := Int.dvd_add d4 (show a' ∣ (c' + 2) * (c' - 2) from Int.dvd_mul_of_dvd_left d6)
    rw [show 1 - c' * c' + (c' + 2) * (c' - 2) = -3 by rw [Int.add_mul, Int.mul_sub, Int.mul_sub]; omega] at this
    exact Int.dvd_neg.1 this
  have d8 := Int.le_of_dvd (by omega) d7
  have hcase : a' = 1 ∨ a' = 3 := by
    have : a' = 1 ∨ a' = 2 ∨ a' = 3 := by omega
    rcases this with e | e | e
    · exact .inl e
    · subst e; omega
    · exact .inr e
  have hq : ∀ y, b * y / b = y := fun y => Int.mul_ediv_cancel_left _ (by omega)
  refine ⟨b, hb, ?_⟩
  rcases hcase with rfl | rfl
  · left
    intro z
    rw [sp]
    constructor
    · rintro ⟨⟨y, hy⟩, x, hx⟩
      rw [hy, hq] at hx
      refine ⟨x + y * c', y, ?_⟩
      apply Z.ext2
      · show z.1 = b * (x + y * c')
        rw [Int.mul_add, Int.mul_left_comm b y c']
        rw [Int.mul_one] at hx
        omega
      · exact hy
    · rintro ⟨x, y, rfl⟩
      refine ⟨⟨y, rfl⟩, ?_⟩
      simp only
      rw [hq, Int.mul_one]
      exact ⟨x - y * c', by rw [Int.mul_sub, Int.mul_left_comm b y c']⟩
  · right
    obtain ⟨e, he⟩ := d6
    intro z
    rw [sp]
    constructor
    · rintro ⟨⟨y, hy⟩, x, hx⟩
      rw [hy, hq] at hx
      refine ⟨3 * x + y * c', y, ?_, ?_⟩
      · apply Z.ext2
        · show z.1 = b * (3 * x + y * c')
          rw [Int.mul_add, Int.mul_left_comm b y c', ← Int.mul_assoc b 3 x]
          omega
        · exact hy
      · refine ⟨x + y * e - y, ?_⟩
        have : c' = 3 * e - 2 := by omega
        rw [this, Int.mul_sub, Int.mul_sub, Int.mul_add, Int.mul_left_comm y 3 e]
        omega
    · rintro ⟨x, y, rfl, k, hk⟩
      refine ⟨⟨y, rfl⟩, ?_⟩
      simp only
      rw [hq]
      refine ⟨k + y - y * e, ?_⟩
      have : c' = 3 * e - 2 := by omega
      have hx : x = y + 3 * k := by omega
      rw [this, hx, Int.mul_assoc b 3, Int.mul_left_comm y b, ← Int.mul_sub]
      congr 1
      rw [Int.mul_sub, Int.mul_sub, Int.mul_add, Int.mul_left_comm y 3 e]
      omega
theorem n6_pos {x y : Int} (h : x ≠ 0 ∨ y ≠ 0) : 1 ≤ x * x + x * y + y * y := by
  have h1 := Z.nrm_nonneg (.inr rfl : Z.G 6) (x, y)
  rw [Z.nrm6] at h1
  simp only at h1
  have h2 : x * x + x * y + y * y ≠ 0 := fun e => by
    have e4 := Z.nrm6' (x, y)
    rw [Z.nrm6] at e4
    simp only at e4
    rw [e] at e4
    have s1 := Z.sq_nonneg (2 * x + y)
    have s2 := Z.sq_nonneg y
    have y0 : y * y = 0 := by omega
    have y1 : y = 0 := by rcases Int.mul_eq_zero.1 y0 with h | h <;> exact h
    subst y1
    have x0 : x * x = 0 := by simpa using e
    have x1 : x = 0 := by rcases Int.mul_eq_zero.1 x0 with h | h <;> exact h
    rcases h with h | h
    · exact h x1
    · exact h rfl
  omega
theorem n6_scale (s x y : Int) : nrm 6 (s * x, s * y) = s * s * (x * x + x * y + y * y) := by
  rw [Z.nrm6]; simp only; grind
theorem along_A_even {s : Int} (hs : 0 < s) (hl : LatA col s) (h : FlipC 6 col 0) : AlongC 6 col := by
  refine ⟨0, by decide, h, (s, 0), ⟨(hl _).2 ⟨1, 0, by simp⟩, fun e => by have := congrArg Prod.fst e; simp at this; omega, fun y hy hy0 => ?_⟩, by rw [Z.rf6 0 (by omega)]; simp⟩
  obtain ⟨x, y, rfl⟩ := (hl _).1 hy
  have h1 := n6_pos (x := x) (y := y) (by
    by_cases e : x = 0
    · by_cases e2 : y = 0
      · exact absurd (by rw [e, e2]; simp) hy0
      · exact .inr e2
    · exact .inl e)
  have e := n6_scale s 1 0
  simp only [Int.mul_one, Int.mul_zero, Int.add_zero] at e
  rw [e, n6_scale]
  have h2 := Int.mul_le_mul_of_nonneg_left h1 (show 0 ≤ s * s from Z.sq_nonneg s)
  omega
theorem along_B_odd {s : Int} (hs : 0 < s) (hl : LatB col s) (h : FlipC 6 col 1) : AlongC 6 col := by
  refine ⟨1, by decide, h, (s, s), ⟨(hl _).2 ⟨1, 1, by simp, by omega⟩, fun e => by have := congrArg Prod.fst e; simp at this; omega, fun y hy hy0 => ?_⟩, by rw [Z.rf6 1 (by omega)]; simp⟩
  obtain ⟨x, y, rfl, k, hk⟩ := (hl _).1 hy
  have h1 := n6_pos (x := x) (y := y) (by
    by_cases e : x = 0
    · by_cases e2 : y = 0
      · exact absurd (by rw [e, e2]; simp) hy0
      · exact .inr e2
    · exact .inl e)
  have h3 : 3 ≤ x * x + x * y + y * y := by
    have e : x = y + 3 * k := by omega
    have e2 : x * x + x * y + y * y = 3 * (y * y + 3 * (y * k) + 3 * (k * k)) := by rw [e]; grind
    omega
  have e := n6_scale s 1 1
  simp only [Int.mul_one] at e
  rw [e, n6_scale]
  have h2 := Int.mul_le_mul_of_nonneg_left h3 (show 0 ≤ s * s from Z.sq_nonneg s)
  omega
theorem along_A_odd {s : Int} (hs : 0 < s) (hl : LatA col s) (h0 : ¬ FlipC 6 col 0) (h2 : ¬ FlipC 6 col 2) (h4 : ¬ FlipC 6 col 4) : ¬ AlongC 6 col := by
  rintro ⟨t, ht, hf, z, ⟨hz, hz0, hmin⟩, hr⟩
  have ht6 : t < 6 := ht
  have hm := hmin (s, 0) ((hl _).2 ⟨1, 0, by simp⟩) (fun e => by have := congrArg Prod.fst e; simp at this; omega)
  have e := n6_scale s 1 0
  simp only [Int.mul_one, Int.mul_zero, Int.add_zero] at e
  rw [e] at hm
  obtain ⟨x, y, rfl⟩ := (hl _).1 hz
  rw [n6_scale] at hm
  have h9 : 3 ≤ x * x + x * y + y * y := by
    have h1 := n6_pos (x := x) (y := y) (by
      by_cases e : x = 0
      · by_cases e2 : y = 0
        · exact absurd (by rw [e, e2]; simp) hz0
        · exact .inr e2
      · exact .inl e)
    have hx : ∀ {p q : Int}, s * p = s * q → p = q := fun h => Int.eq_of_mul_eq_mul_left (by omega) h
    have ho : t = 1 ∨ t = 3 ∨ t = 5 := by
      have : t = 0 ∨ t = 1 ∨ t = 2 ∨ t = 3 ∨ t = 4 ∨ t = 5 := by omega
      rcases this with rfl | rfl | rfl | rfl | rfl | rfl
      · exact absurd hf h0
      · simp
      · exact absurd hf h2
      · simp
      · exact absurd hf h4
      · simp
    rw [Z.rf6 t ht6] at hr
    rcases ho with rfl | rfl | rfl <;> simp at hr
    · have := hx hr.1
      subst this
      have : y * y + y * y + y * y = 3 * (y * y) := by omega
      omega
    · have q : s * (2 * x + y) = 0 := by rw [Int.mul_add, Int.mul_left_comm]; omega
      have : 2 * x + y = 0 := by rcases Int.mul_eq_zero.1 q with h | h <;> omega
      obtain rfl : y = -(2 * x) := by omega
      have : x * x + x * -(2 * x) + -(2 * x) * -(2 * x) = 3 * (x * x) := by grind
      omega
    · have q : s * (x + 2 * y) = 0 := by rw [Int.mul_add, Int.mul_left_comm]; omega
      have : x + 2 * y = 0 := by rcases Int.mul_eq_zero.1 q with h | h <;> omega
      obtain rfl : x = -(2 * y) := by omega
      have : -(2 * y) * -(2 * y) + -(2 * y) * y + y * y = 3 * (y * y) := by grind
      omega
  have h8 := Int.mul_le_mul_of_nonneg_left h9 (show 0 ≤ s * s from Z.sq_nonneg s)
  have h7 : 0 < s * s := Int.mul_pos hs hs
  omega
theorem along_B_even {s : Int} (hs : 0 < s) (hl : LatB col s) (h1 : ¬ FlipC 6 col 1) (h3 : ¬ FlipC 6 col 3) (h5 : ¬ FlipC 6 col 5) : ¬ AlongC 6 col := by
  rintro ⟨t, ht, hf, z, ⟨hz, hz0, hmin⟩, hr⟩
  have ht6 : t < 6 := ht
  have hm := hmin (s, s) ((hl _).2 ⟨1, 1, by simp, by omega⟩) (fun e => by have := congrArg Prod.fst e; simp at this; omega)
  have e := n6_scale s 1 1
  simp only [Int.mul_one] at e
  rw [e] at hm
  obtain ⟨x, y, rfl, k, hk⟩ := (hl _).1 hz
  rw [n6_scale] at hm
  have h9 : 9 ≤ x * x + x * y + y * y := by
    have h1' := n6_pos (x := x) (y := y) (by
      by_cases e : x = 0
      · by_cases e2 : y = 0
        · exact absurd (by rw [e, e2]; simp) hz0
        · exact .inr e2
      · exact .inl e)
    have ho : t = 0 ∨ t = 2 ∨ t = 4 := by
      have : t = 0 ∨ t = 1 ∨ t = 2 ∨ t = 3 ∨ t = 4 ∨ t = 5 := by omega
      rcases this with rfl | rfl | rfl | rfl | rfl | rfl
      · simp
      · exact absurd hf h1
      · simp
      · exact absurd hf h3
      · simp
      · exact absurd hf h5
    rw [Z.rf6 t ht6] at hr
    rcases ho with rfl | rfl | rfl <;> simp at hr
    · have q : y = 0 := by
        have : s * y = 0 := by omega
        rcases Int.mul_eq_zero.1 this with h | h <;> omega
      subst q
      obtain rfl : x = 3 * k := by omega
      have : 3 * k * (3 * k) + 3 * k * 0 + 0 * 0 = 9 * (k * k) := by grind
      omega
    · have q : x = 0 := by
        have : s * x = 0 := by omega
        rcases Int.mul_eq_zero.1 this with h | h <;> omega
      subst q
      obtain rfl : y = 3 * -k := by omega
      have : (0 : Int) * 0 + 0 * (3 * -k) + 3 * -k * (3 * -k) = 9 * (k * k) := by grind
      omega
    · have q : s * (x + y) = 0 := by rw [Int.mul_add]; omega
      have q2 : x + y = 0 := by rcases Int.mul_eq_zero.1 q with h | h <;> omega
      obtain ⟨j, rfl⟩ : ∃ j, x = 3 * j := ⟨x / 3, by omega⟩
      obtain rfl : y = -(3 * j) := by omega
      have : 3 * j * (3 * j) + 3 * j * -(3 * j) + -(3 * j) * -(3 * j) = 9 * (j * j) := by grind
      omega
  have h8 := Int.mul_le_mul_of_nonneg_left h9 (show 0 ≤ s * s from Z.sq_nonneg s)
  have h7 : 0 < s * s := Int.mul_pos hs hs
  omega
end
end Go.Proofs.Ytooilennejakhaa

namespace Go.Proofs.Ytooilennejakhaa
open Go.RowKit
set_option linter.unusedVariables false
set_option linter.unusedSimpArgs false
open Z (torN place pnt Mv To lin okT nrm both idm md stepB Grp Per Keep Stp Fine LineP MirC GliC FlipC TurnC AlongC ShoC add neg sml al rf dir Eqm redM hasT torusL turnsF waysF alongB kindP movesL bothT)
section
variable {g : Int} {n : Nat} {col : Z.Pt → Int} {L : List Mv}
theorem in_mir (h : Grp g n col L) (hg : Z.G g) (hn : 0 < n) (hp : Per n col) {t : Nat} {o : Z.Pt} (ht : t < g.toNat) (hk : Keep g col ⟨t, true, o⟩) (h0 : al g t o = (0, 0)) (b1 : -5 * (n : Int) ≤ o.1 ∧ o.1 < 6 * n) (b2 : -5 * (n : Int) ≤ o.2 ∧ o.2 < 6 * n) : (⟨t, true, o⟩ : Mv) ∈ mrL g n L L.length := by
  obtain ⟨m, hm, rfl, hf, k, hok, hmo⟩ := in_list h hn hp ht hk
  have hb := Z.md_bd (n := (n : Int)) (by omega) o
  rw [← hmo] at hb
  have q1 : o.1 = m.o.1 + n * k.1 := congrArg Prod.fst hok
  have q2 : o.2 = m.o.2 + n * k.2 := congrArg Prod.snd hok
  have hlt : ∀ {p : Int}, -6 * (n : Int) < n * p → n * p < 6 * (n : Int) → -5 ≤ p ∧ p ≤ 5 := fun {p} c1 c2 => by
    have d1 : (n : Int) * -6 < n * p := by omega
    have d2 : (n : Int) * p < n * 6 := by omega
    have := Int.lt_of_mul_lt_mul_left d1 (by omega)
    have := Int.lt_of_mul_lt_mul_left d2 (by omega)
    omega
  obtain ⟨mt, mf, mo⟩ := m
  simp only at hf
  subst hf
  refine mem_mrL.2 ⟨_, hm, rfl, k.1, k.2, hlt (by simp only at q1 hb; omega) (by simp only at q1 hb; omega), hlt (by simp only at q2 hb; omega) (by simp only at q2 hb; omega), ?_, h0⟩
  unfold shM
  rw [hok]
  rfl
theorem of_mir (h : Grp g n col L) (hp : Per n col) {m : Mv} (hm : m ∈ mrL g n L L.length) : ∃ t o, m = ⟨t, true, o⟩ ∧ t < g.toNat ∧ Keep g col ⟨t, true, o⟩ ∧ al g t o = (0, 0) := by
  obtain ⟨x, hx, hf, i, j, _, _, rfl, h0⟩ := mem_mrL.1 hm
  obtain ⟨xt, xf, xo⟩ := x
  simp only at hf
  subst hf
  exact ⟨xt, _, rfl, h.ok hx, keep_n hp (h.keep hx) (i, j), h0⟩
theorem on_pure (hg : Z.G g) (t u : Nat) (o b : Z.Pt) : both g (both g ⟨t, true, o⟩ ⟨u, false, b⟩) (both g ⟨t, true, o⟩ ⟨u, false, b⟩) = idm ↔ al g ((t + (g.toNat - u)) % g.toNat) (add (rf g t b) o) = (0, 0) := by
  have e : both g ⟨t, true, o⟩ ⟨u, false, b⟩ = ⟨(t + (g.toNat - u)) % g.toNat, true, ((add (rf g t b) o).1, (add (rf g t b) o).2)⟩ := rfl
  have hg0 : 0 < g.toNat := by rcases hg with rfl | rfl <;> decide
  rw [e, both_flip hg (Nat.mod_lt _ hg0)]
  unfold idm
  constructor
  · intro e2; injection e2 with _ _ e3
  · intro e2
    rw [show ((add (rf g t b) o).1, (add (rf g t b) o).2) = add (rf g t b) o from rfl, e2]
theorem on_iff (h : Grp g n col L) (hg : Z.G g) (hp : Per n col) (u : Nat) (b : Z.Pt) : onB g (mrL g n L L.length) ⟨u, false, b⟩ = true ↔ ∃ t o, (⟨t, true, o⟩ : Mv) ∈ mrL g n L L.length ∧ al g ((t + (g.toNat - u)) % g.toNat) (add (rf g t b) o) = (0, 0) := by
  unfold onB
  rw [List.any_eq_true]
  constructor
  · rintro ⟨m, hm, e⟩
    obtain ⟨t, o, rfl, _⟩ := of_mir h hp hm
    exact ⟨t, o, hm, (on_pure hg t u o b).1 (of_decide_eq_true e)⟩
  · rintro ⟨t, o, hm, e⟩
    exact ⟨_, hm, decide_eq_true ((on_pure hg t u o b).2 e)⟩
theorem cen_iff {M : List Mv} {turn : Nat} : cenB g n L M turn = true ↔ ∀ o, (⟨turn, false, o⟩ : Mv) ∈ L → ∀ i j : Nat, i < 3 → j < 3 → onB g M ⟨turn, false, (o.1 + n * i, o.2 + n * j)⟩ = true := by
  unfold cenB
  rw [List.all_eq_true]
  constructor
  · intro k o ho i j hi hj
    have h1 := k _ ho
    unfold ckB c9B at h1
    simp only [Bool.false_or, decide_true, Bool.not_true] at h1
    have h2 := List.all_eq_true.1 h1 (3 * j + i) (List.mem_range.2 (by omega))
    rw [show (3 * j + i) % 3 = i by omega, show (3 * j + i) / 3 = j by omega] at h2
    exact h2
  · intro k r hr
    obtain ⟨rt, rf9, ro⟩ := r
    unfold ckB
    cases rf9 with
    | true => rfl
    | false =>
      by_cases e : rt = turn
      · subst e
        simp only [Bool.false_or, decide_true, Bool.not_true]
        unfold c9B
        exact List.all_eq_true.2 fun q hq => k ro hr (q % 3) (q / 3) (Nat.mod_lt _ (by omega)) (by have := List.mem_range.1 hq; omega)
      · simp [e]
end
section
variable {n : Nat} {col : Z.Pt → Int} {L : List Mv}
theorem kb {t u : Nat} {b1 b2 x y : Int} (hu : u < 6) (hm : Keep 6 col ⟨t, true, (x, y)⟩) (hr : Keep 6 col ⟨u, false, (b1, b2)⟩) : Keep 6 col ⟨(t + (6 - u)) % 6, true, add (rf 6 t (b1, b2)) (x, y)⟩ :=
  Keep.both (.inr rfl) (m := ⟨t, true, (x, y)⟩) (h := ⟨u, false, (b1, b2)⟩) hu hm hr
theorem al6 (t : Nat) (ht : t < 6) (x y : Int) : al 6 t (x, y) = if t = 0 then (2 * x + y, 0) else if t = 1 then (x + y, x + y) else if t = 2 then (0, x + 2 * y) else if t = 3 then (-y, 2 * y) else if t = 4 then (x - y, y - x) else (2 * x, -x) := by
  unfold al
  rw [Z.rf6 t ht]
  (repeat' split) <;> apply Z.ext2 <;> simp [add] <;> omega
theorem on_odd (h : Grp 6 n col L) (hp : Per n col) {b1 b2 : Int} (hr : Keep 6 col ⟨2, false, (b1, b2)⟩) (h0 : ¬ FlipC 6 col 0) (h2 : ¬ FlipC 6 col 2) (h4 : ¬ FlipC 6 col 4) (ho : onB 6 (mrL 6 n L L.length) ⟨2, false, (b1, b2)⟩ = true) : Keep 6 col ⟨1, true, (-b2, b2)⟩ := by
  obtain ⟨t, o, hm, he⟩ := (on_iff h (.inr rfl) hp 2 (b1, b2)).1 ho
  obtain ⟨t', o', e, ht, hk, ha⟩ := of_mir h hp hm
  injection e with e1 _ e2
  subst e1 e2
  have ht6 : t < 6 := ht
  obtain ⟨x, y⟩ := o
  have hk2 := kb (show 2 < 6 by omega) hk hr
  have hc : t = 1 ∨ t = 3 ∨ t = 5 := by
    have : t = 0 ∨ t = 1 ∨ t = 2 ∨ t = 3 ∨ t = 4 ∨ t = 5 := by omega
    rcases this with rfl | rfl | rfl | rfl | rfl | rfl
    · exact absurd ⟨_, hk⟩ h0
    · simp
    · exact absurd ⟨_, hk⟩ h2
    · simp
    · exact absurd ⟨_, hk⟩ h4
    · simp
  rw [al6 t ht6] at ha
  rw [Z.rf6 t ht6] at he hk2
  rcases hc with rfl | rfl | rfl
  · simp only [add] at he ha
    rw [show (1 + ((6 : Int).toNat - 2)) % (6 : Int).toNat = 5 from rfl, al6 5 (by omega)] at he
    simp at he ha
    obtain rfl : x = -b2 := by omega
    obtain rfl : y = b2 := by omega
    exact hk
  · simp only [add] at he ha hk2
    rw [show (3 + ((6 : Int).toNat - 2)) % (6 : Int).toNat = 1 from rfl, al6 1 (by omega)] at he
    simp at he ha hk2
    obtain rfl : y = 0 := by omega
    obtain rfl : x = b1 := by omega
    rwa [show -x - b2 + x = -b2 by omega, Int.add_zero] at hk2
  · simp only [add] at he ha hk2
    rw [show (5 + ((6 : Int).toNat - 2)) % (6 : Int).toNat = 3 from rfl, al6 3 (by omega)] at he
    simp at he ha hk2
    obtain rfl : x = 0 := by omega
    obtain rfl : y = b1 + b2 := by omega
    have hk3 := kb (show 2 < 6 by omega) hk2 hr
    rw [Z.rf6 3 (by omega)] at hk3
    simp [add] at hk3
    rwa [show -b1 - b2 + b1 = -b2 by omega, show b2 + (-b1 - b2 + (b1 + b2)) = b2 by omega] at hk3
theorem on_even (h : Grp 6 n col L) (hp : Per n col) {b1 b2 : Int} (hr : Keep 6 col ⟨2, false, (b1, b2)⟩) (h1 : ¬ FlipC 6 col 1) (h3 : ¬ FlipC 6 col 3) (h5 : ¬ FlipC 6 col 5) (ho : onB 6 (mrL 6 n L L.length) ⟨2, false, (b1, b2)⟩ = true) : ∃ p, 3 * p = -b1 - 2 * b2 ∧ Keep 6 col ⟨0, true, (p, -2 * p)⟩ := by
  obtain ⟨t, o, hm, he⟩ := (on_iff h (.inr rfl) hp 2 (b1, b2)).1 ho
  obtain ⟨t', o', e, ht, hk, ha⟩ := of_mir h hp hm
  injection e with e1 _ e2
  subst e1 e2
  have ht6 : t < 6 := ht
  obtain ⟨x, y⟩ := o
  have hk2 := kb (show 2 < 6 by omega) hk hr
  have hc : t = 0 ∨ t = 2 ∨ t = 4 := by
    have : t = 0 ∨ t = 1 ∨ t = 2 ∨ t = 3 ∨ t = 4 ∨ t = 5 := by omega
    rcases this with rfl | rfl | rfl | rfl | rfl | rfl
    · simp
    · exact absurd ⟨_, hk⟩ h1
    · simp
    · exact absurd ⟨_, hk⟩ h3
    · simp
    · exact absurd ⟨_, hk⟩ h5
  rw [al6 t ht6] at ha
  rw [Z.rf6 t ht6] at he hk2
  rcases hc with rfl | rfl | rfl
  · simp only [add] at he ha
    rw [show (0 + ((6 : Int).toNat - 2)) % (6 : Int).toNat = 4 from rfl, al6 4 (by omega)] at he
    simp at he ha
    obtain rfl : y = -2 * x := by omega
    exact ⟨x, by omega, hk⟩
  · simp only [add] at he ha hk2
    rw [show (2 + ((6 : Int).toNat - 2)) % (6 : Int).toNat = 0 from rfl, al6 0 (by omega)] at he
    simp at he ha hk2
    obtain rfl : x = -2 * y := by omega
    refine ⟨-b1 + -2 * y, by omega, ?_⟩
    rwa [show b1 + b2 + y = -2 * (-b1 + -2 * y) by omega] at hk2
  · simp only [add] at he ha hk2
    rw [show (4 + ((6 : Int).toNat - 2)) % (6 : Int).toNat = 2 from rfl, al6 2 (by omega)] at he
    simp at he ha hk2
    obtain rfl : x = y := by omega
    have hk3 := kb (show 2 < 6 by omega) hk2 hr
    rw [Z.rf6 2 (by omega)] at hk3
    simp [add] at hk3
    refine ⟨-b1 + (-b2 + x), by omega, ?_⟩
    rwa [show b1 + b2 + (-b1 + x) = -2 * (-b1 + (-b2 + x)) by omega] at hk3
end
end Go.Proofs.Ytooilennejakhaa
