/- Lemmas and contracts of functions (what each call returns, and that it changes nothing that was there) that the proof of a law of this seat uses; each lemma states its own conditions. -/
import Derived.Test.YtooilennejakhaaB34
import Derived.Test.YtooilennejakhaaB33
import Derived.Test.YtooilennejakhaaB24
namespace Go.Proofs.Ytooilennejakhaa
open Go.RowKit
set_option linter.unusedVariables false
set_option linter.unusedSimpArgs false
open Z (torN place pnt Mv To lin okT nrm both idm md stepB Grp Per Keep Stp Fine LineP MirC GliC FlipC TurnC AlongC ShoC add neg sml al rf dir Eqm redM hasT torusL turnsF waysF alongB kindP movesL bothT)
section
variable {n : Nat} {col : Z.Pt → Int} {L : List Mv}
theorem turn_n {g : Int} (hp : Per n col) {t : Nat} {x y : Int} (h : Keep g col ⟨t, false, (x, y)⟩) (i j : Int) : Keep g col ⟨t, false, (x + n * i, y + n * j)⟩ :=
  Keep.eqm hp (m := ⟨t, false, (x, y)⟩) (h := ⟨t, false, (x + n * i, y + n * j)⟩) rfl rfl (Eqm.symm ⟨(i, j), rfl⟩) h
theorem turn_s {g : Int} {t : Nat} {o z : Z.Pt} (h : Keep g col ⟨t, false, o⟩) (hz : Stp col z) : Keep g col ⟨t, false, add o z⟩ := fun q => by
  have e : To g ⟨t, false, add o z⟩ q = add (To g ⟨t, false, o⟩ q) z := by unfold To; apply Z.ext2 <;> simp [add] <;> omega
  rw [e, hz, h]
theorem cen_odd_A (h : Grp 6 n col L) (hn : 0 < n) (hp : Per n col) {s : Int} (hl : LatA col s) (h1 : FlipC 6 col 1) : cenB 6 n L (mrL 6 n L L.length) 2 = true := by
  rw [cen_iff]
  rintro ⟨o1, o2⟩ ho i j hi hj
  have hbd := ((h.mem _).1 ho).2.2
  simp only at hbd ⊢
  have hr := turn_n hp (h.keep ho) (i : Int) (j : Int)
  obtain ⟨b1, e1⟩ : ∃ b, o1 + (n : Int) * (i : Int) = b := ⟨_, rfl⟩
  obtain ⟨b2, e2⟩ : ∃ b, o2 + (n : Int) * (j : Int) = b := ⟨_, rfl⟩
  rw [e1, e2] at hr ⊢
  have hb2 : 0 ≤ b2 ∧ b2 < 3 * n := by
    have c1 := Int.mul_le_mul_of_nonneg_left (show (j : Int) ≤ 2 by omega) (show (0 : Int) ≤ n by omega)
    have c2 := Int.mul_nonneg (show (0 : Int) ≤ n by omega) (show (0 : Int) ≤ j by omega)
    omega
  obtain ⟨⟨x, y⟩, hk⟩ := h1
  have ha := Z.al_keep (.inr rfl) (show 1 < 6 by omega) hk
  rw [al6 1 (by omega)] at ha
  simp only [Nat.reduceEqDiff, if_false, if_true, Nat.one_ne_zero] at ha
  obtain ⟨u, v, huv⟩ := (hl _).1 ha
  have u1 : x + y = s * u := congrArg Prod.fst huv
  have hk1 := Z.keep_shift hk ((hl (s * -u, s * 0)).2 ⟨_, _, rfl⟩)
  rw [show add (x, y) (s * -u, s * 0) = (-y, y) by apply Z.ext2 <;> simp [add, Int.mul_neg] <;> omega] at hk1
  have hk2 := kb (show 2 < 6 by omega) hk1 hr
  have ha2 := Z.al_keep (.inr rfl) (show (1 + (6 - 2)) % 6 < 6 by omega) hk2
  rw [Z.rf6 1 (by omega)] at ha2
  simp only [Nat.reduceEqDiff, if_false, if_true, Nat.one_ne_zero, add] at ha2
  rw [show (1 + (6 - 2)) % 6 = 5 from rfl, al6 5 (by omega)] at ha2
  simp only [Nat.reduceEqDiff, if_false, if_true, reduceCtorEq] at ha2
  obtain ⟨p, q, hpq⟩ := (hl _).1 ha2
  have q1 : -(b2 + -y) = s * q := congrArg Prod.snd hpq
  have hk3 := Z.keep_shift hk1 ((hl (s * q, s * -q)).2 ⟨_, _, rfl⟩)
  rw [show add (-y, y) (s * q, s * -q) = (-b2, b2) by apply Z.ext2 <;> simp [add, Int.mul_neg] <;> omega] at hk3
  refine (on_iff h (.inr rfl) hp 2 (b1, b2)).2 ⟨1, (-b2, b2), in_mir h (.inr rfl) hn hp (by decide) hk3 (by rw [al6 1 (by omega)]; simp; omega) (by simp only; omega) (by simp only; omega), ?_⟩
  rw [show (1 + ((6 : Int).toNat - 2)) % (6 : Int).toNat = 5 from rfl, Z.rf6 1 (by omega)]
  simp only [Nat.reduceEqDiff, if_false, if_true, Nat.one_ne_zero, add]
  rw [al6 5 (by omega)]
  simp
  omega
theorem cen_odd_B (h : Grp 6 n col L) (hn : 0 < n) (hp : Per n col) {s : Int} (hs : 0 < s) (hl : LatB col s) (ht : TurnC 6 col 2) (h0 : ¬ FlipC 6 col 0) (h2 : ¬ FlipC 6 col 2) (h4 : ¬ FlipC 6 col 4) : cenB 6 n L (mrL 6 n L L.length) 2 ≠ true := by
  intro hc
  rw [cen_iff] at hc
  have hP : ∀ b1 b2, Keep 6 col ⟨2, false, (b1, b2)⟩ → Keep 6 col ⟨1, true, (-b2, b2)⟩ := fun b1 b2 hr => by
    obtain ⟨m, hm, mt, mf, k, hk, _⟩ := in_list h hn hp (show 2 < 6 by omega) hr
    obtain ⟨t, f, o1, o2⟩ := m
    simp only at mt mf hk
    subst mt mf
    have h1 := hc _ hm 0 0 (by omega) (by omega)
    simp only [Int.natCast_zero, Int.mul_zero, Int.add_zero] at h1
    have h3 := on_odd h hp (h.keep hm) h0 h2 h4 h1
    have h5 := keep_n hp h3 (-k.2, k.2)
    have e : b2 = o2 + n * k.2 := congrArg Prod.snd hk
    rwa [show add (-o2, o2) (sml n (-k.2, k.2)) = (-b2, b2) by apply Z.ext2 <;> simp [add, sml, Int.mul_neg] <;> omega] at h5
  obtain ⟨⟨b1, b2⟩, hr⟩ := ht
  have hr2 := turn_s hr ((hl (s * 1, s * 1)).2 ⟨_, _, rfl, by omega⟩)
  have k1 := hP _ _ hr
  have k2 := hP _ _ hr2
  have hd := Z.flip_diff (.inr rfl) (show 1 < 6 by omega) k1 k2
  obtain ⟨x, y, hxy, hdv⟩ := (hl _).1 hd
  have e1 : -(b2 + s * 1) + -(-b2) = s * x := congrArg Prod.fst hxy
  have e2 : (b2 + s * 1) + -b2 = s * y := congrArg Prod.snd hxy
  have f1 : x = -1 := Int.eq_of_mul_eq_mul_left (show s ≠ 0 by omega) (by rw [Int.mul_neg]; omega)
  have f2 : y = 1 := Int.eq_of_mul_eq_mul_left (show s ≠ 0 by omega) (by omega)
  subst f1 f2
  omega
theorem cen_even_A (h : Grp 6 n col L) (hn : 0 < n) (hp : Per n col) {s : Int} (hs : 0 < s) (hl : LatA col s) (ht : TurnC 6 col 2) (h1 : ¬ FlipC 6 col 1) (h3 : ¬ FlipC 6 col 3) (h5 : ¬ FlipC 6 col 5) : cenB 6 n L (mrL 6 n L L.length) 2 ≠ true := by
  intro hc
  rw [cen_iff] at hc
  have hP : ∀ b1 b2, Keep 6 col ⟨2, false, (b1, b2)⟩ → ∃ p, 3 * p = -b1 - 2 * b2 ∧ Keep 6 col ⟨0, true, (p, -2 * p)⟩ := fun b1 b2 hr => by
    obtain ⟨m, hm, mt, mf, k, hk, _⟩ := in_list h hn hp (show 2 < 6 by omega) hr
    obtain ⟨t, f, o1, o2⟩ := m
    simp only at mt mf hk
    subst mt mf
    obtain ⟨k1, k2⟩ := k
    have e1 : b1 = o1 + n * k1 := congrArg Prod.fst hk
    have e2 : b2 = o2 + n * k2 := congrArg Prod.snd hk
    obtain ⟨i, hi⟩ : ∃ i : Nat, (i : Int) = (k1 + 2 * k2) % 3 := ⟨((k1 + 2 * k2) % 3).toNat, by omega⟩
    have h9 := hc _ hm i 0 (by omega) (by omega)
    simp only [Int.natCast_zero, Int.mul_zero, Int.add_zero] at h9
    have hr9 := turn_n hp (h.keep hm) (i : Int) 0
    simp only [Int.mul_zero, Int.add_zero] at hr9
    obtain ⟨p, hp1, hp2⟩ := on_even h hp hr9 h1 h3 h5 h9
    obtain ⟨q, hq⟩ : ∃ q, (i : Int) = k1 + 2 * k2 + 3 * q := ⟨-((k1 + 2 * k2) / 3), by omega⟩
    have h8 := keep_n hp hp2 (q, -2 * q)
    have e3 : (n : Int) * i = n * k1 + 2 * (n * k2) + 3 * (n * q) := by rw [hq]; grind
    refine ⟨p + n * q, by omega, ?_⟩
    rwa [show add (p, -2 * p) (sml n (q, -2 * q)) = (p + n * q, -2 * (p + n * q)) by
      apply Z.ext2
      · rfl
      · show -2 * p + (n : Int) * (-2 * q) = -2 * (p + n * q)
        rw [Int.mul_left_comm]; omega] at h8
  obtain ⟨⟨b1, b2⟩, hr⟩ := ht
  have hr2 := turn_s hr ((hl (s * 1, s * 0)).2 ⟨_, _, rfl⟩)
  obtain ⟨p, a1, k1⟩ := hP _ _ hr
  obtain ⟨p', a2, k2⟩ := hP _ _ hr2
  have hd := Z.flip_diff (.inr rfl) (show 0 < 6 by omega) k1 k2
  obtain ⟨x, y, hxy⟩ := (hl _).1 hd
  have e1 : p' + -p = s * x := congrArg Prod.fst hxy
  have e2 : s * (1 + 3 * x) = 0 := by rw [Int.mul_add, Int.mul_left_comm]; omega
  rcases Int.mul_eq_zero.1 e2 with e | e <;> omega
theorem cen_even_B (h : Grp 6 n col L) (hn : 0 < n) (hp : Per n col) {s : Int} (hs : 0 < s) (hl : LatB col s) (h0 : FlipC 6 col 0) : cenB 6 n L (mrL 6 n L L.length) 2 = true := by
  rw [cen_iff]
  rintro ⟨o1, o2⟩ ho i j hi hj
  have hbd := ((h.mem _).1 ho).2.2
  simp only at hbd ⊢
  have hr := turn_n hp (h.keep ho) (i : Int) (j : Int)
  obtain ⟨b1, e1⟩ : ∃ b, o1 + (n : Int) * (i : Int) = b := ⟨_, rfl⟩
  obtain ⟨b2, e2⟩ : ∃ b, o2 + (n : Int) * (j : Int) = b := ⟨_, rfl⟩
  rw [e1, e2] at hr ⊢
  have hb2 : (0 ≤ b2 ∧ b2 < 3 * n) ∧ 0 ≤ b1 ∧ b1 < 3 * n := by
    have c1 := Int.mul_le_mul_of_nonneg_left (show (j : Int) ≤ 2 by omega) (show (0 : Int) ≤ n by omega)
    have c2 := Int.mul_nonneg (show (0 : Int) ≤ n by omega) (show (0 : Int) ≤ j by omega)
    have c3 := Int.mul_le_mul_of_nonneg_left (show (i : Int) ≤ 2 by omega) (show (0 : Int) ≤ n by omega)
    have c4 := Int.mul_nonneg (show (0 : Int) ≤ n by omega) (show (0 : Int) ≤ i by omega)
    omega
  obtain ⟨⟨x, y⟩, hk⟩ := h0
  have ha := Z.al_keep (.inr rfl) (show 0 < 6 by omega) hk
  rw [al6 0 (by omega)] at ha
  simp only [if_true] at ha
  obtain ⟨u, v, huv, w, hw⟩ := (hl _).1 ha
  have u1 : 2 * x + y = s * u := congrArg Prod.fst huv
  have v1 : 0 = s * v := congrArg Prod.snd huv
  have v0 : v = 0 := by rcases Int.mul_eq_zero.1 v1.symm with e | e <;> omega
  obtain rfl : u = 3 * w := by omega
  have hk1 := Z.keep_shift hk ((hl (s * -w, s * -w)).2 ⟨_, _, rfl, by omega⟩)
  obtain ⟨p0, hp0⟩ : ∃ p, x - s * w = p := ⟨_, rfl⟩
  rw [show add (x, y) (s * -w, s * -w) = (p0, -2 * p0) by
    have : s * (3 * w) = 3 * (s * w) := Int.mul_left_comm ..
    apply Z.ext2 <;> simp [add, Int.mul_neg] <;> omega] at hk1
  have hk2 := kb (show 2 < 6 by omega) hk1 hr
  have ha2 := Z.al_keep (.inr rfl) (show (0 + (6 - 2)) % 6 < 6 by omega) hk2
  rw [Z.rf6 0 (by omega)] at ha2
  simp only [if_true, add] at ha2
  rw [show (0 + (6 - 2)) % 6 = 4 from rfl, al6 4 (by omega)] at ha2
  simp only [Nat.reduceEqDiff, if_false, if_true, reduceCtorEq] at ha2
  obtain ⟨c, d, hcd, z, hz⟩ := (hl _).1 ha2
  have q1 : b1 + b2 + p0 - (-b2 + -2 * p0) = s * c := congrArg Prod.fst hcd
  have q2 : -b2 + -2 * p0 - (b1 + b2 + p0) = s * d := congrArg Prod.snd hcd
  have q3 : d = -c := Int.eq_of_mul_eq_mul_left (show s ≠ 0 by omega) (by rw [Int.mul_neg]; omega)
  obtain ⟨w', rfl⟩ : ∃ w', c = 3 * w' := ⟨c / 3, by omega⟩
  have hk3 := Z.keep_shift hk1 ((hl (s * -w', s * (2 * w'))).2 ⟨_, _, rfl, by omega⟩)
  obtain ⟨p, hpp⟩ : ∃ p, p0 - s * w' = p := ⟨_, rfl⟩
  have q4 : s * (3 * w') = 3 * (s * w') := Int.mul_left_comm ..
  have q5 : s * (2 * w') = 2 * (s * w') := Int.mul_left_comm ..
  rw [show add (p0, -2 * p0) (s * -w', s * (2 * w')) = (p, -2 * p) by apply Z.ext2 <;> simp [add, Int.mul_neg] <;> omega] at hk3
  have h3p : 3 * p = -b1 - 2 * b2 := by omega
  refine (on_iff h (.inr rfl) hp 2 (b1, b2)).2 ⟨0, (p, -2 * p), in_mir h (.inr rfl) hn hp (by decide) hk3 (by rw [al6 0 (by omega)]; simp; omega) (by simp only; omega) (by simp only; omega), ?_⟩
  rw [show (0 + ((6 : Int).toNat - 2)) % (6 : Int).toNat = 4 from rfl, Z.rf6 0 (by omega)]
  simp only [if_true, add]
  rw [al6 4 (by omega)]
  simp
  omega
theorem cen_along (h : Grp 6 n col L) (hn : 0 < n) (hp : Per n col) {a b c : Int} (hf : Fine (Stp col) a b c) (hc : cntC 6 (TurnC 6 col) = 3) {t : Nat} (ht : t < 6) (hfl : FlipC 6 col t) : cenB 6 n L (mrL 6 n L L.length) 2 = true ↔ ¬ AlongC 6 col := by
  obtain ⟨t2, t4, n1, n3, n5⟩ := turns6.2.2 hc
  have hg : Z.G 6 := .inr rfl
  have ff := fun i j (hi : i < 6) (hj : j < 6) => cl_ff (g := 6) (col := col) hg (i := i) (j := j) hi hj
  have f2 := cl_tf (g := 6) hg (show 2 < 6 by omega) ht t2 hfl
  have f4 := cl_tf (g := 6) hg (show 4 < 6 by omega) ht t4 hfl
  have hpar : (FlipC 6 col 0 ∧ ¬ FlipC 6 col 1 ∧ ¬ FlipC 6 col 3 ∧ ¬ FlipC 6 col 5) ∨ (FlipC 6 col 1 ∧ ¬ FlipC 6 col 0 ∧ ¬ FlipC 6 col 2 ∧ ¬ FlipC 6 col 4) := by
    have he : FlipC 6 col 0 → (FlipC 6 col 0 ∧ ¬ FlipC 6 col 1 ∧ ¬ FlipC 6 col 3 ∧ ¬ FlipC 6 col 5) := fun h0 =>
      ⟨h0, fun k => n1 (ff 1 0 (by omega) (by omega) k h0), fun k => n3 (ff 3 0 (by omega) (by omega) k h0), fun k => n5 (ff 5 0 (by omega) (by omega) k h0)⟩
    have ho : FlipC 6 col 1 → (FlipC 6 col 1 ∧ ¬ FlipC 6 col 0 ∧ ¬ FlipC 6 col 2 ∧ ¬ FlipC 6 col 4) := fun h1 =>
      ⟨h1, fun k => n5 (ff 0 1 (by omega) (by omega) k h1), fun k => n1 (ff 2 1 (by omega) (by omega) k h1), fun k => n3 (ff 4 1 (by omega) (by omega) k h1)⟩
    have : t = 0 ∨ t = 1 ∨ t = 2 ∨ t = 3 ∨ t = 4 ∨ t = 5 := by omega
    rcases this with rfl | rfl | rfl | rfl | rfl | rfl
    · exact .inl (he hfl)
    · exact .inr (ho hfl)
    · exact .inl (he f4)
    · exact .inr (ho f4)
    · exact .inl (he f2)
    · exact .inr (ho f2)
  rcases hpar with ⟨h0, h1, h3, h5⟩ | ⟨h1, h0, h2, h4⟩
  · obtain ⟨s, hs, hl | hl⟩ := hex_lat hf t2 (.inl h0)
    · exact ⟨fun k => absurd k (cen_even_A h hn hp hs hl t2 h1 h3 h5), fun k => absurd (along_A_even hs hl h0) k⟩
    · exact ⟨fun _ => along_B_even hs hl h1 h3 h5, fun _ => cen_even_B h hn hp hs hl h0⟩
  · obtain ⟨s, hs, hl | hl⟩ := hex_lat hf t2 (.inr h1)
    · exact ⟨fun _ => along_A_odd hs hl h0 h2 h4, fun _ => cen_odd_A h hn hp hl h1⟩
    · exact ⟨fun k => absurd k (cen_odd_B h hn hp hs hl t2 h0 h2 h4), fun k => absurd (along_B_odd hs hl h1) k⟩
end
end Go.Proofs.Ytooilennejakhaa

namespace Go.Proofs.Ytooilennejakhaa
open Go.RowKit
set_option linter.unusedVariables false
set_option linter.unusedSimpArgs false
open Z (torN place pnt Mv To lin okT nrm both idm md stepB Grp Per Keep Stp Fine LineP MirC GliC FlipC TurnC AlongC ShoC add neg sml al rf dir Eqm redM hasT torusL turnsF waysF alongB kindP movesL bothT movd inv cjT)
section
variable {n : Nat} {col : Z.Pt → Int} {L : List Mv}
theorem pure_of_mir {g : Int} {t : Nat} (h : MirC g col t) : ∃ o, Keep g col ⟨t, true, o⟩ ∧ al g t o = (0, 0) := by
  obtain ⟨o, hk, s, h1, h2, h3⟩ := h
  refine ⟨add o s, Z.keep_shift hk h1, ?_⟩
  rw [Z.al_add, show al g t s = add s s by unfold al; rw [h2]]
  exact h3
theorem mir_of_pure {g : Int} {t : Nat} {o : Z.Pt} (h : Keep g col ⟨t, true, o⟩) (h0 : al g t o = (0, 0)) : MirC g col t := by
  refine ⟨o, h, (0, 0), (Z.stp_sub col).zero, ?_, ?_⟩
  · exact Z.klin_zero t true
  · rw [h0]; rfl
theorem movd_keep {g : Int} (hg : Z.G g) {m : Mv} (hm : okT g m) (h : Keep g col m) : movd g m col = col := funext fun z => Keep.inv hg hm h z
theorem al4 (t : Nat) (ht : t < 4) (x y : Int) : al 4 t (x, y) = if t = 0 then (2 * x, 0) else if t = 1 then (x + y, x + y) else if t = 2 then (0, 2 * y) else (x - y, y - x) := by
  unfold al
  rw [Z.rf4 t ht]
  (repeat' split) <;> apply Z.ext2 <;> simp [add] <;> omega
theorem some_iff (h : Grp 4 n col L) (hn : 0 < n) (hp : Per n col) (hc : cntC 4 (TurnC 4 col) = 4) {u : Nat} (hu : u < 4) (hfu : FlipC 4 col u) : someB 4 L (mrL 4 n L L.length) 1 = true ↔ ∀ t, t < 4 → FlipC 4 col t → MirC 4 col t := by
  have hg : Z.G 4 := .inl rfl
  have t1 := turns4.2.2 hc
  have hall : ∀ t, t < 4 → FlipC 4 col t := by
    have c1 := fun j (hj : j < 4) => cl_tf (g := 4) (col := col) hg (show 1 < 4 by omega) (j := j) hj t1
    intro t ht
    have w1 := c1 _ hu hfu
    have w2 := c1 _ (Nat.mod_lt _ (by decide)) w1
    have w3 := c1 _ (Nat.mod_lt _ (by decide)) w2
    have qu : u = 0 ∨ u = 1 ∨ u = 2 ∨ u = 3 := by omega
    have qt : t = 0 ∨ t = 1 ∨ t = 2 ∨ t = 3 := by omega
    rcases qu with rfl | rfl | rfl | rfl <;> rcases qt with rfl | rfl | rfl | rfl <;> first | exact hfu | exact w1 | exact w2 | exact w3
  unfold someB
  rw [List.any_eq_true]
  constructor
  · rintro ⟨r, hr, ho⟩
    obtain ⟨rt, rff, b⟩ := r
    unfold tkB at ho
    rw [Bool.and_eq_true, Bool.and_eq_true, decide_eq_true_iff] at ho
    obtain ⟨q1, q2, ho⟩ := ho
    simp only at q2
    subst q2
    obtain rfl : rff = false := by simpa using q1
    have hkr := h.keep hr
    obtain ⟨t, o, hm, he⟩ := (on_iff h hg hp 1 b).1 ho
    obtain ⟨t', o', e, ht, hk, ha⟩ := of_mir h hp hm
    injection e with e1 _ e2
    subst e1 e2
    have ht4 : t < 4 := ht
    have hk2 : Keep 4 col ⟨(t + ((4 : Int).toNat - 1)) % (4 : Int).toNat, true, add (rf 4 t b) o⟩ := Keep.both hg (m := ⟨t, true, o⟩) (h := ⟨1, false, b⟩) (show 1 < 4 by omega) hk hkr
    have m1 := mir_of_pure hk ha
    have m2 := mir_of_pure hk2 he
    have hok : okT 4 (⟨1, false, b⟩ : Mv) := show 1 < 4 by omega
    have hcj : ∀ v, v < 4 → MirC 4 col v → MirC 4 col ((v + 2) % 4) := fun v hv hm => by
      have k := Z.mir_moved hg hok (show v < (4 : Int).toNat from hv) hm
      rw [movd_keep hg hok hkr] at k
      have : cjT 4 ⟨1, false, b⟩ v = (v + 2) % 4 := by
        have : v = 0 ∨ v = 1 ∨ v = 2 ∨ v = 3 := by omega
        rcases this with rfl | rfl | rfl | rfl <;> simp [cjT, bothT, both, inv, Z.invT]
      rwa [this] at k
    intro w hw _
    have m3 := hcj t ht4 m1
    have m4 := hcj _ (show (t + ((4 : Int).toNat - 1)) % (4 : Int).toNat < 4 from Nat.mod_lt _ (by decide)) m2
    have qt : t = 0 ∨ t = 1 ∨ t = 2 ∨ t = 3 := by omega
    have qw : w = 0 ∨ w = 1 ∨ w = 2 ∨ w = 3 := by omega
    rcases qt with rfl | rfl | rfl | rfl <;> rcases qw with rfl | rfl | rfl | rfl <;> first | exact m1 | exact m2 | exact m3 | exact m4
  · intro hM
    obtain ⟨⟨x0, y0⟩, k0, a0⟩ := pure_of_mir (hM 0 (by omega) (hall 0 (by omega)))
    obtain ⟨⟨x1, y1⟩, k1, a1⟩ := pure_of_mir (hM 1 (by omega) (hall 1 (by omega)))
    rw [al4 0 (by omega)] at a0
    rw [al4 1 (by omega)] at a1
    have e0 : 2 * x0 = 0 := congrArg Prod.fst a0
    have e1 : x1 + y1 = 0 := congrArg Prod.fst a1
    have kr : Keep 4 col ⟨(1 + ((4 : Int).toNat - 0)) % (4 : Int).toNat, false, add (rf 4 1 (x0, y0)) (x1, y1)⟩ := Keep.both hg (m := ⟨1, true, (x1, y1)⟩) (h := ⟨0, true, (x0, y0)⟩) (show 0 < 4 by omega) k1 k0
    rw [show (1 + ((4 : Int).toNat - 0)) % (4 : Int).toNat = 1 from rfl] at kr
    rw [Z.rf4 1 (by omega)] at kr
    obtain ⟨r, hr, rt, rff, k, hk, _⟩ := in_list h hn hp (show 1 < 4 by omega) kr
    have hbd := ((h.mem _).1 hr).2.2
    obtain ⟨t, f, p, q⟩ := r
    simp only at rt rff hk hbd
    subst rt rff
    have e3 : x0 + y1 = q + n * k.2 := congrArg Prod.snd hk
    have k2 := keep_n hp k1 (k.2, -k.2)
    rw [show add (x1, y1) (sml n (k.2, -k.2)) = (-q, q) by apply Z.ext2 <;> simp [add, sml, Int.mul_neg] <;> omega] at k2
    refine ⟨_, hr, ?_⟩
    unfold tkB
    rw [Bool.and_eq_true, Bool.and_eq_true, decide_eq_true_iff]
    refine ⟨rfl, rfl, (on_iff h hg hp 1 (p, q)).2 ⟨1, (-q, q), in_mir h hg hn hp (by decide) k2 (by rw [al4 1 (by omega)]; simp; omega) (by simp only; omega) (by simp only; omega), ?_⟩⟩
    rw [show (1 + ((4 : Int).toNat - 1)) % (4 : Int).toNat = 0 from rfl, Z.rf4 1 (by omega), show add (if 1 = 0 then (p, -q) else if 1 = 1 then (q, p) else if 1 = 2 then (-p, q) else (-q, -p)) (-q, q) = (q + -q, p + q) from rfl, al4 0 (by omega)]
    simp
    omega
end
/-- The same, if all that is asked is answered the same. -/
theorem rk_kind (T F M G : Nat) (cen som al9 : Bool) (E : List (Nat × Bool × Bool)) (hF : F = 0 ↔ E = [])
    (hG : E ≠ [] → (G = 0 ↔ ∀ e ∈ E, e.2 = (true, false))) (hM : E ≠ [] → (M = 0 ↔ ∀ e ∈ E, e.2 = (false, true)))
    (h2 : T = 2 → E ≠ [] → G ≠ 0 → M ≠ 0 → (M = 2 ↔ ∀ e ∈ E, e.2 = (true, true)))
    (h3 : T = 3 → E ≠ [] → (cen = true ↔ ¬ al9 = true)) (h4 : T = 4 → E ≠ [] → (som = true ↔ ∀ e ∈ E, e.2.1 = true)) :
    rkS T F M G cen som = kindP T al9 E := by
  have c : ∀ a b : Nat, ((a : Int) = (b : Int)) ↔ a = b := fun a b => by omega
  have c1 : ((T : Int) = 1) ↔ T = 1 := c T 1
  have c2 : ((T : Int) = 2) ↔ T = 2 := c T 2
  have c3 : ((T : Int) = 3) ↔ T = 3 := c T 3
  have c4 : ((T : Int) = 4) ↔ T = 4 := c T 4
  have d1 : ((F : Int) = 0) ↔ E = [] := (c F 0).trans hF
  have d2 : ((M : Int) = 0) ↔ M = 0 := c M 0
  have d3 : ((G : Int) = 0) ↔ G = 0 := c G 0
  have d4 : ((M : Int) = 2) ↔ M = 2 := c M 2
  unfold rkS kindP
  simp only [c1, c2, c3, c4, d1, d2, d3, d4]
  by_cases hE : E = []
  · simp only [hE, if_true]
  · simp only [hE, if_false]
    have g1 := hG hE
    have g2 := hM hE
    by_cases t1 : T = 1
    · rw [if_pos t1, if_pos t1]
      by_cases q1 : G = 0
      · rw [if_pos q1, if_pos (g1.1 q1)]
      · rw [if_neg q1, if_neg (fun k => q1 (g1.2 k))]
        by_cases q2 : M = 0
        · rw [if_pos q2, if_pos (g2.1 q2)]
        · rw [if_neg q2, if_neg (fun k => q2 (g2.2 k))]
    · rw [if_neg t1, if_neg t1]
      by_cases t2 : T = 2
      · rw [if_pos t2, if_pos t2]
        by_cases q1 : G = 0
        · rw [if_pos q1, if_pos (g1.1 q1)]
        · rw [if_neg q1, if_neg (fun k => q1 (g1.2 k))]
          by_cases q2 : M = 0
          · rw [if_pos q2, if_pos (g2.1 q2)]
          · rw [if_neg q2, if_neg (fun k => q2 (g2.2 k))]
            simp only [h2 t2 hE q1 q2]
      · rw [if_neg t2, if_neg t2]
        by_cases t3 : T = 3
        · rw [if_pos t3, if_pos t3]
          have := h3 t3 hE
          by_cases q : al9 = true
          · rw [if_neg (fun k => (this.1 k) q), if_pos q]
          · rw [if_pos (this.2 q), if_neg q]
        · rw [if_neg t3, if_neg t3]
          by_cases t4 : T = 4
          · rw [if_pos t4, if_pos t4]; simp only [h4 t4 hE]
          · rw [if_neg t4, if_neg t4]
open Classical in
theorem two4 (P : Nat → Prop) {t : Nat} (ht : t < 4) (hP : ∀ v, v < 4 → P v → v = t ∨ v = (t + 2) % 4) : cntC 4 P = 2 ↔ P t ∧ P ((t + 2) % 4) := by
  rw [cnt4]
  have p0 := hP 0 (by omega); have p1 := hP 1 (by omega); have p2 := hP 2 (by omega); have p3 := hP 3 (by omega)
  have : t = 0 ∨ t = 1 ∨ t = 2 ∨ t = 3 := by omega
  rcases this with rfl | rfl | rfl | rfl <;> simp at p0 p1 p2 p3 ⊢ <;> by_cases q0 : P 0 <;> by_cases q1 : P 1 <;> by_cases q2 : P 2 <;> by_cases q3 : P 3 <;> simp_all
open Classical in
theorem two6 (P : Nat → Prop) {t : Nat} (ht : t < 6) (hP : ∀ v, v < 6 → P v → v = t ∨ v = (t + 3) % 6) : cntC 6 P = 2 ↔ P t ∧ P ((t + 3) % 6) := by
  rw [cnt6]
  have p0 := hP 0 (by omega); have p1 := hP 1 (by omega); have p2 := hP 2 (by omega); have p3 := hP 3 (by omega); have p4 := hP 4 (by omega); have p5 := hP 5 (by omega)
  have : t = 0 ∨ t = 1 ∨ t = 2 ∨ t = 3 ∨ t = 4 ∨ t = 5 := by omega
  rcases this with rfl | rfl | rfl | rfl | rfl | rfl <;> simp at p0 p1 p2 p3 p4 p5 ⊢
  · by_cases q0 : P 0 <;> by_cases q3 : P 3 <;> simp_all
  · by_cases q0 : P 1 <;> by_cases q3 : P 4 <;> simp_all
  · by_cases q0 : P 2 <;> by_cases q3 : P 5 <;> simp_all
  · by_cases q0 : P 3 <;> by_cases q3 : P 0 <;> simp_all
  · by_cases q0 : P 4 <;> by_cases q3 : P 1 <;> simp_all
  · by_cases q0 : P 5 <;> by_cases q3 : P 2 <;> simp_all
open Classical in
/-- What the document says of a pattern is its kind. -/
theorem kind_doc {g n : Nat} {col : Z.Pt → Int} {L : List Mv} (h : Grp (g : Int) n col L) (hg : Z.G (g : Int)) (hn : 0 < n) (hp : Per n col) {a b c : Int} (hf : Fine (Stp col) a b c) (ha : a ≤ 24) :
    rkP g n L = kindP (turnsF L).length (alongB g a b c (waysF g a b c L)) (waysF g a b c L) := by
  obtain ⟨h1, h2, h3⟩ := Z.kind_sig h hg hn hp hf ha
  have hT : (turnsF L).length = cntC (g : Int) (TurnC g col) := by rw [h1]; unfold cntC; rw [Int.toNat_natCast]
  have e1 : cnt (fun t => L.any (PT t)) g = cntC (g : Int) (TurnC g col) := cnt_eq fun t ht => anyT_iff h hn hp (by omega)
  have e2 : cnt (fun t => L.any (PF t)) g = cntC (g : Int) (FlipC g col) := cnt_eq fun t ht => anyL_iff h hn hp (by omega)
  have e3 : cnt (fun t => L.any (PS g L n t)) g = cntC (g : Int) (MirC g col) := cnt_eq fun t ht => anyS_iff h hg hn hp (by omega)
  have e4 : cnt (fun t => L.any (PO g L n t)) g = cntC (g : Int) (GliC g col) := cnt_eq fun t ht => anyO_iff h hg hn hp (by omega)
  unfold rkP
  rw [e1, e2, e3, e4, ← hT]
  have hE : waysF g a b c L = [] ↔ ∀ t, t < (g : Int).toNat → ¬ FlipC g col t := by
    have := h2 (fun _ _ => False)
    refine Iff.trans ⟨fun e x hx => by rw [e] at hx; simp at hx, fun k => ?_⟩ this
    cases hw : waysF g a b c L with
    | nil => rfl
    | cons x E => exact (k x (by rw [hw]; exact List.mem_cons_self ..)).elim
  have hq : ∀ p q : Bool, (∀ e ∈ waysF g a b c L, e.2 = (p, q)) ↔ ∀ t, t < (g : Int).toNat → FlipC g col t → (decide (MirC g col t) = p ∧ decide (GliC g col t) = q) := fun p q => by
    rw [← h2 (fun x y => x = p ∧ y = q)]
    simp only [Prod.ext_iff]
  have hm : (∀ e ∈ waysF g a b c L, e.2.1 = true) ↔ ∀ t, t < (g : Int).toNat → FlipC g col t → MirC g col t := by
    rw [h2 (fun x _ => x = true)]
    simp only [decide_eq_true_eq]
  have mf : ∀ t, MirC g col t → FlipC g col t := fun t ⟨o, k, _⟩ => ⟨o, k⟩
  have gf : ∀ t, GliC g col t → FlipC g col t := fun t ⟨o, k, _⟩ => ⟨o, k⟩
  have fo : ∀ t, FlipC g col t → MirC g col t ∨ GliC g col t := fun t ⟨o, k⟩ => by
    by_cases q : LineP g col t o
    · exact .inl ⟨o, k, q⟩
    · exact .inr ⟨o, k, q⟩
  have hsome : waysF g a b c L ≠ [] → ∃ t, t < (g : Int).toNat ∧ FlipC g col t := fun k => by
    rw [Ne, hE] at k
    simpa using k
  have hgl : cntC (g : Int) (GliC g col) ≠ 0 → ∃ t, t < (g : Int).toNat ∧ GliC g col t := fun k => by
    rw [Ne, cnt_zero] at k
    simpa using k
  refine rk_kind _ _ _ _ _ _ _ _ (cnt_zero.trans hE.symm) (fun hne => ?_) (fun hne => ?_) (fun t2 hne q1 _ => ?_) (fun t3 hne => ?_) (fun t4 hne => ?_)
  · rw [cnt_zero, hq]
    exact ⟨fun k t ht hfl => ⟨decide_eq_true ((fo t hfl).resolve_right (k t ht)), decide_eq_false (k t ht)⟩, fun k t ht hgt => of_decide_eq_false (k t ht (gf t hgt)).2 hgt⟩
  · rw [cnt_zero, hq]
    exact ⟨fun k t ht hfl => ⟨decide_eq_false (k t ht), decide_eq_true ((fo t hfl).resolve_left (k t ht))⟩, fun k t ht hgt => of_decide_eq_false (k t ht (mf t hgt)).1 hgt⟩
  · rw [hq]
    obtain ⟨t, ht, hgt⟩ := hgl q1
    have hft := gf t hgt
    rw [hT] at t2
    -- the other one
    obtain ⟨u, hu, hfu, hneg, hneg2, hall, htwo⟩ : ∃ u, u < (g : Int).toNat ∧ FlipC g col u ∧ (∀ z, rf g u z = neg (rf g t z)) ∧ (∀ z, rf g t z = neg (rf g u z)) ∧ (∀ v, v < (g : Int).toNat → FlipC g col v → v = t ∨ v = u) ∧ (cntC (g : Int) (MirC g col) = 2 ↔ MirC g col t ∧ MirC g col u) := by
      have hg4 : g = 4 ∨ g = 6 := by rcases hg with e | e <;> omega
      rcases hg4 with rfl | rfl
      · have ht4 : t < 4 := ht
        obtain ⟨k2, k1, k3⟩ := turns4.2.1 t2
        have f2 := cl_tf hg (show 2 < 4 by omega) ht k2 hft
        have hall : ∀ v, v < 4 → FlipC 4 col v → v = t ∨ v = (t + 2) % 4 := fun v hv hfv => by
          have := cl_ff hg (show v < 4 from hv) ht hfv hft
          have w : (v + (4 - t)) % 4 ≠ 1 := fun e => k1 (by have h9 : TurnC 4 col ((v + (4 - t)) % 4) := this; rwa [e] at h9)
          have w3 : (v + (4 - t)) % 4 ≠ 3 := fun e => k3 (by have h9 : TurnC 4 col ((v + (4 - t)) % 4) := this; rwa [e] at h9)
          omega
        have hrf : ∀ v, v < 4 → ∀ z, rf 4 ((v + 2) % 4) z = neg (rf 4 v z) := fun v hv z => by
          obtain ⟨x, y⟩ := z
          rw [Z.rf4 _ (Nat.mod_lt _ (by omega)), Z.rf4 v hv]
          have : v = 0 ∨ v = 1 ∨ v = 2 ∨ v = 3 := by omega
          rcases this with rfl | rfl | rfl | rfl <;> simp [neg]
        refine ⟨(t + 2) % 4, Nat.mod_lt _ (by decide), ?_, hrf t ht4, fun z => ?_, hall, two4 _ ht4 fun v hv hmv => hall v hv (mf v hmv)⟩
        · have h9 : FlipC 4 col ((2 + t) % 4) := f2
          rwa [Nat.add_comm] at h9
        · have := hrf ((t + 2) % 4) (Nat.mod_lt _ (by omega)) z
          rwa [show ((t + 2) % 4 + 2) % 4 = t by omega] at this
      · have ht6 : t < 6 := ht
        obtain ⟨k3, k1, k2, k4, k5⟩ := turns6.2.1 t2
        have f3 := cl_tf hg (show 3 < 6 by omega) ht k3 hft
        have hall : ∀ v, v < 6 → FlipC 6 col v → v = t ∨ v = (t + 3) % 6 := fun v hv hfv => by
          have h9 : TurnC 6 col ((v + (6 - t)) % 6) := cl_ff hg (show v < 6 from hv) ht hfv hft
          have w1 : (v + (6 - t)) % 6 ≠ 1 := fun e => k1 (by rwa [e] at h9)
          have w2 : (v + (6 - t)) % 6 ≠ 2 := fun e => k2 (by rwa [e] at h9)
          have w4 : (v + (6 - t)) % 6 ≠ 4 := fun e => k4 (by rwa [e] at h9)
          have w5 : (v + (6 - t)) % 6 ≠ 5 := fun e => k5 (by rwa [e] at h9)
          omega
        have hrf : ∀ v, v < 6 → ∀ z, rf 6 ((v + 3) % 6) z = neg (rf 6 v z) := fun v hv z => by
          obtain ⟨x, y⟩ := z
          rw [Z.rf6 _ (Nat.mod_lt _ (by omega)), Z.rf6 v hv]
          have : v = 0 ∨ v = 1 ∨ v = 2 ∨ v = 3 ∨ v = 4 ∨ v = 5 := by omega
          rcases this with rfl | rfl | rfl | rfl | rfl | rfl <;> simp [neg] <;> omega
        refine ⟨(t + 3) % 6, Nat.mod_lt _ (by decide), ?_, hrf t ht6, fun z => ?_, hall, two6 _ ht6 fun v hv hmv => hall v hv (mf v hmv)⟩
        · have h9 : FlipC 6 col ((3 + t) % 6) := f3
          rwa [Nat.add_comm] at h9
        · have := hrf ((t + 3) % 6) (Nat.mod_lt _ (by omega)) z
          rwa [show ((t + 3) % 6 + 3) % 6 = t by omega] at this
    rw [htwo]
    constructor
    · rintro ⟨m1, m2⟩ v hv hfv
      rcases hall v hv hfv with rfl | rfl
      · exact ⟨decide_eq_true m1, decide_eq_true hgt⟩
      · exact ⟨decide_eq_true m2, decide_eq_true (glide_across hg ht hv hneg m1 hgt hfv)⟩
    · intro k
      exact ⟨of_decide_eq_true (k t ht hft).1, of_decide_eq_true (k u hu hfu).1⟩
  · rw [hT] at t3
    obtain ⟨t, ht, hft⟩ := hsome hne
    have hg4 : g = 4 ∨ g = 6 := by rcases hg with e | e <;> omega
    rcases hg4 with rfl | rfl
    · exact absurd t3 turns4.1
    · exact (cen_along h hn hp hf t3 ht hft).trans (not_congr h3.symm)
  · rw [hT] at t4
    obtain ⟨t, ht, hft⟩ := hsome hne
    have hg4 : g = 4 ∨ g = 6 := by rcases hg with e | e <;> omega
    rcases hg4 with rfl | rfl
    · exact (some_iff h hn hp t4 ht hft).trans hm.symm
    · exact absurd t4 turns6.1
end Go.Proofs.Ytooilennejakhaa

namespace Go.Proofs.Ytooilennejakhaa.Z
set_option linter.unusedVariables false
set_option linter.unusedSimpArgs false
/-- The colours, each for each. -/
def dyeL (A : Nat) (cs : List Int) : List Int := cs.map fun v => (v + A) % 62
theorem emod_nat2 {n : Nat} (hn : 0 < n) (x : Int) : ∃ r : Nat, r < n ∧ x % (n : Int) = r := by
  have h1 := Int.emod_nonneg x (show (n : Int) ≠ 0 by omega)
  have h2 := Int.emod_lt_of_pos x (show (0 : Int) < n by omega)
  exact ⟨(x % (n : Int)).toNat, by omega, by omega⟩
theorem colP_in {W H : Nat} (hW : 0 < W) (hH : 0 < H) (cs : List Int) (z : Pt) : ∃ x y : Nat, x < W ∧ y < H ∧ z.1 % (W : Int) = x ∧ z.2 % (H : Int) = y ∧ colP W H cs z = cs.getD (y * W + x) 0 := by
  obtain ⟨x, hx, ex⟩ := emod_nat2 hW z.1
  obtain ⟨y, hy, ey⟩ := emod_nat2 hH z.2
  refine ⟨x, y, hx, hy, ex, ey, ?_⟩
  unfold colP
  rw [ex, ey]
  rfl
theorem dye_col {W H A : Nat} {cs : List Int} (hW : 0 < W) (hH : 0 < H) (hl : cs.length = W * H) (z : Pt) : colP W H (dyeL A cs) z = (colP W H cs z + A) % 62 := by
  obtain ⟨x, y, hx, hy, ex, ey, e⟩ := colP_in hW hH cs z
  have hp := bpl_lt hx hy
  rw [e]
  unfold colP dyeL
  rw [ex, ey]
  show ((cs.map fun v => (v + (A : Int)) % 62).getD (y * W + x) 0) = _
  rw [List.getD_eq_getElem?_getD, List.getD_eq_getElem?_getD, List.getElem?_map, List.getElem?_eq_getElem (by omega)]
  rfl
theorem colP_mem {W H : Nat} {cs : List Int} (hW : 0 < W) (hH : 0 < H) (hl : cs.length = W * H) (z : Pt) : colP W H cs z ∈ cs := by
  obtain ⟨x, y, hx, hy, ex, ey, e⟩ := colP_in hW hH cs z
  have hp := bpl_lt hx hy
  rw [e, List.getD_eq_getElem?_getD, List.getElem?_eq_getElem (by omega)]
  exact List.getElem_mem _
theorem dye_sig {W H A : Nat} {cs : List Int} {g : Int} (hW : 0 < W) (hH : 0 < H) (hl : cs.length = W * H) (hc : ∀ x ∈ cs, 0 ≤ x ∧ x < 62) : SameSig g (colP W H cs) (colP W H (dyeL A cs)) := by
  refine sig_dyed fun y z => ?_
  rw [dye_col hW hH hl, dye_col hW hH hl]
  have h1 := hc _ (colP_mem hW hH hl y)
  have h2 := hc _ (colP_mem hW hH hl z)
  generalize colP W H cs y = p at *
  generalize colP W H cs z = q at *
  constructor
  · rintro rfl; rfl
  · intro h; omega
/-- Laid out several times over: so many pieces of rows. -/
def pieceL (W H : Nat) (cs : List Int) (wide j : Nat) : List Int := (cs.drop (j / wide % H * W)).take W
def layL (W H : Nat) (cs : List Int) (wide : Nat) : Nat → List Int
  | 0 => []
  | k + 1 => layL W H cs wide k ++ pieceL W H cs wide k
theorem piece_len {W H wide j : Nat} {cs : List Int} (hH : 0 < H) (hl : cs.length = W * H) : (pieceL W H cs wide j).length = W := by
  unfold pieceL
  rw [List.length_take, List.length_drop, hl]
  have h1 := Nat.mod_lt (j / wide) hH
  have h2 : (j / wide % H + 1) * W ≤ H * W := Nat.mul_le_mul_right W (by omega)
  rw [Nat.add_mul, Nat.one_mul, Nat.mul_comm H W] at h2
  omega
theorem layL_len {W H wide : Nat} {cs : List Int} (hH : 0 < H) (hl : cs.length = W * H) : ∀ k, (layL W H cs wide k).length = k * W
  | 0 => by simp [layL]
  | k + 1 => by rw [layL, List.length_append, layL_len hH hl k, piece_len hH hl, Nat.succ_mul]
theorem layL_get {W H wide : Nat} {cs : List Int} (hW : 0 < W) (hH : 0 < H) (hl : cs.length = W * H) : ∀ k p, p < k * W → (layL W H cs wide k).getD p 0 = cs.getD (p / W / wide % H * W + p % W) 0
  | 0, p, h => by omega
  | k + 1, p, h => by
    rw [layL]
    have hlen := layL_len (W := W) (H := H) (wide := wide) hH hl k
    by_cases hp : p < k * W
    · rw [List.getD_eq_getElem?_getD, List.getElem?_append_left (by omega), ← List.getD_eq_getElem?_getD]
      exact layL_get hW hH hl k p hp
    · rw [Nat.succ_mul] at h
      rw [List.getD_eq_getElem?_getD, List.getElem?_append_right (by omega), hlen]
      have e1 : p / W = k := by
        refine Nat.div_eq_of_lt_le (by omega) ?_
        rw [Nat.succ_mul]; omega
      have e2 : p % W = p - k * W := by
        have := Nat.div_add_mod p W
        rw [e1, Nat.mul_comm] at this
        omega
      unfold pieceL
      rw [e1, e2, List.getElem?_take_of_lt (by omega), List.getElem?_drop, ← List.getD_eq_getElem?_getD]
theorem lay_col {W H wide high : Nat} {cs : List Int} (hW : 0 < W) (hH : 0 < H) (hw : 0 < wide) (hh : 0 < high) (hl : cs.length = W * H) (z : Pt) : colP (wide * W) (high * H) (layL W H cs wide (high * H * wide)) z = colP W H cs z := by
  obtain ⟨x, y, hx, hy, ex, ey, e⟩ := colP_in (W := wide * W) (H := high * H) (Nat.mul_pos hw hW) (Nat.mul_pos hh hH) (layL W H cs wide (high * H * wide)) z
  rw [e]
  have hp : y * (wide * W) + x < high * H * wide * W := by
    refine Nat.lt_of_lt_of_eq (bpl_lt hx hy) ?_
    rw [Nat.mul_comm (wide * W) (high * H), Nat.mul_assoc (high * H)]
  rw [layL_get hW hH hl _ _ hp]
  have e1 : (y * (wide * W) + x) % W = x % W := by rw [← Nat.mul_assoc, Nat.mul_comm (y * wide) W, Nat.mul_add_mod]
  have e2 : (y * (wide * W) + x) / W / wide = y := by
    rw [Nat.div_div_eq_div_mul, Nat.mul_comm W wide, Nat.mul_comm y, Nat.mul_add_div (Nat.mul_pos hw hW), Nat.div_eq_of_lt hx, Nat.add_zero]
  rw [e1, e2]
  unfold colP
  have f1 : z.1 % (W : Int) = ((x % W : Nat) : Int) := by
    rw [Int.natCast_emod, ← ex]
    exact (Int.emod_emod_of_dvd _ (by rw [Int.natCast_mul]; exact Int.dvd_mul_left _ _)).symm
  have f2 : z.2 % (H : Int) = ((y % H : Nat) : Int) := by
    rw [Int.natCast_emod, ← ey]
    exact (Int.emod_emod_of_dvd _ (by rw [Int.natCast_mul]; exact Int.dvd_mul_left _ _)).symm
  rw [f1, f2]
  rfl
theorem layL_mem {W H wide : Nat} {cs : List Int} {P : Int → Prop} (h : ∀ x ∈ cs, P x) : ∀ k, ∀ x ∈ layL W H cs wide k, P x
  | 0, x, hx => by simp [layL] at hx
  | k + 1, x, hx => by
    rw [layL] at hx
    rcases List.mem_append.1 hx with h1 | h1
    · exact layL_mem h k x h1
    · exact h x (List.mem_of_mem_drop (List.mem_of_mem_take h1))
theorem dyeL_len (A : Nat) (cs : List Int) : (dyeL A cs).length = cs.length := by simp [dyeL]
theorem dyeL_mem {A : Nat} {cs : List Int} : ∀ x ∈ dyeL A cs, 0 ≤ x ∧ x < 62 := by
  intro x hx
  obtain ⟨v, _, rfl⟩ := List.mem_map.1 hx
  omega
theorem dyeL_take {A i : Nat} {cs : List Int} (h : i < cs.length) : (dyeL A cs).take (i + 1) = (dyeL A cs).take i ++ [(cs.getD i 0 + A) % 62] := by
  have hl : i < (dyeL A cs).length := by rw [dyeL_len]; exact h
  rw [List.take_succ_eq_append_getElem hl]
  have e : (dyeL A cs)[i] = (cs.getD i 0 + A) % 62 := by
    have h2 : (dyeL A cs)[i]? = some ((cs.getD i 0 + A) % 62) := by
      unfold dyeL
      rw [List.getElem?_map, List.getD_eq_getElem?_getD, List.getElem?_eq_getElem h]
      rfl
    rw [List.getElem?_eq_getElem hl] at h2
    exact Option.some.inj h2
  rw [e]
end Go.Proofs.Ytooilennejakhaa.Z
