/- The sheets of a cloth: the plain theory, no program in sight. -/
import Derived.Test.YtikddfjickkhhaaClF
namespace Go.Proofs.Ytikddfjickkhhaa.Cl
set_option linter.unusedVariables false
set_option linter.unusedSimpArgs false
/-- Of one sheet: each above the other. -/
def scc (n : Nat) (ab : Nat → Nat → Bool) (a b : Nat) : Bool := wp ab n a b && wp ab n b a
/-- How many lie above s, s among them. -/
def cov (n : Nat) (ab : Nat → Nat → Bool) (s : Nat) : Nat := cnt n (fun a => wp ab n a s)
/-- Is it the first one of its sheet? -/
def isHd (n : Nat) (ab : Nat → Nat → Bool) (s : Nat) : Bool := decide (∀ a, a < s → scc n ab a s = false)
def hdP (n : Nat) (ab : Nat → Nat → Bool) (c s : Nat) : Bool := decide (cov n ab s = c) && isHd n ab s
/-- The sheets' first ones, below count c. -/
def hdTo (n : Nat) (ab : Nat → Nat → Bool) : Nat → List Nat
  | 0 => []
  | c + 1 => hdTo n ab c ++ (List.range n).filter (hdP n ab c)
def heads (n : Nat) (ab : Nat → Nat → Bool) : List Nat := hdTo n ab (n+1)
def sheet (n : Nat) (ab : Nat → Nat → Bool) (s : Nat) : List Nat := (List.range n).filter (fun a => scc n ab a s)
def layers (n : Nat) (ab : Nat → Nat → Bool) : List (List Nat) := (heads n ab).map (sheet n ab)
section
variable {n : Nat} {ab : Nat → Nat → Bool}
theorem wp_trans (hB : Bnd n ab) {a b c : Nat} (h1 : wp ab n a b = true) (h2 : wp ab n b c = true) : wp ab n a c = true := by
  rw [wp_iff hB, up_iff] at *
  exact h1.tr h2
theorem scc_self (a : Nat) : scc n ab a a = true := by unfold scc; rw [wp_self]; rfl
theorem scc_symm (a b : Nat) : scc n ab a b = scc n ab b a := by unfold scc; rw [Bool.and_comm]
theorem scc_trans (hB : Bnd n ab) {a b c : Nat} (h1 : scc n ab a b = true) (h2 : scc n ab b c = true) : scc n ab a c = true := by
  unfold scc at *
  simp only [Bool.and_eq_true] at *
  exact ⟨wp_trans hB h1.1 h2.1, wp_trans hB h2.2 h1.2⟩
theorem cov_scc (hB : Bnd n ab) {a b : Nat} (h : scc n ab a b = true) : cov n ab a = cov n ab b := by
  unfold cov
  apply cnt_congr
  intro x hx
  unfold scc at h
  simp only [Bool.and_eq_true] at h
  rw [Bool.eq_iff_iff]
  exact ⟨fun k => wp_trans hB k h.1, fun k => wp_trans hB k h.2⟩
theorem cov_le (s : Nat) : cov n ab s ≤ n := cnt_le _ _
theorem cov_pos {s : Nat} (hs : s < n) : 0 < cov n ab s := cnt_pos hs (wp_self ab n s)
theorem cnt_mono {f g : Nat → Bool} (h : ∀ a, a < n → f a = true → g a = true) : cnt n f ≤ cnt n g := by
  induction n with
  | zero => simp [cnt]
  | succ n ih =>
    rw [cnt_succ, cnt_succ]
    have h1 := ih (fun a ha => h a (by omega))
    have h2 := h n (by omega)
    cases e : f n with
    | false => simp; omega
    | true => rw [h2 e]; simp; omega
theorem cnt_lt {f g : Nat → Bool} (h : ∀ a, a < n → f a = true → g a = true) {b : Nat} (hb : b < n) (h1 : f b = false) (h2 : g b = true) : cnt n f < cnt n g := by
  have h3 := cnt_mono (n := n) (f := fun x => if x = b then true else f x) (g := g) (fun a ha e => by
    by_cases hab : a = b
    · subst hab; exact h2
    · simp only [hab, if_false] at e; exact h a ha e)
  rw [cnt_set n f b hb h1] at h3
  omega
theorem cov_mono (hB : Bnd n ab) {a b : Nat} (h : wp ab n a b = true) : cov n ab a ≤ cov n ab b := cnt_mono fun x hx k => wp_trans hB k h
theorem cov_lt (hB : Bnd n ab) {a b : Nat} (hb : b < n) (h : wp ab n a b = true) (h2 : wp ab n b a = false) : cov n ab a < cov n ab b :=
  cnt_lt (fun x hx k => wp_trans hB k h) hb h2 (wp_self ab n b)
/-- Each strand's sheet has a first one. -/
theorem has_head (hB : Bnd n ab) (s : Nat) : ∃ h, h ≤ s ∧ scc n ab s h = true ∧ isHd n ab h = true := by
  induction s using Nat.strongRecOn with
  | _ s ih =>
    rcases Classical.em (∀ a, a < s → scc n ab a s = false) with h | h
    · exact ⟨s, Nat.le_refl _, scc_self s, decide_eq_true h⟩
    · have : ∃ a, a < s ∧ scc n ab a s = true := Classical.byContradiction fun hn => h fun a ha => by
        cases e : scc n ab a s with
        | false => rfl
        | true => exact absurd ⟨a, ha, e⟩ hn
      obtain ⟨a, ha, e⟩ := this
      obtain ⟨h, h1, h2, h3⟩ := ih a ha
      exact ⟨h, by omega, scc_trans hB (by rw [scc_symm]; exact e) h2, h3⟩
theorem hd_uniq {a b : Nat} (ha : isHd n ab a = true) (hb : isHd n ab b = true) (h : scc n ab a b = true) : a = b := by
  unfold isHd at ha hb
  have ha := of_decide_eq_true ha
  have hb := of_decide_eq_true hb
  rcases Nat.lt_trichotomy a b with hlt | heq | hgt
  · rw [hb a hlt] at h; cases h
  · exact heq
  · rw [scc_symm, ha b hgt] at h; cases h
theorem mem_hdTo {c s : Nat} : s ∈ hdTo n ab c ↔ s < n ∧ cov n ab s < c ∧ isHd n ab s = true := by
  induction c with
  | zero => simp [hdTo]
  | succ c ih =>
    simp only [hdTo, List.mem_append, ih, List.mem_filter, List.mem_range, hdP, Bool.and_eq_true, decide_eq_true_eq]
    constructor
    · rintro (⟨h1, h2, h3⟩ | ⟨h1, h2, h3⟩)
      · exact ⟨h1, by omega, h3⟩
      · exact ⟨h1, by omega, h3⟩
    · rintro ⟨h1, h2, h3⟩
      by_cases e : cov n ab s = c
      · exact .inr ⟨h1, e, h3⟩
      · exact .inl ⟨h1, by omega, h3⟩
theorem mem_heads {s : Nat} : s ∈ heads n ab ↔ s < n ∧ isHd n ab s = true := by
  unfold heads
  rw [mem_hdTo]
  have := cov_le (n := n) (ab := ab) s
  constructor
  · rintro ⟨h1, _, h3⟩; exact ⟨h1, h3⟩
  · rintro ⟨h1, h3⟩; exact ⟨h1, by omega, h3⟩
def lexLt (n : Nat) (ab : Nat → Nat → Bool) (a b : Nat) : Prop := cov n ab a < cov n ab b ∨ (cov n ab a = cov n ab b ∧ a < b)
theorem range_pairs (k : Nat) : (List.range k).Pairwise (fun a b => a < b) := by
  rw [List.pairwise_iff_getElem]
  intro i j hi hj hij
  simp at hi hj ⊢
  exact hij
theorem hdTo_sorted (c : Nat) : (hdTo n ab c).Pairwise (lexLt n ab) := by
  induction c with
  | zero => exact List.Pairwise.nil
  | succ c ih =>
    rw [hdTo, List.pairwise_append]
    refine ⟨ih, ?_, ?_⟩
    · have hp := List.Pairwise.filter (hdP n ab c) (range_pairs n)
      refine List.Pairwise.imp_of_mem ?_ hp
      intro a b ha hb hab
      simp only [List.mem_filter, hdP, Bool.and_eq_true, decide_eq_true_eq] at ha hb
      exact .inr ⟨by rw [ha.2.1, hb.2.1], hab⟩
    · intro a ha b hb
      rw [mem_hdTo] at ha
      simp only [List.mem_filter, hdP, Bool.and_eq_true, decide_eq_true_eq] at hb
      exact .inl (by omega)
theorem hdTo_one : hdTo n ab 1 = [] := by
  show [] ++ (List.range n).filter (hdP n ab 0) = []
  rw [List.nil_append, List.filter_eq_nil_iff]
  intro s hs
  have := cov_pos (n := n) (ab := ab) (s := s) (by simpa using hs)
  unfold hdP
  rw [decide_eq_false (by omega)]
  simp
/-- Which are of the first sheets? -/
def dn (n : Nat) (ab : Nat → Nat → Bool) (hs : List Nat) (s : Nat) : Bool := hs.any fun h => scc n ab s h
/-- The first one, of those that are not done, above which the fewest lie. -/
def bst (done : Nat → Bool) (cv : Nat → Nat) : Nat → Option Nat
  | 0 => none
  | k + 1 => match bst done cv k with
    | none => if done k = false then some k else none
    | some b => if done k = false ∧ cv k < cv b then some k else some b
theorem bst_spec (done : Nat → Bool) (cv : Nat → Nat) (k : Nat) : (bst done cv k = none ∧ ∀ s, s < k → done s = true) ∨ ∃ b, bst done cv k = some b ∧ b < k ∧ done b = false ∧ ∀ s, s < k → done s = false → cv b < cv s ∨ (cv b = cv s ∧ b ≤ s) := by
  induction k with
  | zero => exact .inl ⟨rfl, fun s h => absurd h (by omega)⟩
  | succ k ih =>
    rcases ih with ⟨h1, h2⟩ | ⟨b, h1, h2, h3, h4⟩
    · simp only [bst, h1]
      by_cases e : done k = false
      · rw [if_pos e]
        refine .inr ⟨k, rfl, by omega, e, fun s hs hd => ?_⟩
        by_cases hsk : s = k
        · subst hsk; exact .inr ⟨rfl, Nat.le_refl _⟩
        · rw [h2 s (by omega)] at hd; cases hd
      · rw [if_neg e]
        refine .inl ⟨rfl, fun s hs => ?_⟩
        by_cases hsk : s = k
        · subst hsk; simpa using e
        · exact h2 s (by omega)
    · simp only [bst, h1]
      by_cases e : done k = false ∧ cv k < cv b
      · rw [if_pos e]
        refine .inr ⟨k, rfl, by omega, e.1, fun s hs hd => ?_⟩
        by_cases hsk : s = k
        · subst hsk; exact .inr ⟨rfl, Nat.le_refl _⟩
        · rcases h4 s (by omega) hd with h | h
          · exact .inl (by omega)
          · exact .inl (by omega)
      · rw [if_neg e]
        refine .inr ⟨b, rfl, by omega, h3, fun s hs hd => ?_⟩
        by_cases hsk : s = k
        · subst hsk
          have : ¬ cv s < cv b := fun h => e ⟨hd, h⟩
          by_cases hc : cv b = cv s
          · exact .inr ⟨hc, by omega⟩
          · exact .inl (by omega)
        · exact h4 s (by omega) hd
theorem heads_get {k : Nat} (hk : k < (heads n ab).length) : (heads n ab)[k] < n ∧ isHd n ab (heads n ab)[k] = true := mem_heads.1 (List.getElem_mem hk)
theorem heads_lex {i j : Nat} (hij : i < j) (hj : j < (heads n ab).length) : lexLt n ab ((heads n ab)[i]'(by omega)) (heads n ab)[j] :=
  (List.pairwise_iff_getElem.1 (hdTo_sorted (n := n) (ab := ab) (n+1))) i j (by unfold heads at hj; omega) (by unfold heads at hj; exact hj) hij
theorem dn_take {k s : Nat} : dn n ab ((heads n ab).take k) s = true ↔ ∃ i, ∃ h : i < (heads n ab).length, i < k ∧ scc n ab s ((heads n ab)[i]) = true := by
  unfold dn
  rw [List.any_eq_true]
  constructor
  · rintro ⟨x, hx, hs⟩
    obtain ⟨i, hi, rfl⟩ := List.getElem_of_mem hx
    rw [List.length_take] at hi
    refine ⟨i, by omega, by omega, ?_⟩
    simpa [List.getElem_take] using hs
  · rintro ⟨i, h, hik, hs⟩
    refine ⟨(heads n ab)[i], ?_, hs⟩
    rw [List.mem_iff_getElem]
    exact ⟨i, by rw [List.length_take]; omega, by rw [List.getElem_take]⟩
theorem head_fresh {k : Nat} (hk : k < (heads n ab).length) : dn n ab ((heads n ab).take k) (heads n ab)[k] = false := by
  cases e : dn n ab ((heads n ab).take k) (heads n ab)[k] with
  | false => rfl
  | true =>
    obtain ⟨i, hi, hik, hs⟩ := dn_take.1 e
    have h1 := hd_uniq (heads_get hk).2 (heads_get hi).2 hs
    have h2 := heads_lex hik hk
    unfold lexLt at h2
    rw [h1] at h2
    omega
theorem dn_fresh (hB : Bnd n ab) {k s : Nat} (hk : k < (heads n ab).length) (h : scc n ab s (heads n ab)[k] = true) : dn n ab ((heads n ab).take k) s = false := by
  cases e : dn n ab ((heads n ab).take k) s with
  | false => rfl
  | true =>
    obtain ⟨i, hi, hik, hs⟩ := dn_take.1 e
    have h1 := head_fresh hk
    rw [dn_take.2 ⟨i, hi, hik, scc_trans hB (by rw [scc_symm]; exact h) hs⟩] at h1
    cases h1
/-- All are done behind the last sheet. -/
theorem dn_all (hB : Bnd n ab) {s : Nat} (hs : s < n) : dn n ab (heads n ab) s = true := by
  obtain ⟨h, h1, h2, h3⟩ := has_head hB s
  unfold dn
  rw [List.any_eq_true]
  exact ⟨h, mem_heads.2 ⟨by omega, h3⟩, h2⟩
/-- The next sheet's first one is what the search finds. -/
theorem bst_next (hB : Bnd n ab) {k : Nat} (hk : k < (heads n ab).length) : bst (dn n ab ((heads n ab).take k)) (cov n ab) n = some (heads n ab)[k] := by
  have hf := head_fresh hk
  rcases bst_spec (dn n ab ((heads n ab).take k)) (cov n ab) n with ⟨_, h2⟩ | ⟨b, h1, h2, h3, h4⟩
  · rw [h2 _ (heads_get hk).1] at hf; cases hf
  · rw [h1]
    congr 1
    obtain ⟨h, g1, g2, g3⟩ := has_head hB b
    have hnd : dn n ab ((heads n ab).take k) h = false := by
      cases e : dn n ab ((heads n ab).take k) h with
      | false => rfl
      | true =>
        obtain ⟨i, hi, hik, hs⟩ := dn_take.1 e
        rw [dn_take.2 ⟨i, hi, hik, scc_trans hB g2 hs⟩] at h3; cases h3
    have hc := cov_scc hB g2
    have hbh : b = h := by
      rcases h4 h (by omega) hnd with g | g
      · omega
      · omega
    subst hbh
    obtain ⟨j, hj, rfl⟩ := List.getElem_of_mem (mem_heads.2 ⟨h2, g3⟩)
    have hkj : k ≤ j := by
      rcases Nat.lt_or_ge j k with hlt | hge
      · rw [dn_take.2 ⟨j, hj, hlt, scc_self _⟩] at h3; cases h3
      · exact hge
    have h5 := h4 _ (heads_get hk).1 hf
    by_cases e : k = j
    · subst e; rfl
    · have h6 := heads_lex (show k < j by omega) hj
      unfold lexLt at h6
      omega
theorem dn_succ {k : Nat} (hk : k < (heads n ab).length) (s : Nat) : dn n ab ((heads n ab).take (k+1)) s = (dn n ab ((heads n ab).take k) s || scc n ab s (heads n ab)[k]) := by
  unfold dn
  rw [List.take_succ_eq_append_getElem hk, List.any_append]
  simp
/-- What is done when the search of a sheet has come to x. -/
def mkd (dnk p : Nat → Bool) (x s : Nat) : Bool := dnk s || (decide (s < x) && p s)
theorem mkd_skip {dnk p : Nat → Bool} {x : Nat} (h : p x = false) (s : Nat) : mkd dnk p (x+1) s = mkd dnk p x s := by
  unfold mkd
  by_cases e : s = x
  · subst e; rw [h]; simp
  · rw [show decide (s < x + 1) = decide (s < x) by congr 1; apply propext; omega]
theorem mkd_take {dnk p : Nat → Bool} {x : Nat} (h : p x = true) (s : Nat) : mkd dnk p (x+1) s = if s = x then true else mkd dnk p x s := by
  unfold mkd
  by_cases e : s = x
  · subst e; rw [h]; simp
  · rw [show decide (s < x + 1) = decide (s < x) by congr 1; apply propext; omega, if_neg e]
theorem mkd_cnt {dnk p : Nat → Bool} {x : Nat} (hx : x < n) (h : p x = true) (hd : dnk x = false) : cnt n (mkd dnk p (x+1)) = cnt n (mkd dnk p x) + 1 ∧ cnt n (mkd dnk p x) < n := by
  have h1 : mkd dnk p x x = false := by unfold mkd; rw [hd]; simp
  have h2 := cnt_set n (mkd dnk p x) x hx h1
  rw [cnt_congr (fun a ha => mkd_take h a)]
  refine ⟨h2, ?_⟩
  have h3 := cnt_le n (fun y => if y = x then true else mkd dnk p x y)
  omega
theorem cnt_full' {f : Nat → Bool} (h : ∀ a, a < n → f a = true) : cnt n f = n := cnt_full.2 h
theorem notall {k : Nat} (hk : k < (heads n ab).length) : cnt n (dn n ab ((heads n ab).take k)) < n := by
  have h1 := cnt_le n (dn n ab ((heads n ab).take k))
  rcases Nat.lt_or_ge (cnt n (dn n ab ((heads n ab).take k))) n with h | h
  · exact h
  · have h2 := cnt_full.1 (show cnt n (dn n ab ((heads n ab).take k)) = n by omega) _ (heads_get hk).1
    rw [head_fresh hk] at h2; cases h2
theorem hdTo_len (c : Nat) : (hdTo n ab c).length = cnt n (fun s => isHd n ab s && decide (cov n ab s < c)) := by
  induction c with
  | zero =>
    have : cnt n (fun s => isHd n ab s && decide (cov n ab s < 0)) = 0 := by
      unfold cnt
      rw [List.length_eq_zero_iff, List.filter_eq_nil_iff]
      simp
    rw [this]; rfl
  | succ c ih =>
    rw [hdTo, List.length_append, ih]
    show _ + cnt n (hdP n ab c) = _
    unfold hdP
    clear ih
    generalize cov n ab = cv
    generalize isHd n ab = p
    induction n with
    | zero => rfl
    | succ m ihm =>
      simp only [cnt_succ]
      have h1 : ((p m && decide (cv m < c)) = true ↔ p m = true ∧ cv m < c) := by simp
      have h2 : ((decide (cv m = c) && p m) = true ↔ cv m = c ∧ p m = true) := by simp
      have h3 : ((p m && decide (cv m < c + 1)) = true ↔ p m = true ∧ cv m < c + 1) := by simp
      by_cases a1 : p m = true
      · rcases Nat.lt_trichotomy (cv m) c with h | h | h
        · rw [if_pos (h1.2 ⟨a1, h⟩), if_neg (fun hh => by have := (h2.1 hh).1; omega), if_pos (h3.2 ⟨a1, by omega⟩)]; omega
        · rw [if_neg (fun hh => by have := (h1.1 hh).2; omega), if_pos (h2.2 ⟨h, a1⟩), if_pos (h3.2 ⟨a1, by omega⟩)]; omega
        · rw [if_neg (fun hh => by have := (h1.1 hh).2; omega), if_neg (fun hh => by have := (h2.1 hh).1; omega), if_neg (fun hh => by have := (h3.1 hh).2; omega)]; omega
      · rw [if_neg (fun hh => a1 (h1.1 hh).1), if_neg (fun hh => a1 (h2.1 hh).2), if_neg (fun hh => a1 (h3.1 hh).1)]; omega
theorem heads_len : (heads n ab).length = cnt n (isHd n ab) := by
  unfold heads
  rw [hdTo_len]
  apply cnt_congr
  intro a ha
  have := cov_le (n := n) (ab := ab) a
  rw [decide_eq_true (by omega), Bool.and_true]
/-- One sheet just if the cloth hangs together. -/
theorem one_sheet (hB : Bnd n ab) (hn : 0 < n) : (lift n ab = []) ↔ (heads n ab).length = 1 := by
  constructor
  · intro h
    rcases lift_cases n ab with ⟨_, h2⟩ | ⟨s, h1, h2, h3⟩
    · have hall : ∀ a b, a < n → b < n → scc n ab a b = true := by
        intro a b ha hb
        unfold scc
        rw [cnt_full.1 (h2 b hb) a ha, cnt_full.1 (h2 a ha) b hb]; rfl
      rw [heads_len]
      have e : cnt n (isHd n ab) = cnt n (fun x => if x = 0 then true else false) := cnt_congr fun a ha => by
        unfold isHd
        by_cases h0 : a = 0
        · subst h0; simp
        · rw [decide_eq_false (fun hh => by have := hh 0 (by omega); rw [hall 0 a hn ha] at this; cases this), if_neg h0]
      rw [e, cnt_set n (fun _ => false) 0 hn rfl]
      have : cnt n (fun _ => false) = 0 := by unfold cnt; simp
      omega
    · rw [h] at h3
      have h4 : 0 < cov n ab s := cov_pos h1
      unfold cov cnt at h4
      rw [← h3] at h4
      simp at h4
  · intro h
    rcases lift_cases n ab with ⟨h1, _⟩ | ⟨s, h1, h2, h3⟩
    · exact h1
    · obtain ⟨a, ha, hf⟩ := cnt_notfull h2
      have d1 := dn_all hB ha
      have d2 := dn_all hB h1
      match hh : heads n ab, h with
      | [x], _ =>
        rw [hh] at d1 d2
        simp [dn] at d1 d2
        have := scc_trans hB d1 (by rw [scc_symm]; exact d2)
        unfold scc at this
        rw [hf] at this
        cases this
/-- The first sheets can be lifted off the others. -/
theorem dn_closed (hB : Bnd n ab) (k : Nat) : closedB n ab (dn n ab ((heads n ab).take k)) := by
  intro a ha hna b hb hdb
  cases e : ab a b with
  | false => rfl
  | true =>
    exfalso
    obtain ⟨i, hi, hik, hs⟩ := dn_take.1 hdb
    have hw : wp ab n a b = true := by rw [wp_iff hB, up_iff]; exact .one e
    cases e2 : wp ab n b a with
    | true =>
      have h3 : scc n ab a b = true := by unfold scc; rw [hw, e2]; rfl
      rw [dn_take.2 ⟨i, hi, hik, scc_trans hB h3 hs⟩] at hna; cases hna
    | false =>
      have h4 := cov_lt hB hb hw e2
      have h5 := cov_scc hB hs
      obtain ⟨h, g1, g2, g3⟩ := has_head hB a
      have h6 := cov_scc hB g2
      obtain ⟨j, hj, rfl⟩ := List.getElem_of_mem (mem_heads.2 (show h < n ∧ isHd n ab h = true from ⟨by omega, g3⟩))
      rcases Nat.lt_or_ge j k with hlt | hge
      · rw [dn_take.2 ⟨j, hj, hlt, g2⟩] at hna; cases hna
      · have h7 := heads_lex (show i < j by omega) hj
        unfold lexLt at h7
        omega
/-- The strands of the first sheets. -/
def aboveL (n : Nat) (ab : Nat → Nat → Bool) (k : Nat) : List Nat := (((heads n ab).take k).map (sheet n ab)).flatten
theorem aboveL_succ {k : Nat} (hk : k < (heads n ab).length) : aboveL n ab (k+1) = aboveL n ab k ++ sheet n ab (heads n ab)[k] := by
  unfold aboveL
  rw [List.take_succ_eq_append_getElem hk, List.map_append, List.flatten_append]
  simp only [List.map_cons, List.map_nil, List.flatten_cons, List.flatten_nil, List.append_nil]
theorem mem_sheet {s a : Nat} : a ∈ sheet n ab s ↔ a < n ∧ scc n ab a s = true := by unfold sheet; simp
theorem mem_aboveL {k a : Nat} : a ∈ aboveL n ab k ↔ a < n ∧ dn n ab ((heads n ab).take k) a = true := by
  unfold aboveL dn
  simp only [List.mem_flatten, List.mem_map, List.any_eq_true]
  constructor
  · rintro ⟨l, ⟨h, hh, rfl⟩, ha⟩
    rw [mem_sheet] at ha
    exact ⟨ha.1, h, hh, ha.2⟩
  · rintro ⟨ha, h, hh, hs⟩
    exact ⟨_, ⟨h, hh, rfl⟩, mem_sheet.2 ⟨ha, hs⟩⟩
theorem inL_nat (L : List Nat) (a : Nat) : inL (L.map fun x : Nat => (x : Int)) a = decide (a ∈ L) := by
  rw [Bool.eq_iff_iff]
  unfold inL
  simp only [List.any_eq_true, List.mem_map, beq_iff_eq, decide_eq_true_eq]
  constructor
  · rintro ⟨z, ⟨x, hx, rfl⟩, h⟩
    rwa [show a = x by omega]
  · intro h
    exact ⟨(a : Int), ⟨a, h, rfl⟩, rfl⟩
theorem above_free (hB : Bnd n ab) {k : Nat} (h0 : 0 < k) (hk : k < (heads n ab).length) : freeV n ab ((aboveL n ab k).map fun x : Nat => (x : Int)) = true := by
  have hin : ∀ a, a < n → inL ((aboveL n ab k).map fun x : Nat => (x : Int)) a = dn n ab ((heads n ab).take k) a := by
    intro a ha
    rw [inL_nat, Bool.eq_iff_iff, decide_eq_true_eq, mem_aboveL]
    exact ⟨fun h => h.2, fun h => ⟨ha, h⟩⟩
  unfold freeV
  rw [cnt_congr hin]
  have h1 : inRg n ((aboveL n ab k).map fun x : Nat => (x : Int)) = true := by
    unfold inRg
    simp only [List.all_eq_true, List.mem_map, decide_eq_true_eq]
    rintro z ⟨x, hx, rfl⟩
    have := (mem_aboveL.1 hx).1
    omega
  have h2 : closedB n ab (inL ((aboveL n ab k).map fun x : Nat => (x : Int))) := by
    intro a ha hf b hb ht
    rw [hin a ha] at hf
    rw [hin b hb] at ht
    exact dn_closed hB k a ha hf b hb ht
  have h3 : 0 < cnt n (dn n ab ((heads n ab).take k)) := cnt_pos (heads_get (k := 0) (by omega)).1 (dn_take.2 ⟨0, by omega, h0, scc_self _⟩)
  rw [h1, decide_eq_true h2, decide_eq_true ⟨h3, notall hk⟩]; rfl
/-- Within a sheet nothing can be lifted off. -/
theorem sheet_whole (hB : Bnd n ab) {s : Nat} (hs : s < n) (f : Nat → Bool) (h1 : ∃ a, a ∈ sheet n ab s ∧ f a = true) (h2 : ∃ a, a ∈ sheet n ab s ∧ f a = false) : ∃ a b, a ∈ sheet n ab s ∧ b ∈ sheet n ab s ∧ f a = false ∧ f b = true ∧ ab a b = true := by
  obtain ⟨y, hy, fy⟩ := h1
  obtain ⟨x, hx, fx⟩ := h2
  rw [mem_sheet] at hx hy
  have hxy : scc n ab x y = true := scc_trans hB hx.2 (by rw [scc_symm]; exact hy.2)
  have hr : Rch ab x y := by
    unfold scc at hxy
    simp only [Bool.and_eq_true] at hxy
    rw [← up_iff, ← wp_iff hB]; exact hxy.1
  have hys := hy.2
  -- the first one on the way that is so, and the one ahead of it
  have key : ∀ a b, Rch ab a b → a < n → f a = false → f b = true → scc n ab a s = true → scc n ab b s = true → ∃ a b, a ∈ sheet n ab s ∧ b ∈ sheet n ab s ∧ f a = false ∧ f b = true ∧ ab a b = true := by
    intro a b h
    induction h with
    | rf => intro _ h1 h2; rw [h1] at h2; cases h2
    | @st a c b hac hcb ih =>
      intro ha fa fb sa sb
      have hcn := (hB _ _ hac).2
      have sc : scc n ab c s = true := by
        have w1 : wp ab n a c = true := by rw [wp_iff hB, up_iff]; exact .one hac
        have w2 : wp ab n c b = true := by rw [wp_iff hB, up_iff]; exact hcb
        unfold scc at sa sb ⊢
        simp only [Bool.and_eq_true] at sa sb ⊢
        exact ⟨wp_trans hB w2 sb.1, wp_trans hB sa.2 w1⟩
      cases fc : f c with
      | true => exact ⟨a, c, mem_sheet.2 ⟨ha, sa⟩, mem_sheet.2 ⟨hcn, sc⟩, fa, fc, hac⟩
      | false => exact ih hcn fc fb sc sb
  exact key x y hr hx.1 fx fy hx.2 hy.2
end
/-- Seen from below. -/
theorem wp_flip {n : Nat} {ab ba : Nat → Nat → Bool} (hB : Bnd n ab) (hB2 : Bnd n ba) (h : ∀ a b, ba a b = ab b a) (a b : Nat) : wp ba n a b = wp ab n b a := by
  have key : ∀ {ab ba : Nat → Nat → Bool} (h : ∀ a b, ba a b = ab b a) {a b : Nat}, Rch ba a b → Rch ab b a := by
    intro ab ba h a b hr
    induction hr with
    | rf => exact .rf _
    | st h1 _ ih => exact ih.tr (.one (by rw [← h]; exact h1))
  rw [Bool.eq_iff_iff, wp_iff hB2, wp_iff hB, up_iff, up_iff]
  exact ⟨key h, key fun a b => (h b a).symm⟩
theorem heads_flip {n : Nat} {ab ba : Nat → Nat → Bool} (hB : Bnd n ab) (hB2 : Bnd n ba) (h : ∀ a b, ba a b = ab b a) : (heads n ba).length = (heads n ab).length := by
  rw [heads_len, heads_len]
  apply cnt_congr
  intro a ha
  unfold isHd scc
  simp only [wp_flip hB hB2 h, Bool.and_comm]
end Go.Proofs.Ytikddfjickkhhaa.Cl
