/- Cards: bytes and rows: no program in sight. -/
import Derived.Test.YtpmecoojhjopcaaDrM
namespace Go.Proofs.Ytpmecoojhjopcaa
open Go.RowKit
set_option linter.unusedVariables false
set_option linter.unusedSimpArgs false
/-- A byte: eight places, the first one the highest. -/
def byt (f : Nat → Bool) (j : Nat) : Nat := 128 * (f (8*j)).toNat + 64 * (f (8*j+1)).toNat + 32 * (f (8*j+2)).toNat + 16 * (f (8*j+3)).toNat + 8 * (f (8*j+4)).toNat + 4 * (f (8*j+5)).toNat + 2 * (f (8*j+6)).toNat + (f (8*j+7)).toNat
theorem toNat_le (b : Bool) : b.toNat ≤ 1 := by cases b <;> simp
theorem byt_lt (f : Nat → Bool) (j : Nat) : byt f j < 256 := by
  unfold byt
  have h0 := toNat_le (f (8*j)); have h1 := toNat_le (f (8*j+1)); have h2 := toNat_le (f (8*j+2)); have h3 := toNat_le (f (8*j+3))
  have h4 := toNat_le (f (8*j+4)); have h5 := toNat_le (f (8*j+5)); have h6 := toNat_le (f (8*j+6)); have h7 := toNat_le (f (8*j+7))
  omega
/-- A place of a byte. -/
def bitAt (v k : Nat) : Bool := decide ((v / 2 ^ (7 - k)) % 2 = 1)
theorem bit8 : ∀ b0 b1 b2 b3 b4 b5 b6 b7 : Bool, ∀ k : Fin 8, bitAt (128 * b0.toNat + 64 * b1.toNat + 32 * b2.toNat + 16 * b3.toNat + 8 * b4.toNat + 4 * b5.toNat + 2 * b6.toNat + b7.toNat) k.val = [b0, b1, b2, b3, b4, b5, b6, b7].getD k.val false := by decide +kernel
theorem byt_bit (f : Nat → Bool) (j k : Nat) (hk : k < 8) : bitAt (byt f j) k = f (8*j+k) := by
  have h := bit8 (f (8*j)) (f (8*j+1)) (f (8*j+2)) (f (8*j+3)) (f (8*j+4)) (f (8*j+5)) (f (8*j+6)) (f (8*j+7)) ⟨k, hk⟩
  refine Eq.trans h ?_
  have hk8 : k = 0 ∨ k = 1 ∨ k = 2 ∨ k = 3 ∨ k = 4 ∨ k = 5 ∨ k = 6 ∨ k = 7 := by omega
  rcases hk8 with rfl | rfl | rfl | rfl | rfl | rfl | rfl | rfl <;> rfl
/-- A row in bytes, and back. -/
def punchL (r : List Bool) : List Nat := (List.range ((r.length + 7) / 8)).map (byt fun i => r.getD i false)
def readRow (W : Nat) (h : Nat → Nat) : List Bool := (List.range W).map fun x => bitAt (h (x / 8)) (x % 8)
theorem punchL_len (r : List Bool) : (punchL r).length = (r.length + 7) / 8 := by simp [punchL]
theorem punchL_get {r : List Bool} {j : Nat} (h : j < (r.length + 7) / 8) : (punchL r).getD j 0 = byt (fun i => r.getD i false) j := by
  unfold punchL
  rw [List.getD_eq_getElem?_getD, List.getElem?_map, List.getElem?_range h]; rfl
theorem readRow_len (W : Nat) (h : Nat → Nat) : (readRow W h).length = W := by simp [readRow]
theorem readRow_congr {W : Nat} {h g : Nat → Nat} (e : ∀ j, j < (W + 7) / 8 → h j = g j) : readRow W h = readRow W g := by
  unfold readRow
  refine List.map_congr_left fun x hx => ?_
  rw [List.mem_range] at hx
  rw [e (x / 8) (by omega)]
theorem readRow_get {W : Nat} {h : Nat → Nat} {x : Nat} (hx : x < W) : (readRow W h).getD x false = bitAt (h (x / 8)) (x % 8) := by
  unfold readRow
  rw [List.getD_eq_getElem?_getD, List.getElem?_map, List.getElem?_range hx]; rfl
theorem eq_of_getB {l m : List Bool} {n : Nat} (h1 : l.length = n) (h2 : m.length = n) (h : ∀ j, j < n → l.getD j false = m.getD j false) : l = m := by
  apply List.ext_getElem (by omega)
  intro i p q
  have := h i (by omega)
  simpa [List.getD, p, q] using this
theorem read_punch {r : List Bool} {W : Nat} (hW : r.length = W) : readRow W (fun j => (punchL r).getD j 0) = r := by
  refine eq_of_getB (n := W) (readRow_len _ _) hW fun x hx => ?_
  rw [readRow_get hx, punchL_get (by omega), byt_bit _ _ _ (Nat.mod_lt _ (by omega)), Nat.div_add_mod]
/-- How many rows from y on are alike. -/
def rlF (R : Nat → List Bool) (H y : Nat) : Nat → Nat → Nat
  | 0, n => n
  | f + 1, n => if y + n < H ∧ R y = R (y + n) then rlF R H y f (n + 1) else n
def runLen (R : Nat → List Bool) (H y : Nat) : Nat := rlF R H y (H + 1) 1
theorem rlF_spec {R : Nat → List Bool} {H y : Nat} : ∀ (f n : Nat), y + n ≤ H → H < y + n + f → (∀ i, i < n → R (y + i) = R y) →
    n ≤ rlF R H y f n ∧ y + rlF R H y f n ≤ H ∧ (∀ i, i < rlF R H y f n → R (y + i) = R y) ∧ (y + rlF R H y f n = H ∨ R y ≠ R (y + rlF R H y f n)) := by
  intro f
  induction f with
  | zero => intro n h1 h2 _; omega
  | succ f ih =>
    intro n h1 h2 h3
    unfold rlF
    by_cases h : y + n < H ∧ R y = R (y + n)
    · rw [if_pos h]
      obtain ⟨a, b, c, d⟩ := ih (n + 1) (by omega) (by omega) (fun i hi => by
        by_cases e : i = n
        · rw [e]; exact h.2.symm
        · exact h3 i (by omega))
      exact ⟨by omega, b, c, d⟩
    · rw [if_neg h]
      refine ⟨Nat.le_refl _, h1, h3, ?_⟩
      by_cases e : y + n < H
      · exact .inr fun e2 => h ⟨e, e2⟩
      · left; omega
theorem runLen_spec {R : Nat → List Bool} {H y : Nat} (hy : y < H) : 1 ≤ runLen R H y ∧ y + runLen R H y ≤ H ∧ (∀ i, i < runLen R H y → R (y + i) = R y) ∧ (y + runLen R H y = H ∨ R y ≠ R (y + runLen R H y)) :=
  rlF_spec (H + 1) 1 (by omega) (by omega) fun i hi => by
    obtain rfl : i = 0 := by omega
    rfl
theorem runLen_eq {R : Nat → List Bool} {H y n : Nat} (hy : y < H) (h1 : 1 ≤ n) (h2 : y + n ≤ H) (h3 : ∀ i, i < n → R (y + i) = R y) (h4 : y + n = H ∨ R y ≠ R (y + n)) : runLen R H y = n := by
  obtain ⟨a, b, c, d⟩ := runLen_spec (R := R) hy
  rcases Nat.lt_trichotomy (runLen R H y) n with h | h | h
  · rcases d with d | d
    · omega
    · exact absurd (h3 _ h).symm d
  · exact h
  · rcases h4 with h4 | h4
    · omega
    · exact absurd (c _ h).symm h4
/-- The cards of rows y, y+1, .. -/
def cardsL (R : Nat → List Bool) (H : Nat) : Nat → Nat → List Nat
  | 0, _ => []
  | f + 1, y => if y < H then runLen R H y :: (punchL (R y) ++ cardsL R H f (y + runLen R H y)) else []
def chk (l : List Nat) : Nat := (256 - l.sum % 256) % 256
def hdrL (W H : Nat) : List Nat := [74, 81, 49, W, H]
def deckB (W H : Nat) (bs : List Bool) : List Nat := hdrL W H ++ cardsL (rowL bs W) H (H + 1) 0
def deckL (W H : Nat) (bs : List Bool) : List Nat := deckB W H bs ++ [chk (deckB W H bs)]
inductive CRes where
  | bad (at_ : Nat)
  | ok (bits : List Bool)
/-- What is read, from place at on. -/
def unF (B : List Nat) (W H : Nat) : Nat → Nat → Nat → List Bool → List Bool → CRes
  | 0, _, p, _, _ => .bad p
  | f + 1, y, p, last, acc =>
    if y < H then
      if p = B.length ∨ B.getD p 0 = 0 ∨ H - y < B.getD p 0 then .bad p
      else if B.length < p + 1 + (W + 7) / 8 then .bad B.length
      else if punchL (readRow W fun j => B.getD (p + 1 + j) 0) ≠ (B.drop (p + 1)).take ((W + 7) / 8) ∨ (0 < y ∧ readRow W (fun j => B.getD (p + 1 + j) 0) = last) then .bad p
      else unF B W H f (y + B.getD p 0) (p + 1 + (W + 7) / 8) (readRow W fun j => B.getD (p + 1 + j) 0) (acc ++ (List.replicate (B.getD p 0) (readRow W fun j => B.getD (p + 1 + j) 0)).flatten)
    else if p = B.length ∨ B.getD p 0 ≠ chk (B.take p) then .bad p
    else if p + 1 < B.length then .bad (p + 1)
    else .ok acc
theorem chk_lt (l : List Nat) : chk l < 256 := by unfold chk; omega
theorem cards_done {R : Nat → List Bool} {H f y : Nat} (h : ¬ y < H) : cardsL R H f y = [] := by
  cases f with
  | zero => rfl
  | succ f => unfold cardsL; rw [if_neg h]
theorem rows_flat_len {R : Nat → List Bool} {W : Nat} (hR : ∀ y, (R y).length = W) (n : Nat) : ((List.range n).map R).flatten.length = n * W := by
  induction n with
  | zero => simp
  | succ n ih => rw [List.range_succ, List.map_append, List.flatten_append, List.length_append, ih]; simp [hR, Nat.add_mul]
theorem rows_add {R : Nat → List Bool} {y : Nat} : ∀ n, (∀ i, i < n → R (y + i) = R y) → ((List.range (y + n)).map R).flatten = ((List.range y).map R).flatten ++ (List.replicate n (R y)).flatten := by
  intro n
  induction n with
  | zero => intro _; simp
  | succ n ih =>
    intro h
    rw [← Nat.add_assoc, List.range_succ, List.map_append, List.flatten_append, ih (fun i hi => h i (by omega)), List.replicate_succ', List.flatten_append, ← List.append_assoc]
    simp [h n (by omega)]
/-- What is punched is read. -/
theorem unF_deck {R : Nat → List Bool} {W H : Nat} {B : List Nat} (hR : ∀ y, (R y).length = W) (hc : B.getD (B.length - 1) 0 = chk (B.take (B.length - 1))) :
    ∀ (f g y p : Nat) (last acc : List Bool), y ≤ H → H < y + f → H < y + g → p < B.length → B.drop p = cardsL R H f y ++ [B.getD (B.length - 1) 0] → acc = ((List.range y).map R).flatten → (0 < y → y < H → R y ≠ last) →
      unF B W H g y p last acc = .ok ((List.range H).map R).flatten := by
  intro f
  induction f with
  | zero => intro g y p last acc h1 h2; omega
  | succ f ih =>
    intro g y p last acc h1 h2 h3 hp hd ha hl
    obtain ⟨g, rfl⟩ : ∃ g', g = g' + 1 := ⟨g - 1, by omega⟩
    unfold unF
    by_cases hy : y < H
    · rw [if_pos hy]
      unfold cardsL at hd
      rw [if_pos hy] at hd
      obtain ⟨n1, n2, n3, n4⟩ := runLen_spec (R := R) hy
      obtain ⟨n, hn⟩ : ∃ n, runLen R H y = n := ⟨_, rfl⟩
      rw [hn] at hd n1 n2 n3 n4
      have hlen := congrArg List.length hd
      simp only [List.length_drop, List.length_append, List.length_cons, List.length_nil, punchL_len, hR] at hlen
      have get : ∀ j, B.getD (p + j) 0 = (n :: (punchL (R y) ++ cardsL R H f (y + n)) ++ [B.getD (B.length - 1) 0]).getD j 0 := fun j => by
        rw [← hd, List.getD_eq_getElem?_getD, List.getD_eq_getElem?_getD, List.getElem?_drop]
      have g0 : B.getD p 0 = n := by have := get 0; simpa using this
      have gj : ∀ j, j < (W + 7) / 8 → B.getD (p + 1 + j) 0 = (punchL (R y)).getD j 0 := fun j hj => by
        have := get (1 + j)
        rw [← Nat.add_assoc] at this
        rw [this, Nat.add_comm 1 j, List.cons_append, List.getD_cons_succ, List.append_assoc, List.getD_eq_getElem?_getD, List.getElem?_append_left (by rw [punchL_len, hR]; exact hj), ← List.getD_eq_getElem?_getD]
      have hrow : readRow W (fun j => B.getD (p + 1 + j) 0) = R y := (readRow_congr gj).trans (read_punch (hR y))
      have htake : (B.drop (p + 1)).take ((W + 7) / 8) = punchL (R y) := by
        rw [← List.drop_drop, hd, List.cons_append, List.drop_succ_cons, List.drop_zero, List.append_assoc, List.take_append_of_le_length (by rw [punchL_len, hR]; exact Nat.le_refl _), List.take_of_length_le (by rw [punchL_len, hR]; exact Nat.le_refl _)]
      rw [if_neg (by rw [g0]; omega), if_neg (by omega), hrow, htake, if_neg (by rintro (h | ⟨h, h'⟩); exact h rfl; exact hl h hy h'), g0]
      refine ih g (y + n) _ _ _ n2 (by omega) (by omega) (by omega) ?_ (by rw [rows_add n n3, ha]) (fun _ h => ?_)
      · rw [show p + 1 + (W + 7) / 8 = p + (1 + (W + 7) / 8) by omega, ← List.drop_drop, hd, Nat.add_comm 1, List.cons_append, List.drop_succ_cons, List.append_assoc, List.drop_left' (by rw [punchL_len, hR])]
      · rcases n4 with h5 | h5
        · omega
        · exact fun e => h5 e.symm
    · rw [if_neg hy]
      have e : cardsL R H (f + 1) y = [] := cards_done hy
      rw [e, List.nil_append] at hd
      have hlen := congrArg List.length hd
      simp only [List.length_drop, List.length_cons, List.length_nil] at hlen
      have hpe : p = B.length - 1 := by omega
      rw [if_neg (by rintro (h | h); omega; exact h (by rw [hpe]; exact hc)), if_neg (by omega), ha, show y = H by omega]
theorem rep_get {row : List Bool} {W : Nat} (hW : row.length = W) : ∀ (n i x : Nat), i < n → x < W → (List.replicate n row).flatten.getD (i * W + x) false = row.getD x false := by
  intro n
  induction n with
  | zero => intro i x h; omega
  | succ n ih =>
    intro i x hi hx
    rw [List.replicate_succ, List.flatten_cons]
    cases i with
    | zero => rw [Nat.zero_mul, Nat.zero_add, List.getD_eq_getElem?_getD, List.getElem?_append_left (by omega), ← List.getD_eq_getElem?_getD]
    | succ i =>
      rw [List.getD_eq_getElem?_getD, List.getElem?_append_right (by rw [hW, Nat.add_mul]; omega), hW, show (i + 1) * W + x - W = i * W + x by rw [Nat.add_mul]; omega, ← List.getD_eq_getElem?_getD]
      exact ih i x (by omega) hx
theorem rep_len {row : List Bool} {W n : Nat} (hW : row.length = W) : (List.replicate n row).flatten.length = n * W := by
  rw [List.length_flatten]; simp [hW]
theorem drop_getD {B : List Nat} {p : Nat} (h : p < B.length) : B.drop p = B.getD p 0 :: B.drop (p + 1) := by
  rw [List.drop_eq_getElem_cons h]; simp [List.getD, h]
/-- What is read is punched so. -/
theorem unF_ok {B : List Nat} {W H : Nat} {bits : List Bool} : ∀ (g y p : Nat) (last acc : List Bool), unF B W H g y p last acc = .ok bits → y ≤ H → p ≤ B.length → acc.length = y * W →
    bits.take (y * W) = acc ∧ bits.length = H * W ∧ p < B.length ∧ B.getD (B.length - 1) 0 = chk (B.take (B.length - 1)) ∧ (∀ f, H < y + f → B.drop p = cardsL (rowL bits W) H f y ++ [B.getD (B.length - 1) 0]) ∧ (0 < y → y < H → rowL bits W y ≠ last) := by
  intro g
  induction g with
  | zero => intro y p last acc h; cases h
  | succ g ih =>
    intro y p last acc h h1 h2 h3
    unfold unF at h
    by_cases hy : y < H
    · rw [if_pos hy] at h
      split at h
      · cases h
      · rename_i c1
        split at h
        · cases h
        · rename_i c2
          split at h
          · cases h
          · rename_i c3
            obtain ⟨n, hn⟩ : ∃ n, B.getD p 0 = n := ⟨_, rfl⟩
            obtain ⟨row, hrow⟩ : ∃ row, readRow W (fun j => B.getD (p + 1 + j) 0) = row := ⟨_, rfl⟩
            rw [hn, hrow] at h
            rw [hn] at c1
            rw [hrow] at c3
            have hrl : row.length = W := by rw [← hrow, readRow_len]
            obtain ⟨a1, a2, a3, a4, a5, a6⟩ := ih (y + n) _ row _ h (by omega) (by omega) (by rw [List.length_append, h3, rep_len hrl, Nat.add_mul])
            have hle : (y + n) * W ≤ bits.length := by rw [a2]; exact Nat.mul_le_mul_right W (by omega)
            have hyn : y * W ≤ (y + n) * W := Nat.mul_le_mul_right W (by omega)
            have b1 : bits.take (y * W) = acc := by
              rw [show bits.take (y * W) = (bits.take ((y + n) * W)).take (y * W) by rw [List.take_take, Nat.min_eq_left hyn], a1, List.take_append_of_le_length (by omega), List.take_of_length_le (by omega)]
            have hR : ∀ i, i < n → rowL bits W (y + i) = row := fun i hi => by
              refine eq_of_getB (n := W) (by simp [rowL]) hrl fun x hx => ?_
              have hidx : (y + i) * W + x < (y + n) * W := by
                have : (y + i + 1) * W ≤ (y + n) * W := Nat.mul_le_mul_right W (by omega)
                rw [Nat.add_mul _ 1, Nat.one_mul] at this; omega
              have e1 : (rowL bits W (y + i)).getD x false = bits.getD ((y + i) * W + x) false := by unfold rowL; simp [List.getD, hx]
              rw [e1, ← rep_get hrl n i x hi hx]
              have e2 : bits.getD ((y + i) * W + x) false = (bits.take ((y + n) * W)).getD ((y + i) * W + x) false := by
                rw [List.getD_eq_getElem?_getD, List.getD_eq_getElem?_getD, List.getElem?_take_of_lt hidx]
              rw [e2, a1, List.getD_eq_getElem?_getD, List.getElem?_append_right (by rw [h3, Nat.add_mul]; omega), h3, show (y + i) * W + x - y * W = i * W + x by rw [Nat.add_mul]; omega, ← List.getD_eq_getElem?_getD]
            have hy0 : rowL bits W y = row := hR 0 (by omega)
            have hrun : runLen (rowL bits W) H y = n := runLen_eq hy (by omega) (by omega) (fun i hi => (hR i hi).trans hy0.symm) (by
              by_cases e : y + n = H
              · exact .inl e
              · right
                rw [hy0]
                exact fun e2 => a6 (by omega) (by omega) e2.symm)
            have c4 : punchL row = (B.drop (p + 1)).take ((W + 7) / 8) := Decidable.of_not_not fun e => c3 (.inl e)
            refine ⟨b1, a2, by omega, a4, fun f hf => ?_, fun q1 _ e => c3 (.inr ⟨q1, hy0.symm.trans e⟩)⟩
            obtain ⟨f, rfl⟩ : ∃ f', f = f' + 1 := ⟨f - 1, by omega⟩
            unfold cardsL
            rw [if_pos hy, hrun, hy0, drop_getD (by omega), hn, c4, List.cons_append, List.append_assoc]
            congr 1
            have := a5 f (by omega)
            rw [← this, show B.drop (p + 1 + (W + 7) / 8) = (B.drop (p + 1)).drop ((W + 7) / 8) by rw [List.drop_drop], List.take_append_drop]
    · rw [if_neg hy] at h
      split at h
      · cases h
      · rename_i c1
        split at h
        · cases h
        · rename_i c2
          injection h with h
          subst h
          have hyH : y = H := by omega
          subst hyH
          have hpe : p = B.length - 1 := by omega
          have c3 : B.getD p 0 = chk (B.take p) := Decidable.of_not_not fun e => c1 (.inr e)
          refine ⟨List.take_of_length_le (by omega), h3, by omega, by rw [← hpe]; exact c3, fun f _ => ?_, fun _ q => absurd q hy⟩
          rw [cards_done hy, drop_getD (by omega), ← hpe, List.drop_of_length_le (by omega)]; rfl
/-- What decks are. -/
def unp (B : List Nat) : CRes × Nat × Nat :=
  if 0 = B.length ∨ B.getD 0 0 ≠ 74 then (.bad 0, 0, 0)
  else if 1 = B.length ∨ B.getD 1 0 ≠ 81 then (.bad 1, 0, 0)
  else if 2 = B.length ∨ B.getD 2 0 ≠ 49 then (.bad 2, 0, 0)
  else if 3 = B.length ∨ 64 < B.getD 3 0 then (.bad 3, 0, 0)
  else if 4 = B.length ∨ 64 < B.getD 4 0 then (.bad 4, 0, 0)
  else (unF B (B.getD 3 0) (B.getD 4 0) (B.getD 4 0 + 1) 0 5 [] [], B.getD 3 0, B.getD 4 0)
theorem rowL_len' (bs : List Bool) (W y : Nat) : (rowL bs W y).length = W := by simp [rowL]
theorem rows_of {W H : Nat} {bs : List Bool} (hl : bs.length = W * H) : ((List.range H).map (rowL bs W)).flatten = bs := by
  have hlen : ((List.range H).map (rowL bs W)).flatten.length = W * H := by rw [rows_flat_len (W := W) (fun y => rowL_len' bs W y), Nat.mul_comm]
  refine grid_ext (W := W) (H := H) hlen hl fun y x hy hx => ?_
  have := grid_get (l := List.range H) (m := List.range W) (f := fun a b => bs.getD (a * W + b) false) (y := y) (x := x) (by simpa using hy) (by simpa using hx)
  rw [List.length_range] at this
  refine Eq.trans this ?_
  simp [List.getD, hy, hx]
theorem deckB_len (W H : Nat) (bs : List Bool) : 5 ≤ (deckB W H bs).length := by unfold deckB hdrL; simp
theorem unp_deck {W H : Nat} {bs : List Bool} (hW : W ≤ 64) (hH : H ≤ 64) (hl : bs.length = W * H) : unp (deckL W H bs) = (.ok bs, W, H) := by
  have h5 := deckB_len W H bs
  have hlen : (deckL W H bs).length = (deckB W H bs).length + 1 := by simp [deckL]
  have g : ∀ j, j < 5 → (deckL W H bs).getD j 0 = (hdrL W H).getD j 0 := fun j hj => by
    unfold deckL deckB
    rw [List.append_assoc, List.getD_eq_getElem?_getD, List.getElem?_append_left (by simpa [hdrL] using hj), ← List.getD_eq_getElem?_getD]
  have e1 : (deckL W H bs).length - 1 = (deckB W H bs).length := by omega
  have e2 : (deckL W H bs).getD ((deckL W H bs).length - 1) 0 = chk ((deckL W H bs).take ((deckL W H bs).length - 1)) := by
    rw [e1]
    unfold deckL
    rw [List.getD_eq_getElem?_getD, List.getElem?_append_right (Nat.le_refl _), Nat.sub_self, List.take_append_of_le_length (Nat.le_refl _), List.take_of_length_le (Nat.le_refl _)]
    rfl
  unfold unp
  rw [g 0 (by omega), g 1 (by omega), g 2 (by omega), g 3 (by omega), g 4 (by omega)]
  rw [show (hdrL W H).getD 0 0 = 74 from rfl, show (hdrL W H).getD 1 0 = 81 from rfl, show (hdrL W H).getD 2 0 = 49 from rfl, show (hdrL W H).getD 3 0 = W from rfl, show (hdrL W H).getD 4 0 = H from rfl]
  rw [if_neg (by omega), if_neg (by omega), if_neg (by omega), if_neg (by omega), if_neg (by omega)]
  have hd : (deckL W H bs).drop 5 = cardsL (rowL bs W) H (H + 1) 0 ++ [(deckL W H bs).getD ((deckL W H bs).length - 1) 0] := by
    rw [e2, e1]
    unfold deckL
    rw [List.take_append_of_le_length (Nat.le_refl _), List.take_of_length_le (Nat.le_refl _)]
    conv => lhs; unfold deckB
    rw [List.append_assoc, List.drop_left' (by simp [hdrL])]; rfl
  rw [unF_deck (fun y => rowL_len' bs W y) e2 (H + 1) (H + 1) 0 5 [] [] (by omega) (by omega) (by omega) (by omega) hd rfl (fun h => by omega), rows_of hl]
theorem unp_ok {B : List Nat} {W H : Nat} {bits : List Bool} (h : unp B = (.ok bits, W, H)) : W ≤ 64 ∧ H ≤ 64 ∧ bits.length = W * H ∧ B = deckL W H bits := by
  unfold unp at h
  split at h
  · cases h
  · rename_i c0
    split at h
    · cases h
    · rename_i c1
      split at h
      · cases h
      · rename_i c2
        split at h
        · cases h
        · rename_i c3
          split at h
          · cases h
          · rename_i c4
            injection h with h h'
            injection h' with h3 h4
            rw [h3, h4] at h
            rw [h3] at c3
            rw [h4] at c4
            obtain ⟨_, a2, a3, a4, a5, _⟩ := unF_ok (H + 1) 0 5 [] [] h (by omega) (by omega) (by simp)
            have hd := a5 (H + 1) (by omega)
            refine ⟨by omega, by omega, by rw [a2, Nat.mul_comm], ?_⟩
            have h5 : B.take 5 = hdrL W H := by
              apply List.ext_getElem (by simp [hdrL]; omega)
              intro i p q
              have hi : i = 0 ∨ i = 1 ∨ i = 2 ∨ i = 3 ∨ i = 4 := by simp [hdrL] at q; omega
              have gi : (B.take 5)[i] = B.getD i 0 := by simp [List.getD, show i < B.length by omega]
              rw [gi]
              rcases hi with rfl | rfl | rfl | rfl | rfl
              · exact Decidable.of_not_not fun e => c0 (.inr e)
              · exact Decidable.of_not_not fun e => c1 (.inr e)
              · exact Decidable.of_not_not fun e => c2 (.inr e)
              · exact h3
              · exact h4
            have hB : B = deckB W H bits ++ [B.getD (B.length - 1) 0] := by
              conv => lhs; rw [← List.take_append_drop 5 B, h5, hd]
              unfold deckB
              rw [List.append_assoc]
            have hlen : B.length = (deckB W H bits).length + 1 := by have := congrArg List.length hB; simpa using this
            have ht : B.take (B.length - 1) = deckB W H bits := by
              rw [show B.length - 1 = (deckB W H bits).length by omega, hB, List.take_append_of_le_length (by simp), List.take_of_length_le (by simp)]
            rw [a4, ht] at hB
            exact hB
end Go.Proofs.Ytpmecoojhjopcaa
