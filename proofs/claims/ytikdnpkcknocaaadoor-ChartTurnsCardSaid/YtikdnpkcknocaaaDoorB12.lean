/- Lemmas and contracts of functions (what each call returns, and that it changes nothing that was there) that the proof of a law of this seat uses; each lemma states its own conditions. -/
import Derived.Test.YtikdnpkcknocaaaDoorB11
namespace Go.Proofs.YtikdnpkcknocaaaDoor
open Go.RowKit
set_option linter.unusedVariables false
set_option linter.unusedSimpArgs false
namespace By
/-- The rows that are read; or what is wrong, and where. -/
inductive RdR where
  | bad (e : Nat) (at_ : Nat)
  | ok (rows : List (List Nat))
def rowsF (B : List Nat) : Nat → Nat → List (List Nat) → RdR
  | 0, i, _ => .bad 0 i
  | f + 1, i, rows => if i < B.length ∨ rows = [] then
      match rowF B (B.length + 1) i [] with
      | .bad p => .bad 2 p
      | .ok row p => if rows ≠ [] ∧ row.length ≠ (rows.headD []).length then .bad 8 i
          else if 64 < row.length ∨ rows.length = 64 then .bad 5 i
          else rowsF B f p (rows ++ [row])
    else .ok rows
def hdR (G : Nat) : List Nat := if G = 4 then [226, 150, 161] else [226, 150, 179]
/-- What is read of a text: the grid, the rows (the highest first). -/
def readS (B : List Nat) : Nat × RdR :=
  if 65536 < B.length then (0, .bad 4 0)
  else if hasAt B 0 (hdR 6) then (6, if hasAt B 3 [10] then rowsF B (B.length + 2) 4 [] else .bad 2 3)
  else if hasAt B 0 (hdR 4) then (4, if hasAt B 3 [10] then rowsF B (B.length + 2) 4 [] else .bad 2 3)
  else (0, .bad 2 0)
/-- Rows as bytes. -/
def rowsL (rows : List (List Nat)) : List Nat := (rows.map fun r => rowL r ++ [10]).flatten
def printR (G : Nat) (rows : List (List Nat)) : List Nat := hdR G ++ [10] ++ rowsL rows
/-- Rows that a chart can have. -/
structure RowsOk (W : Nat) (rows : List (List Nat)) : Prop where
  w : ∀ r ∈ rows, r.length = W
  c : ∀ r ∈ rows, ∀ k ∈ r, k < 62
theorem rowsL_snoc (rows : List (List Nat)) (r : List Nat) : rowsL (rows ++ [r]) = rowsL rows ++ (rowL r ++ [10]) := by unfold rowsL; simp
theorem rowsL_cons (r : List Nat) (rows : List (List Nat)) : rowsL (r :: rows) = (rowL r ++ [10]) ++ rowsL rows := by unfold rowsL; simp
theorem rowL_len (r : List Nat) : r.length ≤ (rowL r).length := by
  induction r with
  | nil => simp
  | cons k r ih =>
    rw [rowL_cons, List.length_append, List.length_cons]
    have := (sgL_len k).1
    omega
/-- What is read is written as just that text. -/
theorem rowsF_ok {B : List Nat} (hB : ∀ x ∈ B, x < 256) {W : Nat} : ∀ (f i : Nat) (rows R : List (List Nat)), rowsF B f i rows = .ok R → RowsOk W rows → rows ≠ [] → 0 < W → W ≤ 64 → rows.length ≤ 64 → i ≤ B.length →
    ∃ T, R = rows ++ T ∧ RowsOk W R ∧ R.length ≤ 64 ∧ hasAt B i (rowsL T) ∧ i + (rowsL T).length = B.length
  | 0, i, rows, R, h, _, _, _, _, _, _ => by simp [rowsF] at h
  | f + 1, i, rows, R, h, ho, hne, hW, hW64, hl, hi => by
    unfold rowsF at h
    split at h
    · rename_i h1
      split at h
      · cases h
      · rename_i row p hrow
        obtain ⟨t, e1, e2, e3, e4, e5⟩ := rowF_ok hB _ _ _ _ _ hrow (fun k hk => by cases hk)
        rw [List.nil_append] at e1
        obtain rfl : t = row := e1.symm
        split at h
        · cases h
        · rename_i h2
          split at h
          · cases h
          · rename_i h3
            have hlen : t.length = W := by
              cases rows with
              | nil => exact absurd rfl hne
              | cons r0 rs =>
                have := ho.w r0 (List.mem_cons_self ..)
                by_cases e : t.length = W
                · exact e
                · exact absurd ⟨by simp, by simp [this]; exact e⟩ h2
            have ho' : RowsOk W (rows ++ [t]) := ⟨fun r hr => by
              rcases List.mem_append.1 hr with hr | hr
              · exact ho.w r hr
              · rw [List.mem_singleton.1 hr]; exact hlen, fun r hr => by
              rcases List.mem_append.1 hr with hr | hr
              · exact ho.c r hr
              · rw [List.mem_singleton.1 hr]; exact e3⟩
            have hbd := hasAt_bd e4 (by simp)
            rw [List.length_append, List.length_singleton] at hbd
            have hl2 : (rows ++ [t]).length ≤ 64 := by rw [List.length_append, List.length_singleton]; omega
            obtain ⟨T, a1, a2, a3, a4, a5⟩ := rowsF_ok hB f p (rows ++ [t]) R h ho' (by simp) hW hW64 hl2 (by omega)
            refine ⟨t :: T, by rw [a1]; simp, a2, a3, ?_, ?_⟩
            · rw [rowsL_cons]
              refine hasAt_app e4 ?_
              rw [List.length_append, List.length_singleton, ← Nat.add_assoc, ← e5]
              exact a4
            · rw [rowsL_cons, List.length_append, List.length_append, List.length_singleton]
              omega
    · rename_i h1
      injection h with h
      subst h
      exact ⟨[], by simp, ho, hl, by unfold rowsL; exact hasAt_nil _ _, by simp [rowsL]; omega⟩
theorem rowsF_top {B : List Nat} (hB : ∀ x ∈ B, x < 256) (f i : Nat) (R : List (List Nat)) (h : rowsF B f i [] = .ok R) :
    ∃ W, 0 < W ∧ W ≤ 64 ∧ RowsOk W R ∧ 0 < R.length ∧ R.length ≤ 64 ∧ hasAt B i (rowsL R) ∧ i + (rowsL R).length = B.length := by
  cases f with
  | zero => simp [rowsF] at h
  | succ f =>
    unfold rowsF at h
    rw [if_pos (.inr rfl)] at h
    split at h
    · cases h
    · rename_i row p hrow
      obtain ⟨t, e1, e2, e3, e4, e5⟩ := rowF_ok hB _ _ _ _ _ hrow (fun k hk => by cases hk)
      rw [List.nil_append] at e1
      obtain rfl : t = row := e1.symm
      rw [if_neg (fun h2 => h2.1 rfl)] at h
      split at h
      · cases h
      · rename_i h3
        have hbd := hasAt_bd e4 (by simp)
        rw [List.length_append, List.length_singleton] at hbd
        have ht : 0 < t.length := List.length_pos_iff.2 e2
        obtain ⟨T, a1, a2, a3, a4, a5⟩ := rowsF_ok hB (W := t.length) f p ([] ++ [t]) R h ⟨fun r hr => by simp at hr; rw [hr], fun r hr => by simp at hr; rw [hr]; exact e3⟩ (by simp) ht (by omega) (by simp) (by omega)
        rw [List.nil_append] at a1
        refine ⟨t.length, ht, by omega, a2, by rw [a1]; simp, a3, ?_, ?_⟩
        · rw [a1, List.singleton_append, rowsL_cons]
          refine hasAt_app e4 ?_
          rw [List.length_append, List.length_singleton, ← Nat.add_assoc, ← e5]
          exact a4
        · rw [a1, List.singleton_append, rowsL_cons, List.length_append, List.length_append, List.length_singleton]
          omega
/-- What is written is read. -/
theorem rowsF_read {B : List Nat} (hB : ∀ x ∈ B, x < 256) {W : Nat} (hW : 0 < W) (hW64 : W ≤ 64) : ∀ (f i : Nat) (rows T : List (List Nat)), RowsOk W (rows ++ T) → rows ++ T ≠ [] → hasAt B i (rowsL T) → i + (rowsL T).length = B.length → (rows ++ T).length ≤ 64 → T.length < f → rowsF B f i rows = .ok (rows ++ T)
  | 0, i, rows, T, _, _, _, _, _, h => absurd h (by omega)
  | f + 1, i, rows, [], ho, hne, _, he, _, _ => by
    unfold rowsF
    rw [if_neg (by
      rintro (h | h)
      · simp [rowsL] at he; omega
      · rw [List.append_nil] at hne; exact hne h)]
    rw [List.append_nil]
  | f + 1, i, rows, t :: T, ho, hne, h, he, hl, hf => by
    rw [rowsL_cons] at h
    have h1 := hasAt_left h
    have h2 := hasAt_right h
    have htw := ho.w t (by simp)
    have htc := ho.c t (by simp)
    have hbd := hasAt_bd h1 (by simp)
    rw [List.length_append, List.length_singleton] at hbd h2
    have htl := rowL_len t
    have hrd := rowF_read hB (B.length + 1) i [] t (by rw [List.nil_append]; intro e; subst e; simp at htw; omega) htc h1 (by omega)
    rw [List.nil_append] at hrd
    unfold rowsF
    rw [if_pos (.inl (by omega)), hrd]
    simp only
    rw [if_neg (by
      rintro ⟨h3, h4⟩
      cases rows with
      | nil => exact h3 rfl
      | cons r0 rs =>
        have := ho.w r0 (by simp)
        simp at h4
        omega), if_neg (by
      rintro (h3 | h3)
      · omega
      · rw [List.length_append, List.length_cons] at hl; omega)]
    have e : rows ++ t :: T = (rows ++ [t]) ++ T := by simp
    rw [e] at ho hne hl ⊢
    refine rowsF_read hB hW hW64 f _ (rows ++ [t]) T ho hne (by rw [Nat.add_assoc]; exact h2) ?_ hl (by simp at hf; omega)
    rw [rowsL_cons, List.length_append, List.length_append, List.length_singleton] at he
    omega
theorem hd_ne {B : List Nat} (h : hasAt B 0 (hdR 4)) : ¬ hasAt B 0 (hdR 6) := by
  intro h2
  have a := (hasAt_iff.1 h).2 2 (by simp [hdR])
  have b := (hasAt_iff.1 h2).2 2 (by simp [hdR])
  rw [a] at b
  simp [hdR] at b
theorem read_print {G W : Nat} {rows : List (List Nat)} (hG : G = 4 ∨ G = 6) (hW : 0 < W) (hW64 : W ≤ 64) (ho : RowsOk W rows) (hr : 0 < rows.length) (hr64 : rows.length ≤ 64) (hB : ∀ x ∈ printR G rows, x < 256) (hl : (printR G rows).length ≤ 65536) : readS (printR G rows) = (G, .ok rows) := by
  have h0 : hasAt (printR G rows) 0 (printR G rows) := by unfold hasAt; simp
  obtain ⟨B, hBe⟩ : ∃ B, printR G rows = B := ⟨_, rfl⟩
  have h1 : hasAt B 0 (hdR G ++ [10] ++ rowsL rows) := by rw [← hBe]; exact h0
  have hlen : B.length = 4 + (rowsL rows).length := by
    rw [← hBe]; unfold printR hdR
    split <;> simp <;> omega
  rw [hBe] at hB hl ⊢
  have h2 := hasAt_left h1
  have h3 := hasAt_right h1
  have h4 := hasAt_left h2
  have h5 := hasAt_right h2
  have e3 : (hdR G).length = 3 := by unfold hdR; split <;> rfl
  rw [List.length_append, e3] at h3
  rw [e3] at h5
  have hrr := rowsF_read hB hW hW64 (B.length + 2) 4 [] rows (by simpa using ho) (by rw [List.nil_append]; exact List.length_pos_iff.1 hr) h3 (by omega) (by simpa using hr64) (by
    have : rows.length ≤ (rowsL rows).length := by
      clear h1 h2 h3 h4 h5 hlen ho hr hr64 hBe h0
      induction rows with
      | nil => simp
      | cons r rs ih => rw [rowsL_cons]; simp; omega
    omega)
  unfold readS
  rw [if_neg (by omega)]
  rcases hG with rfl | rfl
  · rw [if_neg (hd_ne h4), if_pos h4, if_pos h5, hrr]; rfl
  · rw [if_pos h4, if_pos h5, hrr]; rfl
theorem print_read {B : List Nat} (hB : ∀ x ∈ B, x < 256) {G : Nat} {rows : List (List Nat)} (h : readS B = (G, .ok rows)) : (G = 4 ∨ G = 6) ∧ ∃ W, 0 < W ∧ W ≤ 64 ∧ RowsOk W rows ∧ 0 < rows.length ∧ rows.length ≤ 64 ∧ B = printR G rows := by
  have key : ∀ G, (G = 4 ∨ G = 6) → hasAt B 0 (hdR G) → hasAt B 3 [10] → rowsF B (B.length + 2) 4 [] = .ok rows → ∃ W, 0 < W ∧ W ≤ 64 ∧ RowsOk W rows ∧ 0 < rows.length ∧ rows.length ≤ 64 ∧ B = printR G rows := by
    intro G hG h1 h2 h3
    obtain ⟨W, a1, a2, a3, a4, a5, a6, a7⟩ := rowsF_top hB _ _ _ h3
    refine ⟨W, a1, a2, a3, a4, a5, ?_⟩
    have e3 : (hdR G).length = 3 := by unfold hdR; split <;> rfl
    have h4 : hasAt B 0 (hdR G ++ [10]) := hasAt_app h1 (by rw [e3]; exact h2)
    have h5 : hasAt B 0 (printR G rows) := hasAt_app h4 (by rw [List.length_append, e3]; exact a6)
    have hl : (printR G rows).length = B.length := by
      unfold printR
      rw [List.length_append, List.length_append, e3, List.length_singleton]
      omega
    unfold hasAt at h5
    rw [List.drop_zero, List.take_of_length_le (by omega)] at h5
    exact h5
  unfold readS at h
  split at h
  · simp at h
  · split at h
    · rename_i h1
      split at h
      · rename_i h2
        simp only [Prod.mk.injEq] at h
        obtain ⟨rfl, h3⟩ := h
        exact ⟨.inr rfl, key 6 (.inr rfl) h1 h2 h3⟩
      · simp at h
    · split at h
      · rename_i h1
        split at h
        · rename_i h2
          simp only [Prod.mk.injEq] at h
          obtain ⟨rfl, h3⟩ := h
          exact ⟨.inl rfl, key 4 (.inl rfl) h1 h2 h3⟩
        · simp at h
      · simp at h
end By
end Go.Proofs.YtikdnpkcknocaaaDoor

namespace Go.Proofs.YtikdnpkcknocaaaDoor
open Go.RowKit
set_option linter.unusedVariables false
set_option linter.unusedSimpArgs false
open By (bytesOf hasAt sgL encN decL colAt)
/-- The colour of a rune. -/
def colR (r : Nat) : Option Nat := (List.range 62).find? fun k => decide (signK k = r)
theorem colR_some {r k : Nat} : colR r = some k ↔ k < 62 ∧ signK k = r := by
  unfold colR
  constructor
  · intro h
    have h1 := List.find?_some h
    exact ⟨List.mem_range.1 (List.mem_of_find?_eq_some h), of_decide_eq_true h1⟩
  · rintro ⟨hk, h⟩
    cases hc : (List.range 62).find? fun k => decide (signK k = r) with
    | none =>
      have := List.find?_eq_none.1 hc k (List.mem_range.2 hk)
      simp [h] at this
    | some j =>
      have h1' := List.find?_some hc
      have h1 := of_decide_eq_true h1'
      have h2 := List.mem_range.1 (List.mem_of_find?_eq_some hc)
      have := By.sign_inj ⟨j, h2⟩ ⟨k, hk⟩ (h1.trans h.symm)
      simp only [Fin.mk.injEq] at this
      rw [this]
theorem colR_none {r : Nat} : colR r = none ↔ ∀ k, k < 62 → signK k ≠ r := by
  unfold colR
  rw [List.find?_eq_none]
  exact ⟨fun h k hk => by simpa using h k (List.mem_range.2 hk), fun h k hk => by simpa using h k (List.mem_range.1 hk)⟩
/-- A colour at a place by its rune. -/
theorem colR_at {B : List Nat} (hB : ∀ x ∈ B, x < 256) {i : Nat} (hi : i < B.length) : colR (decL B i).1 = colAt B i := by
  cases h : colAt B i with
  | none =>
    rw [colR_none]
    intro k hk e
    exact By.colAt_none.1 h k hk ((By.has_dec hB (By.sign_lt' ⟨k, hk⟩).1).2 ⟨hi, e.symm⟩)
  | some k =>
    have h1 := (By.colAt_some hB).1 h
    exact colR_some.2 ⟨h1.1, ((By.has_dec hB (By.sign_lt' ⟨k, h1.1⟩).1).1 h1.2).2.symm⟩
def colV (o : Option Nat) : Value := .tuple #[.int .i64 ((o.getD 0 : Nat)), .bool o.isSome]
set_option maxRecDepth 100000 in
set_option maxHeartbeats 8000000 in
theorem colour_ok (r : Nat) (w : World) :
    Calls Tryd.prog 19 #[.int .i32 r] w fun e w' => e = .returned (colV (colR r)) ∧ Below w.heap.size w w' := by
  have HS := Lib.hid (fun c w h => sign_ok c w h)
  go_enter Tryd.func19, Tryd.ntmps19
  go_wp2_with fail
  go_loopw [5] (fun kv wr => ∃ (k : Nat) (E : Array Obj) (d : Nat), k ≤ 62 ∧ kv = .int .i64 k ∧ Hid (∀ j, j < k → signK j ≠ r) ∧ wr = extW w E d) (fun kv _ => 62 - (intOf kv).toNat)
  case atStart => exact ⟨0, #[], _, by omega, rfl, Lib.hid fun j h => absurd h (by omega), extW_zero _⟩
  case round =>
    obtain ⟨k, E, d, hk, rfl, HK, rfl⟩ := hrel
    by_cases hk6 : k < 62
    · have dk : decide ((k : Int) < 62) = true := by simp; omega
      have dk' : decide (k < 62) = true := by simpa using hk6
      have vk : IntKind.i64.wrap ((k : Int) + 1) = (k : Int) + 1 := IntWalk.i64_in _ (by omega)
      have HS1 := Lib.hid (fun w => HS.out k w hk6)
      by_cases e : signK k = r
      · have HV : Hid (colR r = some k) := Lib.hid (colR_some.2 ⟨hk6, e⟩)
        rw [e] at HS1
        clear e HS
        (go_wp2_with fail; refine (HS1.out _).mono ?_; rintro r w1 ⟨rfl, hb⟩; obtain ⟨E, d, rfl⟩ := bExt hb; clear hb)
        go_wp2
        go_ret2
        exact ⟨by rw [HV.out]; rfl, (by repeat (first | exact Below.refl _ _ | refine Below.drew ?_ | refine below_drewN ?_ _ | refine Below.alloc ?_ (by first | exact Nat.le_refl _ | (simp; done) | (simp; omega) | omega) _ | refine Below.setCell ?_ (by first | exact Nat.le_refl _ | (simp; done) | (simp; omega) | omega) _ | refine bExtW ?_ (by first | exact Nat.le_refl _ | (simp; done) | (simp; omega) | omega) | refine Below.trans ?_ (Below.mono (by assumption) (by first | exact Nat.le_refl _ | (simp; done) | (simp; omega) | omega))))⟩
      · have HN : Hid (signK k ≠ r) := Lib.hid e
        obtain ⟨sk, hsk⟩ : ∃ sk, signK k = sk := ⟨_, rfl⟩
        rw [hsk] at HS1
        have d1 : ((sk : Int) == (r : Int)) = false := by rw [beq_eq_false_iff_ne]; omega
        have d2 : (sk == r) = false := by rw [beq_eq_false_iff_ne]; omega
        clear hsk e
        (go_wp2_with fail; refine (HS1.out _).mono ?_; rintro r w1 ⟨rfl, hb⟩; obtain ⟨E, d, rfl⟩ := bExt hb; clear hb)
        go_wp2
        go_roundw
        case rel => exact ⟨k + 1, _, _, by omega, by go_num, Lib.hid fun j hj => (by
          by_cases e : j = k
          · subst e; exact HN.out
          · exact HK.out j (by omega)), by simp only [extW_extW]; rfl⟩
        case measure => simp [intOf]; omega
    · obtain rfl : k = 62 := by omega
      have HV : Hid (colR r = none) := Lib.hid (colR_none.2 fun k hk => HK.out k hk)
      go_wp2
      go_ret2
      exact ⟨by rw [HV.out]; rfl, (by repeat (first | exact Below.refl _ _ | refine Below.drew ?_ | refine below_drewN ?_ _ | refine Below.alloc ?_ (by first | exact Nat.le_refl _ | (simp; done) | (simp; omega) | omega) _ | refine Below.setCell ?_ (by first | exact Nat.le_refl _ | (simp; done) | (simp; omega) | omega) _ | refine bExtW ?_ (by first | exact Nat.le_refl _ | (simp; done) | (simp; omega) | omega) | refine Below.trans ?_ (Below.mono (by assumption) (by first | exact Nat.le_refl _ | (simp; done) | (simp; omega) | omega))))⟩
theorem by_slice (s : ByteArray) (a b : Nat) (h1 : a ≤ b) (h2 : b ≤ s.size) (w : World) : (Instr.slice 9 (.string s) (some (.int .i64 ((a : Int)))) (some (.int .i64 ((b : Int)))) none).run Tryd.prog w = .ok (.string (s.extract a b)) w := by
  have h := run_slice_string (P := Tryd.prog) w 9 s .i64 .i64 (a : Int) (b : Int) Tryd.underlying9 (by omega) (by omega) (by omega)
  simpa using h
theorem by_ne {s t : ByteArray} (h : s ≠ t) : (s.toList == t.toList) = false := by
  rw [ByteArray.toList_eq, ByteArray.toList_eq, beq_eq_false_iff_ne]
  intro e
  apply h
  cases s; cases t
  congr 1
  exact Array.ext' e
theorem hasAt_ext {s t : ByteArray} {i : Nat} (h : i + t.size ≤ s.size) : hasAt (bytesOf s) i (bytesOf t) ↔ s.extract i (i + t.size) = t := by
  unfold hasAt
  rw [By.bytesOf_len, ← By.bytesOf_extract s i t.size h]
  exact ⟨fun e => By.bytesOf_inj e, fun e => by rw [e]⟩
set_option maxRecDepth 100000 in
set_option maxHeartbeats 8000000 in
theorem starts_ok (s t : ByteArray) (i : Nat) (w : World) (hs : s.size ≤ 9223372036854775807) (ht : 0 < t.size) (hi : i + t.size ≤ 9223372036854775807) :
    Calls Tryd.prog 20 #[.string s, .int .i64 (i), .string t] w fun e w' => e = .returned (.bool (decide (hasAt (bytesOf s) i (bytesOf t)))) ∧ Below w.heap.size w w' := by
  obtain ⟨n, hn⟩ : ∃ n, s.size = n := ⟨_, rfl⟩
  obtain ⟨m, hm⟩ : ∃ m, t.size = m := ⟨_, rfl⟩
  obtain ⟨j, hj⟩ : ∃ j, i + m = j := ⟨_, rfl⟩
  have hji : (i : Int) + (m : Int) = (j : Int) := by omega
  have vj : IntKind.i64.wrap (j : Int) = (j : Int) := IntWalk.i64_in _ (by omega)
  by_cases h : j ≤ n
  · have d1 : decide ((j : Int) ≤ (n : Int)) = true := by simpa using h
    have d2 : decide (j ≤ n) = true := by simpa using h
    have hx := hasAt_ext (s := s) (t := t) (i := i) (by omega)
    rw [hm, hj] at hx
    obtain ⟨S, hS⟩ : ∃ S, s.extract i j = S := ⟨_, rfl⟩
    have hsl : ∀ w, (Instr.slice 9 (.string s) (some (.int .i64 (i))) (some (.int .i64 (j))) none).run Tryd.prog w = .ok (.string S) w := fun w => by
      rw [← hS]; exact by_slice s i j (by omega) (by omega) w
    rw [hS] at hx
    by_cases e : S = t
    · have HV := Lib.hid (hx.2 e)
      subst e
      clear hx hS hs ht hi hj
      go_enter Tryd.func20, Tryd.ntmps20
      go_wp2
      go_ret
      exact ⟨by rw [decide_eq_true HV.out]; rfl, (by repeat (first | exact Below.refl _ _ | refine Below.drew ?_ | refine below_drewN ?_ _ | refine Below.alloc ?_ (by first | exact Nat.le_refl _ | (simp; done) | (simp; omega) | omega) _ | refine Below.setCell ?_ (by first | exact Nat.le_refl _ | (simp; done) | (simp; omega) | omega) _ | refine bExtW ?_ (by first | exact Nat.le_refl _ | (simp; done) | (simp; omega) | omega) | refine Below.trans ?_ (Below.mono (by assumption) (by first | exact Nat.le_refl _ | (simp; done) | (simp; omega) | omega))))⟩
    · have HV : Hid (¬ hasAt (bytesOf s) i (bytesOf t)) := Lib.hid (fun h => e (hx.1 h))
      have b1 := by_ne e
      clear hx hS hs ht hi hj e
      go_enter Tryd.func20, Tryd.ntmps20
      go_wp2
      go_ret
      exact ⟨by rw [decide_eq_false HV.out]; rfl, (by repeat (first | exact Below.refl _ _ | refine Below.drew ?_ | refine below_drewN ?_ _ | refine Below.alloc ?_ (by first | exact Nat.le_refl _ | (simp; done) | (simp; omega) | omega) _ | refine Below.setCell ?_ (by first | exact Nat.le_refl _ | (simp; done) | (simp; omega) | omega) _ | refine bExtW ?_ (by first | exact Nat.le_refl _ | (simp; done) | (simp; omega) | omega) | refine Below.trans ?_ (Below.mono (by assumption) (by first | exact Nat.le_refl _ | (simp; done) | (simp; omega) | omega))))⟩
  · have d1 : decide ((j : Int) ≤ (n : Int)) = false := by simp; omega
    have d2 : decide (j ≤ n) = false := by simp; omega
    have HV : Hid (¬ hasAt (bytesOf s) i (bytesOf t)) := Lib.hid (fun h2 => by
      have hl := By.hasAt_bd h2 (fun e => by have := By.bytesOf_len t; rw [e] at this; simp at this; omega)
      rw [By.bytesOf_len, By.bytesOf_len] at hl
      omega)
    clear hs ht hi hj
    go_enter Tryd.func20, Tryd.ntmps20
    go_wp2
    go_ret
    exact ⟨by rw [decide_eq_false HV.out]; rfl, (by repeat (first | exact Below.refl _ _ | refine Below.drew ?_ | refine below_drewN ?_ _ | refine Below.alloc ?_ (by first | exact Nat.le_refl _ | (simp; done) | (simp; omega) | omega) _ | refine Below.setCell ?_ (by first | exact Nat.le_refl _ | (simp; done) | (simp; omega) | omega) _ | refine bExtW ?_ (by first | exact Nat.le_refl _ | (simp; done) | (simp; omega) | omega) | refine Below.trans ?_ (Below.mono (by assumption) (by first | exact Nat.le_refl _ | (simp; done) | (simp; omega) | omega))))⟩
/-- The sign of a colour, as both tell it. -/
def sgV (n : Int) : Int := if n < 0 ∨ 61 < n then 63 else signK n.toNat
set_option maxRecDepth 100000 in
set_option maxHeartbeats 8000000 in
theorem chSign_any (n : Int) (w : World) (hn : (-9223372036854775808 ≤ n ∧ n ≤ 9223372036854775807)) : Calls Tryd.prog 6 #[.int .i64 (n)] w fun e w' => e = .returned (.int .i32 (sgV n)) ∧ Below w.heap.size w w' := by
  by_cases h0 : n < 0
  · have d0 : decide (n < 0) = true := by simpa using h0
    have hv : sgV n = 63 := by unfold sgV; rw [if_pos (.inl h0)]
    rw [hv]
    clear hv
    go_enter Tryd.func6, Tryd.ntmps6
    go_wp2
    go_ret
    exact ⟨rfl, (by repeat (first | exact Below.refl _ _ | refine Below.drew ?_ | refine below_drewN ?_ _ | refine Below.alloc ?_ (by first | exact Nat.le_refl _ | (simp; done) | (simp; omega) | omega) _ | refine Below.setCell ?_ (by first | exact Nat.le_refl _ | (simp; done) | (simp; omega) | omega) _ | refine bExtW ?_ (by first | exact Nat.le_refl _ | (simp; done) | (simp; omega) | omega) | refine Below.trans ?_ (Below.mono (by assumption) (by first | exact Nat.le_refl _ | (simp; done) | (simp; omega) | omega))))⟩
  · have d0 : decide (n < 0) = false := by simpa using h0
    by_cases h1 : 61 < n
    · have d1 : decide (n ≥ 62) = true := by simp; omega
      have d2 : decide (62 ≤ n) = true := by simp; omega
      have hv : sgV n = 63 := by unfold sgV; rw [if_pos (.inr h1)]
      rw [hv]
      clear hv
      go_enter Tryd.func6, Tryd.ntmps6
      go_wp2
      go_ret
      exact ⟨rfl, (by repeat (first | exact Below.refl _ _ | refine Below.drew ?_ | refine below_drewN ?_ _ | refine Below.alloc ?_ (by first | exact Nat.le_refl _ | (simp; done) | (simp; omega) | omega) _ | refine Below.setCell ?_ (by first | exact Nat.le_refl _ | (simp; done) | (simp; omega) | omega) _ | refine bExtW ?_ (by first | exact Nat.le_refl _ | (simp; done) | (simp; omega) | omega) | refine Below.trans ?_ (Below.mono (by assumption) (by first | exact Nat.le_refl _ | (simp; done) | (simp; omega) | omega))))⟩
    · obtain ⟨k, rfl⟩ : ∃ k : Nat, n = k := ⟨n.toNat, by omega⟩
      have d1 : decide ((k : Int) ≥ 62) = false := by simp; omega
      have d2 : decide ((62 : Int) ≤ k) = false := by simp; omega
      have hv : sgV (k : Int) = signK k := by unfold sgV; rw [if_neg (by omega)]; rfl
      rw [hv]
      have HS := Lib.hid (fun w => sign_ok k w (by omega))
      clear hv
      go_enter Tryd.func6, Tryd.ntmps6
      (go_wp2_with fail; refine (HS.out _).mono ?_; rintro r w1 ⟨rfl, hb⟩; obtain ⟨E, d, rfl⟩ := bExt hb; clear hb)
      go_wp2
      go_ret
      exact ⟨rfl, (by repeat (first | exact Below.refl _ _ | refine Below.drew ?_ | refine below_drewN ?_ _ | refine Below.alloc ?_ (by first | exact Nat.le_refl _ | (simp; done) | (simp; omega) | omega) _ | refine Below.setCell ?_ (by first | exact Nat.le_refl _ | (simp; done) | (simp; omega) | omega) _ | refine bExtW ?_ (by first | exact Nat.le_refl _ | (simp; done) | (simp; omega) | omega) | refine Below.trans ?_ (Below.mono (by assumption) (by first | exact Nat.le_refl _ | (simp; done) | (simp; omega) | omega))))⟩
end Go.Proofs.YtikdnpkcknocaaaDoor
