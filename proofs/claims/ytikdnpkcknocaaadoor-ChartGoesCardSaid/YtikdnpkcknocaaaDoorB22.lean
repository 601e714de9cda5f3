/- Lemmas and contracts of functions (what each call returns, and that it changes nothing that was there) that the proof of a law of this seat uses; each lemma states its own conditions. -/
import Derived.Test.YtikdnpkcknocaaaDoorB19
import Derived.Test.YtikdnpkcknocaaaDoorB21
namespace Go.Proofs.YtikdnpkcknocaaaDoor
open Go.RowKit
set_option linter.unusedVariables false
set_option linter.unusedSimpArgs false
open By (bytesOf hasAt sgL encN decL colAt rowF RowR readS rowsF RdR hdR rowsL printR RowsOk)
theorem bytesOf_app (a b : ByteArray) : bytesOf (a ++ b) = bytesOf a ++ bytesOf b := by
  unfold By.bytesOf
  rw [ByteArray.data_append, Array.toList_append, List.map_append]
/-- A chart's row, from below. -/
def rowC (W : Nat) (cs : List Int) (y : Nat) : List Nat := (List.range W).map (colK W cs y)
/-- A chart's rows, the highest first. -/
def rowsC (W H : Nat) (cs : List Int) : List (List Nat) := ((List.range H).map (rowC W cs)).reverse
theorem rowB_bytes {W : Nat} {cs : List Int} {y : Nat} (h : ∀ x, x < W → colK W cs y x < 62) : ∀ x, x ≤ W → bytesOf (rowB W cs y x) = By.rowL ((List.range x).map (colK W cs y))
  | 0, _ => by unfold rowB By.rowL; rfl
  | x + 1, hx => by
    rw [rowB, bytesOf_app, rowB_bytes h x (by omega), sgS_L (h x (by omega)), List.range_succ, List.map_append, List.map_singleton, By.rowL_snoc]
theorem botB_bytes {W H : Nat} {cs : List Int} (h : ∀ y x, y < H → x < W → colK W cs y x < 62) : ∀ y, y ≤ H → bytesOf (botB W cs y) = rowsL (rowsC W y cs)
  | 0, _ => by unfold botB rowsC rowsL; rfl
  | y + 1, hy => by
    have e : rowsC W (y + 1) cs = rowC W cs y :: rowsC W y cs := by
      unfold rowsC
      rw [List.range_succ, List.map_append, List.map_singleton, List.reverse_append]
      rfl
    rw [botB, bytesOf_app, bytesOf_app, rowB_bytes (h y · (by omega)) W (Nat.le_refl _), botB_bytes h y (by omega), e, By.rowsL_cons]
    rfl
theorem printB_bytes {G W H : Nat} {cs : List Int} (h : ∀ y x, y < H → x < W → colK W cs y x < 62) : bytesOf (printB G W H cs) = printR G (rowsC W H cs) := by
  unfold printB
  rw [bytesOf_app, botB_bytes h H (Nat.le_refl _)]
  unfold By.printR hdB By.hdR
  split <;> rfl
theorem rowsC_ok {W H : Nat} {cs : List Int} (h : ∀ y x, y < H → x < W → colK W cs y x < 62) : RowsOk W (rowsC W H cs) := by
  constructor
  · intro r hr
    simp only [rowsC, List.mem_reverse, List.mem_map, List.mem_range] at hr
    obtain ⟨y, _, rfl⟩ := hr
    simp [rowC]
  · intro r hr k hk
    simp only [rowsC, List.mem_reverse, List.mem_map, List.mem_range] at hr
    obtain ⟨y, hy, rfl⟩ := hr
    simp only [rowC, List.mem_map, List.mem_range] at hk
    obtain ⟨x, hx, rfl⟩ := hk
    exact h y x hy hx
theorem rowsC_len (W H : Nat) (cs : List Int) : (rowsC W H cs).length = H := by simp [rowsC]
/-- The rows' colours, from below, are the cells. -/
theorem rowsC_flat {W H : Nat} {cs : List Int} (hl : cs.length = W * H) (hC : ∀ x ∈ cs, 0 ≤ x) : natI (rowsC W H cs).reverse.flatten = cs := by
  have key : ∀ h, h ≤ H → natI ((List.range h).map (rowC W cs)).flatten = cs.take (h * W) := by
    intro h
    induction h with
    | zero => intro _; simp [natI]
    | succ h ih =>
      intro hh
      have hb : h * W + W ≤ cs.length := by
        have h1 : (h + 1) * W ≤ H * W := Nat.mul_le_mul_right W hh
        rw [Nat.succ_mul] at h1
        rw [hl, Nat.mul_comm W H]; exact h1
      have e1 : natI (rowC W cs h) = (cs.drop (h * W)).take W := by
        apply List.ext_getElem
        · simp [natI, rowC]; omega
        · intro x h1 h2
          have hx : x < W := by simp [natI, rowC] at h1; exact h1
          have h3 : h * W + x < cs.length := by omega
          have h4 := hC _ (List.getElem_mem h3)
          simp only [natI, rowC, List.getElem_map, List.getElem_range, List.getElem_take, List.getElem_drop]
          unfold colK
          rw [List.getD_eq_getElem?_getD, List.getElem?_eq_getElem h3, Option.getD_some]
          omega
      rw [List.range_succ, List.map_append, List.map_singleton, List.flatten_append, List.flatten_singleton]
      have e2 : ∀ a b : List Nat, natI (a ++ b) = natI a ++ natI b := fun a b => by simp [natI]
      rw [e2, ih (by omega), e1, Nat.succ_mul, List.take_add]
  unfold rowsC
  rw [List.reverse_reverse, key H (Nat.le_refl _), List.take_of_length_le (by rw [hl, Nat.mul_comm]; exact Nat.le_refl _)]
theorem flat_get {W : Nat} : ∀ (L : List (List Nat)) (y x : Nat), (∀ r ∈ L, r.length = W) → y < L.length → x < W → L.flatten.getD (y * W + x) 0 = (L.getD y []).getD x 0
  | [], y, x, _, h, _ => by simp at h
  | r :: L, 0, x, hr, _, hx => by
    have h1 := hr r (by simp)
    rw [List.flatten_cons, Nat.zero_mul, Nat.zero_add, List.getD_eq_getElem?_getD, List.getElem?_append_left (by omega)]
    rfl
  | r :: L, y + 1, x, hr, h, hx => by
    have h1 := hr r (by simp)
    have ih := flat_get L y x (fun r' h' => hr r' (by simp [h'])) (by simp at h; exact h) hx
    rw [List.flatten_cons, List.getD_eq_getElem?_getD, List.getElem?_append_right (by rw [h1, Nat.succ_mul]; omega), ← List.getD_eq_getElem?_getD, h1, show (y + 1) * W + x - W = y * W + x by rw [Nat.succ_mul]; omega, ih]
    rfl
theorem flat_len {W : Nat} : ∀ (L : List (List Nat)), (∀ r ∈ L, r.length = W) → L.flatten.length = W * L.length
  | [], _ => by simp
  | r :: L, h => by
    rw [List.flatten_cons, List.length_append, h r (by simp), flat_len L (fun r' h' => h r' (by simp [h'])), List.length_cons, Nat.mul_succ]; omega
/-- The cells of rows, as rows. -/
theorem rowsC_of {W : Nat} {rows : List (List Nat)} (hW : ∀ r ∈ rows, r.length = W) : rowsC W rows.length (natI rows.reverse.flatten) = rows := by
  unfold rowsC
  have e : (List.range rows.length).map (rowC W (natI rows.reverse.flatten)) = rows.reverse := by
    apply List.ext_getElem
    · simp
    · intro y h1 h2
      have hy : y < rows.length := by simpa using h1
      have hy2 : y < rows.reverse.length := by simpa using hy
      have hlen : (rows.reverse[y]).length = W := hW _ (List.mem_reverse.1 (List.getElem_mem hy2))
      rw [List.getElem_map, List.getElem_range]
      unfold rowC
      apply List.ext_getElem
      · rw [List.length_map, List.length_range, hlen]
      · intro x h3 h4
        have hx : x < W := by simpa using h3
        rw [List.getElem_map, List.getElem_range]
        unfold colK
        have h5 := flat_get rows.reverse y x (fun r hr => hW r (by simpa using hr)) hy2 hx
        have h6 : (natI rows.reverse.flatten).getD (y * W + x) 0 = ((rows.reverse.flatten.getD (y * W + x) 0 : Nat) : Int) := by
          unfold natI
          rw [List.getD_eq_getElem?_getD, List.getElem?_map, List.getD_eq_getElem?_getD]
          cases rows.reverse.flatten[y * W + x]? <;> rfl
        have h7 : rows.reverse.getD y [] = rows.reverse[y] := by rw [List.getD_eq_getElem?_getD, List.getElem?_eq_getElem hy2, Option.getD_some]
        rw [h6, h5, Int.toNat_natCast, h7, List.getD_eq_getElem?_getD, List.getElem?_eq_getElem h4, Option.getD_some]
  rw [e, List.reverse_reverse]
theorem rowL_le (r : List Nat) : (By.rowL r).length ≤ 3 * r.length := by
  induction r with
  | nil => simp [By.rowL]
  | cons k r ih =>
    rw [By.rowL_cons, List.length_append, List.length_cons]
    have := (By.sgL_len k).2
    omega
theorem printR_le {G W : Nat} {rows : List (List Nat)} (hW : W ≤ 64) (h : ∀ r ∈ rows, r.length = W) (hr : rows.length ≤ 64) : (printR G rows).length ≤ 65536 := by
  have h1 : ∀ L : List (List Nat), (∀ r ∈ L, r.length = W) → (rowsL L).length ≤ 193 * L.length := by
    intro L
    induction L with
    | nil => intro _; simp [By.rowsL]
    | cons r L ih =>
      intro hL
      rw [By.rowsL_cons, List.length_append, List.length_append, List.length_singleton, List.length_cons]
      have h2 := rowL_le r
      have h3 := hL r (by simp)
      have h4 := ih fun r' h' => hL r' (by simp [h'])
      omega
  have h2 := h1 rows h
  have h3 : (hdR G).length = 3 := by unfold By.hdR; split <;> rfl
  unfold By.printR
  rw [List.length_append, List.length_append, h3, List.length_singleton]
  omega
end Go.Proofs.YtikdnpkcknocaaaDoor
