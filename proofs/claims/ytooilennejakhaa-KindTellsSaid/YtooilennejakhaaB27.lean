/- Lemmas and contracts of functions (what each call returns, and that it changes nothing that was there) that the proof of a law of this seat uses; each lemma states its own conditions. -/
import Derived.Test.YtooilennejakhaaB19
namespace Go.Proofs.Ytooilennejakhaa
open Go.RowKit
set_option linter.unusedVariables false
set_option linter.unusedSimpArgs false
open Z (torN place pnt Mv To lin okT nrm keepB colP idm md redM both inv)
theorem head_filter {α : Type} {p : α → Bool} {a : α} : ∀ {l : List α}, l[0]? = some a → p a = true → (l.filter p)[0]? = some a
  | [], h, _ => by simp at h
  | x :: l, h, hp => by
    obtain rfl : x = a := by simpa using h
    rw [List.filter_cons, if_pos hp]; rfl
theorem allM_head {g : Int} {n : Nat} (hg : 0 < g.toNat) (hn : 0 < n) : (Z.allM g n)[0]? = some idm := by
  obtain ⟨s, hs⟩ : ∃ s, g.toNat = s + 1 := ⟨g.toNat - 1, by omega⟩
  obtain ⟨r, hr⟩ : ∃ r, n * n = r + 1 := ⟨n * n - 1, by have := Nat.mul_pos hn hn; omega⟩
  have h0 : pnt n 0 = (0, 0) := by unfold pnt; simp
  unfold Z.allM
  rw [hs, hr, List.range_succ_eq_map, List.range_succ_eq_map]
  simp [h0, idm]
theorem moves_head {W H n : Nat} {cs : List Int} {g : Int} (hg : g = 4 ∨ g = 6) (hn : 0 < n) (hW : W ∣ n) (hH : H ∣ n) : (Z.movesL W H cs g n)[0]? = some idm :=
  head_filter (allM_head (by omega) hn) ((Z.keepB_iff hn hW hH).2 (Z.Keep.id g _))
/-- What the group laws ask first. -/
def tb (b : Bool) : Value := .bool b
/-- What the moves of a right chart are. -/
theorem moves_facts {G W H n N : Nat} {cs : List Int} (h : ChOk G W H n cs) (hN : torN W H = N) (h24 : N ≤ 24) (h0 : 0 < N) :
    Z.Grp (G : Int) (N : Int) (colP W H cs) (Z.movesL W H cs G N) ∧ Z.Per (N : Int) (colP W H cs) ∧ (Z.movesL W H cs G N)[0]? = some idm ∧ (Z.movesL W H cs G N).length ≤ 10000 := by
  have hd := Z.torN_dvd W H
  rw [hN] at hd
  refine ⟨Z.movesL_grp h0 hd.1 hd.2, Z.colP_per cs hd.1 hd.2, moves_head (by have := h.g; omega) h0 hd.1 hd.2, ?_⟩
  refine Nat.le_trans (List.length_filter_le _ _) ?_
  unfold Z.allM
  have hNN : N * N ≤ 576 := Nat.mul_le_mul h24 h24
  simp only [List.flatMap_cons, List.flatMap_nil, List.length_append, List.length_flatMap, List.length_map, List.length_range, List.length_nil, List.map_const', List.sum_replicate_nat, Int.toNat_natCast]
  have : G * (N * N) ≤ 6 * 576 := Nat.mul_le_mul (by have := h.g; omega) hNN
  omega
theorem smB_of {x y : Int} (h : -1048576 ≤ x ∧ x ≤ 1048576 ∧ -1048576 ≤ y ∧ y ≤ 1048576) : smB x y = true := by simp [smB]; omega
theorem mv_wf {m : Mv} {g : Int} (hg : g = 4 ∨ g = 6) (ht : okT g m) : m.t ≤ 6 := by unfold okT at ht; omega
/-- Compose of two moves of the torus. -/
theorem Compose_torus (g : Int) (N : Nat) (f h : Mv) (w : World) (hg : g = 4 ∨ g = 6) (h24 : N ≤ 24) (of : okT g f) (oh : okT g h) (bf : 0 ≤ f.o.1 ∧ f.o.1 < N ∧ 0 ≤ f.o.2 ∧ f.o.2 < N) (bh : 0 ≤ h.o.1 ∧ h.o.1 < N ∧ 0 ≤ h.o.2 ∧ h.o.2 < N) :
    Calls Try.prog 57 #[.int .i64 (g), .agg #[.int .i64 (f.t), .bool (f.f), .int .i64 (f.o.1), .int .i64 (f.o.2)], .agg #[.int .i64 (h.t), .bool (h.f), .int .i64 (h.o.1), .int .i64 (h.o.2)]] w fun e w' => e = .returned (.tuple #[mvV (both g f h), .int .i64 (0)]) ∧ Below w.heap.size w w' := by
  have h1 := Compose_any g f.t f.o.1 f.o.2 h.t h.o.1 h.o.2 f.f h.f w (by omega) (by have := mv_wf hg of; omega) (by omega) (by omega) (by have := mv_wf hg oh; omega) (by omega) (by omega)
  have hs := To_small hg f.t f.f (x := h.o.1) (y := h.o.2) (ox := f.o.1) (oy := f.o.2) (by omega) (by omega) (by omega) (by omega)
  have h2 : smB (both g f h).o.1 (both g f h).o.2 = true := smB_of (by
    have e : (both g f h).o = To g ⟨f.t, f.f, (f.o.1, f.o.2)⟩ (h.o.1, h.o.2) := rfl
    rw [e]; omega)
  rw [coV_ok ⟨hg, of, smB_of (by omega)⟩ ⟨hg, oh, smB_of (by omega)⟩, if_neg (by rw [h2]; simp)] at h1
  exact h1
theorem has_mem {L : List Mv} {m : Mv} (h : m ∈ L) : hasB L m = true := decide_eq_true h
end Go.Proofs.Ytooilennejakhaa
