/- Lemmas and contracts of functions (what each call returns, and that it changes nothing that was there) that the proof of a law of this seat uses; each lemma states its own conditions. -/
import Derived.Test.YtooilennejakhaaB44
import Derived.Test.YtooilennejakhaaB39
import Derived.Test.YtooilennejakhaaB28
import Derived.Test.YtooilennejakhaaB13
namespace Go.Proofs.Ytooilennejakhaa.Z
set_option linter.unusedVariables false
set_option linter.unusedSimpArgs false
/-- The colours, each for each. -/
def dyeL (A : Nat) (cs : List Int) : List Int := cs.map fun v => (v + A) % 62
theorem emod_nat2 {n : Nat} (hn : 0 < n) (x : Int) : ∃ r : Nat, r < n ∧ x % (n : Int) = r := by
  have h1 := Int.emod_nonneg x (show (n : Int) ≠ 0 by omega)
  have h2 := Int.emod_lt_of_pos x (show (0 : Int) < n by omega)
  exact ⟨(x % (n : Int)).toNat, by omega, by omega⟩
theorem colP_in {W H : Nat} (hW : 0 < W) (hH : 0 < H) (cs : List Int) (z : Pt) : ∃ x y : Nat, x < W ∧ y < H ∧ z.1 % (W : Int) = x ∧ z.2 % (H : Int) = y ∧ colP W H cs z = cs.getD (y * W + x) 0 := by
  obtain ⟨x, hx, ex⟩ := emod_nat2 hW z.1
  obtain ⟨y, hy, ey⟩ := emod_nat2 hH z.2
  refine ⟨x, y, hx, hy, ex, ey, ?_⟩
  unfold colP
  rw [ex, ey]
  rfl
theorem dye_col {W H A : Nat} {cs : List Int} (hW : 0 < W) (hH : 0 < H) (hl : cs.length = W * H) (z : Pt) : colP W H (dyeL A cs) z = (colP W H cs z + A) % 62 := by
  obtain ⟨x, y, hx, hy, ex, ey, e⟩ := colP_in hW hH cs z
  have hp := bpl_lt hx hy
  rw [e]
  unfold colP dyeL
  rw [ex, ey]
  show ((cs.map fun v => (v + (A : Int)) % 62).getD (y * W + x) 0) = _
  rw [List.getD_eq_getElem?_getD, List.getD_eq_getElem?_getD, List.getElem?_map, List.getElem?_eq_getElem (by omega)]
  rfl
theorem colP_mem {W H : Nat} {cs : List Int} (hW : 0 < W) (hH : 0 < H) (hl : cs.length = W * H) (z : Pt) : colP W H cs z ∈ cs := by
  obtain ⟨x, y, hx, hy, ex, ey, e⟩ := colP_in hW hH cs z
  have hp := bpl_lt hx hy
  rw [e, List.getD_eq_getElem?_getD, List.getElem?_eq_getElem (by omega)]
  exact List.getElem_mem _
theorem dye_sig {W H A : Nat} {cs : List Int} {g : Int} (hW : 0 < W) (hH : 0 < H) (hl : cs.length = W * H) (hc : ∀ x ∈ cs, 0 ≤ x ∧ x < 62) : SameSig g (colP W H cs) (colP W H (dyeL A cs)) := by
  refine sig_dyed fun y z => ?_
  rw [dye_col hW hH hl, dye_col hW hH hl]
  have h1 := hc _ (colP_mem hW hH hl y)
  have h2 := hc _ (colP_mem hW hH hl z)
  generalize colP W H cs y = p at *
  generalize colP W H cs z = q at *
  constructor
  · rintro rfl; rfl
  · intro h; omega
/-- Laid out several times over: so many pieces of rows. -/
def pieceL (W H : Nat) (cs : List Int) (wide j : Nat) : List Int := (cs.drop (j / wide % H * W)).take W
def layL (W H : Nat) (cs : List Int) (wide : Nat) : Nat → List Int
  | 0 => []
  | k + 1 => layL W H cs wide k ++ pieceL W H cs wide k
theorem piece_len {W H wide j : Nat} {cs : List Int} (hH : 0 < H) (hl : cs.length = W * H) : (pieceL W H cs wide j).length = W := by
  unfold pieceL
  rw [List.length_take, List.length_drop, hl]
  have h1 := Nat.mod_lt (j / wide) hH
  have h2 : (j / wide % H + 1) * W ≤ H * W := Nat.mul_le_mul_right W (by omega)
  rw [Nat.add_mul, Nat.one_mul, Nat.mul_comm H W] at h2
  omega
theorem layL_len {W H wide : Nat} {cs : List Int} (hH : 0 < H) (hl : cs.length = W * H) : ∀ k, (layL W H cs wide k).length = k * W
  | 0 => by simp [layL]
  | k + 1 => by rw [layL, List.length_append, layL_len hH hl k, piece_len hH hl, Nat.succ_mul]
theorem layL_get {W H wide : Nat} {cs : List Int} (hW : 0 < W) (hH : 0 < H) (hl : cs.length = W * H) : ∀ k p, p < k * W → (layL W H cs wide k).getD p 0 = cs.getD (p / W / wide % H * W + p % W) 0
  | 0, p, h => by omega
  | k + 1, p, h => by
    rw [layL]
    have hlen := layL_len (W := W) (H := H) (wide := wide) hH hl k
    by_cases hp : p < k * W
    · rw [List.getD_eq_getElem?_getD, List.getElem?_append_left (by omega), ← List.getD_eq_getElem?_getD]
      exact layL_get hW hH hl k p hp
    · rw [Nat.succ_mul] at h
      rw [List.getD_eq_getElem?_getD, List.getElem?_append_right (by omega), hlen]
      have e1 : p / W = k := by
        refine Nat.div_eq_of_lt_le (by omega) ?_
        rw [Nat.succ_mul]; omega
      have e2 : p % W = p - k * W := by
        have := Nat.div_add_mod p W
        rw [e1, Nat.mul_comm] at this
        omega
      unfold pieceL
      rw [e1, e2, List.getElem?_take_of_lt (by omega), List.getElem?_drop, ← List.getD_eq_getElem?_getD]
theorem lay_col {W H wide high : Nat} {cs : List Int} (hW : 0 < W) (hH : 0 < H) (hw : 0 < wide) (hh : 0 < high) (hl : cs.length = W * H) (z : Pt) : colP (wide * W) (high * H) (layL W H cs wide (high * H * wide)) z = colP W H cs z := by
  obtain ⟨x, y, hx, hy, ex, ey, e⟩ := colP_in (W := wide * W) (H := high * H) (Nat.mul_pos hw hW) (Nat.mul_pos hh hH) (layL W H cs wide (high * H * wide)) z
  rw [e]
  have hp : y * (wide * W) + x < high * H * wide * W := by
    refine Nat.lt_of_lt_of_eq (bpl_lt hx hy) ?_
    rw [Nat.mul_comm (wide * W) (high * H), Nat.mul_assoc (high * H)]
  rw [layL_get hW hH hl _ _ hp]
  have e1 : (y * (wide * W) + x) % W = x % W := by rw [← Nat.mul_assoc, Nat.mul_comm (y * wide) W, Nat.mul_add_mod]
  have e2 : (y * (wide * W) + x) / W / wide = y := by
    rw [Nat.div_div_eq_div_mul, Nat.mul_comm W wide, Nat.mul_comm y, Nat.mul_add_div (Nat.mul_pos hw hW), Nat.div_eq_of_lt hx, Nat.add_zero]
  rw [e1, e2]
  unfold colP
  have f1 : z.1 % (W : Int) = ((x % W : Nat) : Int) := by
    rw [Int.natCast_emod, ← ex]
    exact (Int.emod_emod_of_dvd _ (by rw [Int.natCast_mul]; exact Int.dvd_mul_left _ _)).symm
  have f2 : z.2 % (H : Int) = ((y % H : Nat) : Int) := by
    rw [Int.natCast_emod, ← ey]
    exact (Int.emod_emod_of_dvd _ (by rw [Int.natCast_mul]; exact Int.dvd_mul_left _ _)).symm
  rw [f1, f2]
  rfl
theorem layL_mem {W H wide : Nat} {cs : List Int} {P : Int → Prop} (h : ∀ x ∈ cs, P x) : ∀ k, ∀ x ∈ layL W H cs wide k, P x
  | 0, x, hx => by simp [layL] at hx
  | k + 1, x, hx => by
    rw [layL] at hx
    rcases List.mem_append.1 hx with h1 | h1
    · exact layL_mem h k x h1
    · exact h x (List.mem_of_mem_drop (List.mem_of_mem_take h1))
theorem dyeL_len (A : Nat) (cs : List Int) : (dyeL A cs).length = cs.length := by simp [dyeL]
theorem dyeL_mem {A : Nat} {cs : List Int} : ∀ x ∈ dyeL A cs, 0 ≤ x ∧ x < 62 := by
  intro x hx
  obtain ⟨v, _, rfl⟩ := List.mem_map.1 hx
  omega
theorem dyeL_take {A i : Nat} {cs : List Int} (h : i < cs.length) : (dyeL A cs).take (i + 1) = (dyeL A cs).take i ++ [(cs.getD i 0 + A) % 62] := by
  have hl : i < (dyeL A cs).length := by rw [dyeL_len]; exact h
  rw [List.take_succ_eq_append_getElem hl]
  have e : (dyeL A cs)[i] = (cs.getD i 0 + A) % 62 := by
    have h2 : (dyeL A cs)[i]? = some ((cs.getD i 0 + A) % 62) := by
      unfold dyeL
      rw [List.getElem?_map, List.getD_eq_getElem?_getD, List.getElem?_eq_getElem h]
      rfl
    rw [List.getElem?_eq_getElem hl] at h2
    exact Option.some.inj h2
  rw [e]
end Go.Proofs.Ytooilennejakhaa.Z

namespace Go.Proofs.Ytooilennejakhaa
open Go.RowKit
set_option linter.unusedVariables false
set_option linter.unusedSimpArgs false
open Z (torN place pnt Mv To lin okT nrm keepB colP idm md redM firstB rankP act)
def ptK (p : Z.Pt) : List Value := [.int .i64 p.1, .int .i64 p.2]
def ptsK (L : List Z.Pt) : List Value := L.flatMap ptK
theorem ptsK_app (L : List Z.Pt) (p : Z.Pt) : ptsK (L ++ [p]) = ptsK L ++ ptK p := by unfold ptsK; rw [List.flatMap_append]; simp
theorem ptsK_get : ∀ (L : List Z.Pt) (j r : Nat), j < L.length → r < 2 → (ptsK L)[2 * j + r]? = (ptK (L.getD j (0, 0)))[r]?
  | [], j, r, h, _ => absurd h (by simp)
  | m :: L, 0, r, _, hr => by
    unfold ptsK
    rw [List.flatMap_cons, List.getElem?_append_left (by simp [ptK]; omega)]
    simp
  | m :: L, j + 1, r, h, hr => by
    have ih := ptsK_get L j r (by simpa using h) hr
    unfold ptsK at ih ⊢
    rw [List.flatMap_cons, List.getElem?_append_right (by simp [ptK]; omega)]
    rw [show 2 * (j + 1) + r - (ptK m).length = 2 * j + r by simp [ptK]; omega, ih]
    simp
/-- A list of points in memory. -/
def IsPts (w : World) (a : Option Addr) (n : Nat) (L : List Z.Pt) : Prop :=
  L.length = n ∧ (0 < n → ∃ b o, a = some ⟨b, o, none⟩ ∧ b < w.heap.size ∧ ∀ j, j < n → w.cell? ⟨b, o + j * 2, none⟩ = some (.int .i64 (L.getD j (0, 0)).1) ∧ w.cell? ⟨b, o + j * 2 + 1, none⟩ = some (.int .i64 (L.getD j (0, 0)).2))
theorem IsPts.below {w w' : World} {a : Option Addr} {n : Nat} {L : List Z.Pt} (h : IsPts w a n L) (hb : Below w.heap.size w w') : IsPts w' a n L := by
  refine ⟨h.1, fun hn => ?_⟩
  obtain ⟨b, o, h1, h2, h3⟩ := h.2 hn
  refine ⟨b, o, h1, Nat.lt_of_lt_of_le h2 hb.size, fun j hj => ?_⟩
  obtain ⟨c0, c1⟩ := h3 j hj
  exact ⟨bCs hb c0, bCs hb c1⟩
def OwnP (w : World) (base : Nat) (A : Option Addr) (n C : Nat) (L : List Z.Pt) : Prop := L.length = n ∧ w.ownsRow base 33 2 (.slice A n C) n (ptsK L)
theorem OwnP.pts {w : World} {base n C : Nat} {A : Option Addr} {L : List Z.Pt} (h : OwnP w base A n C L) : IsPts w A n L := by
  obtain ⟨hl, h2⟩ := h
  refine ⟨hl, fun hn => ?_⟩
  rcases h2.2 with ⟨e, e0⟩ | ⟨g, cap, cur, e, hb, hg, h3, h4, h5, h6⟩
  · omega
  · injection e with e1
    refine ⟨g, 0, e1, (Array.getElem?_eq_some_iff.1 hg).1, fun j hj => ?_⟩
    have hc : ∀ r, r < 2 → w.cell? ⟨g, 0 + j * 2 + r, none⟩ = (ptK (L.getD j (0, 0)))[r]? := fun r hr => by
      have h7 : cur[2 * j + r]? = (ptK (L.getD j (0, 0)))[r]? := by
        rw [← Array.getElem?_toList, ← List.getElem?_take_of_lt (show 2 * j + r < n * 2 by omega), h6]
        exact ptsK_get L j r (by omega) hr
      rw [show 0 + j * 2 + r = 2 * j + r by omega]
      simp [World.cell?, hg, h7]
    exact ⟨hc 0 (by omega), hc 1 (by omega)⟩
theorem okPt : ElemOk 84 33 2 16 (.agg #[.int .i64 0, .int .i64 0]) := ⟨Try.underlying84, by kernel_rfl, rfl, by omega⟩
/-- A list of points and what is wrong. -/
def PtPost (L : List Z.Pt) (e : Int) (w : World) (r : Ending) (w' : World) : Prop := (∃ A C, r = .returned (.tuple #[.slice A L.length C, .int .i64 (e)]) ∧ OwnP w' w.heap.size A L.length C L) ∧ Below w.heap.size w w'
theorem OwnP.none (w : World) (b : Nat) : OwnP w b none 0 0 [] := ⟨rfl, World.ownsRow_nil _ _ _ _⟩
theorem row_notOwn {w : World} {b t n base e size k : Nat} {f : Nat → Value} {v : Value} {xs : List Value} (hr : w.rowIs b t n f) (h : w.ownsRow base e size v k xs) (hne : t ≠ e) : some b ≠ v.ownBlock := by
  rcases h.2 with ⟨rfl, _⟩ | ⟨g, cap, cur, rfl, _, hg, _⟩
  · simp [Value.ownBlock]
  · intro e'
    have e2 : b = g := by simpa [Value.ownBlock] using e'
    subst e2
    obtain ⟨cs, hb, _⟩ := hr
    rw [hb] at hg
    injection hg with hg
    injection hg with _ h5
    exact hne h5
theorem row_ne {w : World} {b b' t t' n n' : Nat} {f f' : Nat → Value} (h : w.rowIs b t n f) (h' : w.rowIs b' t' n' f') (hne : t ≠ t') : b ≠ b' := by
  rintro rfl
  obtain ⟨c, h1, _⟩ := h
  obtain ⟨c', h2, _⟩ := h'
  rw [h1] at h2
  injection h2 with h2
  injection h2 with _ h3
  exact hne h3
/-- What lies in memory while the points are sought. -/
structure DS (sb xb : Nat) (W0 : World) (g n : Int) (A : Option Addr) (M C : Nat) (B : Option Addr) (D : Nat) (ML : List Mv) (f : Nat → Bool) (ov : Value) (OL : List Z.Pt) (w : World) : Prop where
  s : w.rowIs sb 4 M (fun j => .bool (f j))
  x : w.rowIs xb 60 3 (clF g n (.slice A M C))
  m : ∃ b, OwnM w b B ML.length D ML
  o : w.ownsRow W0.heap.size 33 2 ov OL.length (ptsK OL)
  lo : W0.heap.size ≤ sb
  bel : Below W0.heap.size W0 w
section
variable {sb xb M C D : Nat} {W0 w w' : World} {g n : Int} {A B : Option Addr} {ML : List Mv} {f f' : Nat → Bool} {ov : Value} {OL : List Z.Pt}
theorem DS.grow (h : DS sb xb W0 g n A M C B D ML f ov OL w) (hb : Below w.heap.size w w') : DS sb xb W0 g n A M C B D ML f ov OL w' :=
  ⟨rowBelow h.s hb h.s.lt, rowBelow h.x hb h.x.lt, h.m.imp fun _ k => k.below hb, ownBelow h.o hb, h.lo, h.bel.trans (hb.mono h.bel.size)⟩
theorem DS.alloc (h : DS sb xb W0 g n A M C B D ML f ov OL w) (o : Obj) : DS sb xb W0 g n A M C B D ML f ov OL (w.alloc o) := h.grow ((Below.refl _ _).alloc (Nat.le_refl _) _)
theorem DS.see (h : DS sb xb W0 g n A M C B D ML f ov OL w) (i : Nat) (hf : ∀ j, j < M → f' j = (f j || i == j)) : DS sb xb W0 g n A M C B D ML f' ov OL (w.setCell ⟨sb, i, none⟩ (.bool true)) :=
  ⟨(h.s.set i _).congr fun j hj => by
    show (if j = i then Value.bool true else .bool (f j)) = .bool (f' j)
    rw [hf j hj]
    by_cases e : j = i
    · subst e; simp
    · rw [if_neg e]; simp [Ne.symm e], h.x.setOther (a := ⟨sb, i, none⟩) (row_ne h.x h.s (by decide)) _, h.m.imp fun _ k => k.setRow h.s (by decide), own_setRow h.o h.s (by decide), h.lo, h.bel.setCell (p := ⟨sb, i, none⟩) h.lo _⟩
theorem DS.congr (h : DS sb xb W0 g n A M C B D ML f ov OL w) (hf : ∀ j, j < M → f' j = f j) : DS sb xb W0 g n A M C B D ML f' ov OL w :=
  ⟨h.s.congr fun j hj => by show Value.bool (f j) = .bool (f' j); rw [hf j hj], h.x, h.m, h.o, h.lo, h.bel⟩
theorem DS.app {p : Z.Pt} {A' : Option Addr} {c' : Nat} (h : DS sb xb W0 g n A M C B D ML f ov OL w) (hown : w'.ownsRow W0.heap.size 33 2 (.slice A' (OL.length + 1) c') (OL.length + 1) (ptsK OL ++ (#[Value.int .i64 p.1, .int .i64 p.2]).toList)) (hg : (w.alloc (.cells #[.int .i64 p.1, .int .i64 p.2] 33)).grownBy w' ov.ownBlock) (hb : Below W0.heap.size w w') : DS sb xb W0 g n A M C B D ML f (.slice A' (OL.length + 1) c') (OL ++ [p]) w' := by
  have h2 := h.alloc (.cells #[.int .i64 p.1, .int .i64 p.2] 33)
  refine ⟨h2.s.of_block (hg.block sb h2.s.lt (row_notOwn h2.s h2.o (by decide))), h2.x.of_block (hg.block xb h2.x.lt (row_notOwn h2.x h2.o (by decide))), h2.m.imp fun _ k => k.grownT h2.o (by decide) hg, ?_, h.lo, h.bel.trans hb⟩
  rw [ptsK_app, List.length_append]
  exact hown
end
/-- Which places are seen behind p points, and of the next one i moves. -/
def seenB (g : Int) (n : Nat) (L : List Mv) (p j : Nat) : Bool := (List.range p).any fun q => firstB g n L (pnt n q) && L.any fun m => rankP n (act g n m (pnt n q)) == j
def seenI (g : Int) (n : Nat) (L : List Mv) (p i j : Nat) : Bool := seenB g n L p j || (L.take i).any fun m => rankP n (act g n m (pnt n p)) == j
def firstsP (g : Int) (n : Nat) (L : List Mv) (p : Nat) : List Z.Pt := ((List.range p).filter fun k => firstB g n L (pnt n k)).map (pnt n)
theorem seenB_succ (g : Int) (n : Nat) (L : List Mv) (p j : Nat) : seenB g n L (p + 1) j = (seenB g n L p j || (firstB g n L (pnt n p) && L.any fun m => rankP n (act g n m (pnt n p)) == j)) := by
  unfold seenB; rw [List.range_succ, List.any_append]; simp
theorem seenI_all {g : Int} {n : Nat} {L : List Mv} {p : Nat} (h : firstB g n L (pnt n p) = true) (j : Nat) : seenB g n L (p + 1) j = seenI g n L p L.length j := by
  rw [seenB_succ, h, Bool.true_and]; unfold seenI; rw [List.take_length]
theorem seenI_succ {g : Int} {n : Nat} {L : List Mv} {p i : Nat} (hi : i < L.length) (j : Nat) : seenI g n L p (i + 1) j = (seenI g n L p i j || rankP n (act g n (L.getD i idm) (pnt n p)) == j) := by
  unfold seenI
  rw [List.take_add_one, List.getElem?_eq_getElem hi, List.any_append, List.getD_eq_getElem?_getD, List.getElem?_eq_getElem hi]
  simp [Bool.or_assoc]
theorem seenB_iff {g : Int} {n : Nat} {L : List Mv} {p : Nat} {col : Z.Pt → Int} (hg : Z.G g) (hn : 0 < n) (hp : Z.Per n col) (h : Z.Grp g n col L) (hk : p < n * n) : seenB g n L p p = !firstB g n L (pnt n p) := by
  have h1 := Z.seen_first hg hn hp h hk
  unfold seenB
  cases hf : firstB g n L (pnt n p) with
  | false =>
    obtain ⟨q, hq, h2, m, hm, h3⟩ := h1.2 hf
    simp only [Bool.not_false]
    rw [List.any_eq_true]
    exact ⟨q, List.mem_range.2 hq, by rw [h2, Bool.true_and, List.any_eq_true]; exact ⟨m, hm, by simpa using h3⟩⟩
  | true =>
    simp only [Bool.not_true]
    rw [List.any_eq_false]
    intro q hq e
    rw [Bool.and_eq_true, List.any_eq_true] at e
    obtain ⟨e1, m, hm, e2⟩ := e
    have := h1.1 ⟨q, List.mem_range.1 hq, e1, m, hm, by simpa using e2⟩
    rw [hf] at this; cases this
theorem firstsP_succ (g : Int) (n : Nat) (L : List Mv) (p : Nat) : firstsP g n L (p + 1) = if firstB g n L (pnt n p) then firstsP g n L p ++ [pnt n p] else firstsP g n L p := by
  unfold firstsP
  rw [List.range_succ, List.filter_append]
  simp only [List.filter_cons, List.filter_nil]
  split <;> simp
theorem firstsP_len (g : Int) (n : Nat) (L : List Mv) (p : Nat) : (firstsP g n L p).length ≤ p := by
  unfold firstsP
  rw [List.length_map]
  exact Nat.le_trans (List.length_filter_le _ _) (by simp)
end Go.Proofs.Ytooilennejakhaa

namespace Go.Proofs.Ytooilennejakhaa
open Go.RowKit
set_option linter.unusedVariables false
set_option linter.unusedSimpArgs false
section
variable {P : Program} {ops : Array Oper} {md : Region.Mode} {Q : Exit → Act → World → Prop}
/-- What has come up: the first i of A, the first j of B. -/
def lstAB (base : Array Bool) (A B : List Nat) (i j : Nat) : Array Bool := (A.take i ++ B.take j).foldl (fun l k => l.setIfInBounds k true) base
/-- The two chains are chains: at each stage just the next ones may come up. -/
def twoB (md : Region.Mode) (ops : Array Oper) (base : Array Bool) (A B : List Nat) : Bool :=
  (List.range (A.length + 1)).all fun i => (List.range (B.length + 1)).all fun j =>
    ((decide (i = A.length) && decide (j = B.length)) || (Region.ready md ops (lstAB base A B i j)).all fun k => (decide (i < A.length) && decide (A[i]? = some k)) || (decide (j < B.length) && decide (B[j]? = some k))) &&
    ((decide (i = A.length) && decide (j = B.length)) || !(Region.ready md ops (lstAB base A B i j)).isEmpty) &&
    (decide (i = A.length) || decide ((lstAB base A B i j).setIfInBounds (A.getD i 0) true = lstAB base A B (i + 1) j)) &&
    (decide (j = B.length) || decide ((lstAB base A B i j).setIfInBounds (B.getD j 0) true = lstAB base A B i (j + 1)))
theorem wpAny_two {base : Array Bool} {A B : List Nat} {g : Nat} (hB : twoB md ops base A B = true) (I : Nat → Nat → Act → World → Prop)
    (hA : ∀ i j a w, i < A.length → j ≤ B.length → I i j a w → wpOp P ops Q (A.getD i 0) (fun a' w' => I (i + 1) j a' w') a w)
    (hB2 : ∀ i j a w, i ≤ A.length → j < B.length → I i j a w → wpOp P ops Q (B.getD j 0) (fun a' w' => I i (j + 1) a' w') a w)
    (hend : ∀ a w, I A.length B.length a w → wpAny P md ops Q g (lstAB base A B A.length B.length) a w) (f : Nat) :
    ∀ i j a w, (A.length - i) + (B.length - j) = f → i ≤ A.length → j ≤ B.length → I i j a w → wpAny P md ops Q (f + g) (lstAB base A B i j) a w := by
  induction f with
  | zero =>
    intro i j a w hf hi hj h
    obtain rfl : i = A.length := by omega
    obtain rfl : j = B.length := by omega
    rw [Nat.zero_add]
    exact hend a w h
  | succ f ih =>
    intro i j a w hf hi hj h
    unfold twoB at hB
    have h1 := List.all_eq_true.1 (List.all_eq_true.1 hB i (List.mem_range.2 (by omega))) j (List.mem_range.2 (by omega))
    simp only [Bool.and_eq_true, Bool.or_eq_true, decide_eq_true_eq] at h1
    obtain ⟨⟨⟨c1, c2⟩, c3⟩, c4⟩ := h1
    have hne : ¬ (i = A.length ∧ j = B.length) := by omega
    have c1' := List.all_eq_true.1 (c1.resolve_left hne)
    have c2' := c2.resolve_left hne
    rw [show f + 1 + g = (f + g) + 1 by omega]
    refine ⟨fun h0 => by rw [h0] at c2'; simp at c2', fun k hk => ?_⟩
    have hk2 := c1' k hk
    simp only [Bool.and_eq_true, Bool.or_eq_true, decide_eq_true_eq] at hk2
    rcases hk2 with ⟨hlt, e⟩ | ⟨hlt, e⟩
    · have hg : A.getD i 0 = k := by rw [List.getD_eq_getElem?_getD, e]; rfl
      have c3' := c3.resolve_left (by omega)
      rw [hg] at c3'
      have h2 := hA i j a w hlt hj h
      rw [hg] at h2
      refine wpOp_mono (fun a' w' h' => ?_) h2
      rw [c3']
      exact ih (i + 1) j a' w' (by omega) (by omega) hj h'
    · have hg : B.getD j 0 = k := by rw [List.getD_eq_getElem?_getD, e]; rfl
      have c4' := c4.resolve_left (by omega)
      rw [hg] at c4'
      have h2 := hB2 i j a w hi hlt h
      rw [hg] at h2
      refine wpOp_mono (fun a' w' h' => ?_) h2
      rw [c4']
      exact ih i (j + 1) a' w' (by omega) hi (by omega) h'
end
end Go.Proofs.Ytooilennejakhaa

namespace Go.Proofs.Ytooilennejakhaa
open Go.RowKit
set_option linter.unusedVariables false
set_option linter.unusedSimpArgs false
section
variable {P : Program} {ops : Array Oper} {Q : Exit → Act → World → Prop} {K : Act → World → Prop} {a : Act} {w : World}
def onNormal (K : Act → World → Prop) (Q : Exit → Act → World → Prop) : Exit → Act → World → Prop
  | .normal => K
  | e => Q e
theorem wpOp_go {i : Nat} {o : Oper} (hi : ops[i]? = some o) (hg : o.guard = none) (h : ∀ K' : Act → World → Prop, (∀ a w, K a w → K' a w) → o.wp P a w K' Q) : wpOp P ops Q i K a w := by
  unfold wpOp
  simp only [hi, Region.wanted, hg, if_true]
  exact .inl (h K fun _ _ h => h)
theorem upon_onNormal {o : Oper} {r : Result Next} (h : o.upon P a K (onNormal K Q) r) : o.upon P a K Q r := by
  cases r with
  | ok n w' =>
    cases n with
    | enter f args => exact Calls.mono h fun e w'' he => by cases e <;> exact he
    | _ => exact h
  | halt x w' => cases x <;> exact h
theorem wpOp_list {i : Nat} {o : Oper} (hi : ops[i]? = some o) (hg : o.guard = none) (h : wpList P ops (onNormal K Q) [o] a w) : wpOp P ops Q i K a w := by
  unfold wpOp
  simp only [hi, Region.wanted, hg, if_true]
  unfold wpList at h
  simp only [Region.wanted, hg, if_true] at h
  rcases h with h | ⟨h1, h2⟩
  · exact .inl (upon_onNormal h)
  · exact .inr ⟨h1, h2⟩
end
end Go.Proofs.Ytooilennejakhaa
