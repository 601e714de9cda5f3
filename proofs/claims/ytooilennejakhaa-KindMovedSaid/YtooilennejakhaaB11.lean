/- Lemmas and contracts of functions (what each call returns, and that it changes nothing that was there) that the proof of a law of this seat uses; each lemma states its own conditions. -/
import Derived.Test.YtooilennejakhaaB10
import Derived.Test.YtooilennejakhaaB08
import Derived.IntWalk
import Derived.CallsIn
import Derived.OrdersIn
import Derived.TacticsIn
namespace Go.Proofs.Ytooilennejakhaa
open Go.RowKit
set_option linter.unusedVariables false
set_option linter.unusedSimpArgs false
open Go.Shelf
attribute [local go_sem] Oper.semAt_some
/-- What holds in the product when these rows are done, and of row y these of the middle, and of the next one (k) the first x. -/
def pC (H M W : Nat) (aa bb : List Bool) (pre : List (Fin H)) (y : Nat) (pre2 : List (Fin M)) (k x : Nat) (p : Nat) : Bool :=
  (decide (p / W ∈ pre.map Fin.val) && mulB M W aa bb (p / W) (p % W)) ||
  (decide (p / W = y) && ((pre2.any fun k' => aa.getD (p / W * M + k'.val) false && bb.getD (k'.val * W + p % W) false) || (decide (p % W < x) && (aa.getD (p / W * M + k) false && bb.getD (k * W + p % W) false))))
section
variable {H M W : Nat} {aa bb : List Bool} {pre : List (Fin H)} {y : Nat} {pre2 : List (Fin M)} {k x p : Nat}
theorem pC_zero : pC H M W aa bb pre y [] 0 0 p = pC H M W aa bb pre 0 [] 0 0 p := by unfold pC; simp
theorem pC_x0 : pC H M W aa bb pre y pre2 k 0 p = pC H M W aa bb pre y pre2 0 0 p := by unfold pC; simp
theorem pC_row (k : Fin M) (hW : 0 < W) : pC H M W aa bb pre y pre2 k W p = pC H M W aa bb pre y (pre2 ++ [k]) 0 0 p := by
  unfold pC
  have : p % W < W := Nat.mod_lt _ hW
  simp [this, List.any_append]
theorem any_fin (f : Nat → Bool) : ((List.finRange M).any fun k => f k.val) = (List.range M).any f := by
  rw [Bool.eq_iff_iff]
  simp only [List.any_eq_true, List.mem_finRange, true_and, List.mem_range]
  exact ⟨fun ⟨k, h⟩ => ⟨k.val, k.isLt, h⟩, fun ⟨k, hk, h⟩ => ⟨⟨k, hk⟩, h⟩⟩
theorem pC_outer (y : Fin H) : pC H M W aa bb pre y (List.finRange M) 0 0 p = pC H M W aa bb (pre ++ [y]) 0 [] 0 0 p := by
  unfold pC
  rw [any_fin (M := M) (fun k' => aa.getD (p / W * M + k') false && bb.getD (k' * W + p % W) false)]
  simp only [List.map_append, List.mem_append, List.map_cons, List.map_nil, List.mem_singleton]
  unfold mulB
  by_cases h1 : p / W ∈ pre.map Fin.val <;> by_cases h2 : p / W = y.val <;> simp [h1, h2]
  all_goals (intros; simp_all)
theorem pC_step (hW : 0 < W) (hx : x < W) (hp : p ≠ y * W + x ∨ (aa.getD (y * M + k) false && bb.getD (k * W + x) false) = false) : pC H M W aa bb pre y pre2 k (x+1) p = pC H M W aa bb pre y pre2 k x p := by
  unfold pC
  by_cases e : p / W = y
  · by_cases ex : p % W = x
    · have hpe : p = y * W + x := by
        have := Nat.div_add_mod p W
        rw [e, ex, Nat.mul_comm] at this; omega
      rcases hp with hp | hp
      · exact absurd hpe hp
      · rw [e, ex, hp]; simp
    · have : (p % W < x + 1) ↔ (p % W < x) := by omega
      simp [this]
  · simp [e]
theorem pC_new (hW : 0 < W) (hx : x < W) (h : (aa.getD (y * M + k) false && bb.getD (k * W + x) false) = true) : pC H M W aa bb pre y pre2 k (x+1) (y * W + x) = true := by
  unfold pC
  have h1 : (y * W + x) / W = y := by rw [Nat.mul_comm, Nat.mul_add_div hW, Nat.div_eq_of_lt hx]; omega
  have h2 : (y * W + x) % W = x := by rw [Nat.mul_comm, Nat.mul_add_mod, Nat.mod_eq_of_lt hx]
  rw [h1, h2, h]; simp
theorem pC_all (hp : p < W * H) : pC H M W aa bb (List.finRange H) 0 [] 0 0 p = (prodL H M W aa bb).getD p false := by
  have hW : 0 < W := by rcases Nat.eq_zero_or_pos W with h | h; · subst h; simp at hp
                        · exact h
  have hd : p / W < H := Nat.div_lt_of_lt_mul hp
  have h1 : p / W ∈ (List.finRange H).map Fin.val := by
    rw [List.mem_map]; exact ⟨⟨p / W, hd⟩, List.mem_finRange _, rfl⟩
  have e : (prodL H M W aa bb).getD p false = mulB M W aa bb (p / W) (p % W) := by
    unfold prodL
    rw [List.getD_eq_getElem?_getD, List.getElem?_map, List.getElem?_range hp]; rfl
  rw [e]
  unfold pC
  rw [decide_eq_true h1]; simp
end
theorem grownBy_setCellAt (W : World) (b i : Nat) (v : Value) : W.grownBy (W.setCell ⟨b, i, none⟩ v) (some b) :=
  ⟨rfl, rfl, rfl, (KeepsWalks.setCell W _ v).size, fun k _ hk => Below.heap_setCell _ _ _ k (fun e => hk (by rw [e]))⟩
section
variable {w : World} {qb ob g ta rb M H W n1 n2 n : Nat} {a1 : Option Addr} {c1 : Nat} {a2 : Option Addr} {c2 : Nat} {f f' : Nat → Bool} {A B : World}
end
def ProductPost (H M W : Nat) (aa bb : List Bool) (w : World) (r : Ending) (w' : World) : Prop :=
  ∃ g, r = .returned (.tuple #[.agg #[.int .i64 (W), .int .i64 (H), .slice (some ⟨g, 0, none⟩) (W*H) (W*H)], .int .i64 (0)]) ∧ OkT w' (some ⟨g, 0, none⟩) (W*H) (W*H) (prodL H M W aa bb) ∧ Below w.heap.size w w'
end Go.Proofs.Ytooilennejakhaa

namespace Go.Proofs.Ytooilennejakhaa
open Go.RowKit
set_option linter.unusedVariables false
set_option linter.unusedSimpArgs false
theorem getD_map_range {n p : Nat} (f : Nat → Bool) (hp : p < n) : ((List.range n).map f).getD p false = f p := by
  rw [List.getD_eq_getElem?_getD, List.getElem?_map, List.getElem?_range hp]; rfl
theorem turnL_get {W H x y : Nat} {bs : List Bool} (hx : x < W) (hy : y < H) : (turnL W H bs).getD (x * H + y) false = bs.getD (y * W + x) false := by
  unfold turnL
  have hlt : x * H + y < W * H := by
    have : (x + 1) * H ≤ W * H := Nat.mul_le_mul_right H hx
    rw [Nat.add_mul, Nat.one_mul] at this; omega
  rw [getD_map_range _ hlt]
  have h1 : (x * H + y) % H = y := by rw [Nat.mul_comm, Nat.mul_add_mod, Nat.mod_eq_of_lt hy]
  have h2 : (x * H + y) / H = x := by rw [Nat.mul_comm, Nat.mul_add_div (by omega), Nat.div_eq_of_lt hy]; omega
  rw [h1, h2]
theorem prodL_get {H M W X Y : Nat} {aa bb : List Bool} (hx : X < W) (hy : Y < H) : (prodL H M W aa bb).getD (Y * W + X) false = mulB M W aa bb Y X := by
  unfold prodL
  have hlt : Y * W + X < W * H := by
    have : (Y + 1) * W ≤ H * W := Nat.mul_le_mul_right W hy
    rw [Nat.add_mul, Nat.one_mul, Nat.mul_comm H W] at this; omega
  rw [getD_map_range _ hlt]
  have h1 : (Y * W + X) % W = X := by rw [Nat.mul_comm, Nat.mul_add_mod, Nat.mod_eq_of_lt hx]
  have h2 : (Y * W + X) / W = Y := by rw [Nat.mul_comm, Nat.mul_add_div (by omega), Nat.div_eq_of_lt hx]; omega
  rw [h1, h2]
/-- Two lists of H rows of W are one if they are so place by place. -/
theorem grid_ext {W H : Nat} {l m : List Bool} (h1 : l.length = W * H) (h2 : m.length = W * H) (h : ∀ y x, y < H → x < W → l.getD (y * W + x) false = m.getD (y * W + x) false) : l = m := by
  apply List.ext_getElem (by omega)
  intro p hp hp2
  have hW : 0 < W := by rcases Nat.eq_zero_or_pos W with e | e
                        · subst e; simp at h1; omega
                        · exact e
  have := h (p / W) (p % W) (Nat.div_lt_of_lt_mul (by omega)) (Nat.mod_lt _ hW)
  have e : p / W * W + p % W = p := by rw [Nat.mul_comm]; exact Nat.div_add_mod p W
  rw [e, List.getD_eq_getElem?_getD, List.getD_eq_getElem?_getD, List.getElem?_eq_getElem hp, List.getElem?_eq_getElem hp2] at this
  simpa using this
theorem turn_turn {W H : Nat} {bs : List Bool} (h : bs.length = W * H) : turnL H W (turnL W H bs) = bs := by
  refine grid_ext (W := W) (H := H) (by rw [turnL_len, Nat.mul_comm]) h fun y x hy hx => ?_
  rw [turnL_get hy hx, turnL_get hx hy]
theorem turn_prod {H M W : Nat} {aa bb : List Bool} : prodL W M H (turnL W M bb) (turnL M H aa) = turnL W H (prodL H M W aa bb) := by
  refine grid_ext (W := H) (H := W) (by rw [prodL_len]) (by rw [turnL_len, Nat.mul_comm]) fun x y hx hy => ?_
  rw [prodL_get hy hx, turnL_get hx hy, prodL_get hx hy]
  unfold mulB
  rw [Bool.eq_iff_iff]
  simp only [List.any_eq_true, List.mem_range]
  constructor
  · rintro ⟨k, hk, h⟩
    refine ⟨k, hk, ?_⟩
    rw [turnL_get hx hk, turnL_get hk hy] at h
    rw [Bool.and_comm]; exact h
  · rintro ⟨k, hk, h⟩
    refine ⟨k, hk, ?_⟩
    rw [turnL_get hx hk, turnL_get hk hy, Bool.and_comm]; exact h
theorem prod_assoc {H M W X : Nat} {aa bb cc : List Bool} : prodL H W X (prodL H M W aa bb) cc = prodL H M X aa (prodL M W X bb cc) := by
  refine grid_ext (W := X) (H := H) (by rw [prodL_len]) (by rw [prodL_len]) fun y x hy hx => ?_
  rw [prodL_get hx hy, prodL_get hx hy]
  unfold mulB
  rw [Bool.eq_iff_iff]
  simp only [List.any_eq_true, List.mem_range, Bool.and_eq_true]
  constructor
  · rintro ⟨k, hk, h1, h2⟩
    rw [prodL_get hk hy] at h1
    unfold mulB at h1
    simp only [List.any_eq_true, List.mem_range, Bool.and_eq_true] at h1
    obtain ⟨m, hm, h3, h4⟩ := h1
    refine ⟨m, hm, h3, ?_⟩
    rw [prodL_get hx hm]
    unfold mulB
    simp only [List.any_eq_true, List.mem_range, Bool.and_eq_true]
    exact ⟨k, hk, h4, h2⟩
  · rintro ⟨m, hm, h1, h2⟩
    rw [prodL_get hx hm] at h2
    unfold mulB at h2
    simp only [List.any_eq_true, List.mem_range, Bool.and_eq_true] at h2
    obtain ⟨k, hk, h3, h4⟩ := h2
    refine ⟨k, hk, ?_, h4⟩
    rw [prodL_get hk hy]
    unfold mulB
    simp only [List.any_eq_true, List.mem_range, Bool.and_eq_true]
    exact ⟨m, hm, h1, h3⟩
/-- What a call on right truths hands back. -/
def TPost (W H n : Nat) (bs : List Bool) (w : World) (r : Ending) (w' : World) : Prop :=
  ∃ g, r = .returned (.tuple #[.agg #[.int .i64 (W), .int .i64 (H), .slice (some ⟨g, 0, none⟩) n n], .int .i64 (0)]) ∧ OkT w' (some ⟨g, 0, none⟩) n n bs ∧ Below w.heap.size w w'
end Go.Proofs.Ytooilennejakhaa

namespace Go.Proofs.Ytooilennejakhaa
open Go.RowKit
set_option linter.unusedVariables false
set_option linter.unusedSimpArgs false
theorem eq_of_getD {α : Type} {d : α} {l m : List α} {n : Nat} (h1 : l.length = n) (h2 : m.length = n) (h : ∀ j, j < n → l.getD j d = m.getD j d) : l = m := by
  apply List.ext_getElem (by omega)
  intro i hi hi2
  have := h i (by omega)
  rw [List.getD_eq_getElem?_getD, List.getD_eq_getElem?_getD, List.getElem?_eq_getElem hi, List.getElem?_eq_getElem hi2] at this
  simpa using this
end Go.Proofs.Ytooilennejakhaa

namespace Go.Proofs.Ytooilennejakhaa
open Go.RowKit
set_option linter.unusedVariables false
set_option linter.unusedSimpArgs false
/-- Slices of truths, each of W. -/
structure RowsAt (w : World) (a : Option Addr) (n W : Nat) (rs : List (List Bool)) : Prop where
  len : rs.length = n
  rows : 0 < n → ∃ b o, a = some ⟨b, o, none⟩ ∧ b < w.heap.size ∧ ∀ j, j < n → ∃ A c, w.cell? ⟨b, o + j, none⟩ = some (.slice A W c) ∧ IsBools w A W (rs.getD j [])
theorem RowsAt.below {w w' : World} {a : Option Addr} {n W : Nat} {rs : List (List Bool)} (h : RowsAt w a n W rs) (hb : Below w.heap.size w w') : RowsAt w' a n W rs := by
  refine ⟨h.len, fun hn => ?_⟩
  obtain ⟨b, o, h1, h2, h3⟩ := h.rows hn
  refine ⟨b, o, h1, Nat.lt_of_lt_of_le h2 hb.size, fun j hj => ?_⟩
  obtain ⟨A, c, h4, h5⟩ := h3 j hj
  exact ⟨A, c, bCs hb h4, h5.below hb⟩
/-- The first place at which a row stands; their number, if it is none of them. -/
def fIdx (rs : List (List Bool)) (r : List Bool) : Nat := rs.findIdx fun l => decide (l = r)
theorem fIdx_at {rs : List (List Bool)} {r : List Bool} {k : Nat} (hk : k < rs.length) (h1 : ∀ j, j < k → rs.getD j [] ≠ r) (h2 : rs.getD k [] = r) : fIdx rs r = k := by
  unfold fIdx
  rw [List.findIdx_eq hk]
  refine ⟨?_, fun j hj => ?_⟩
  · rw [List.getD_eq_getElem?_getD, List.getElem?_eq_getElem hk] at h2
    simpa using h2
  · have := h1 j hj
    rw [List.getD_eq_getElem?_getD, List.getElem?_eq_getElem (by omega)] at this
    simpa using this
theorem fIdx_none {rs : List (List Bool)} {r : List Bool} (h1 : ∀ j, j < rs.length → rs.getD j [] ≠ r) : fIdx rs r = rs.length := by
  unfold fIdx
  rw [List.findIdx_eq_length]
  intro x hx
  obtain ⟨j, hj, rfl⟩ := List.getElem_of_mem hx
  have := h1 j hj
  rw [List.getD_eq_getElem?_getD, List.getElem?_eq_getElem hj] at this
  simpa using this
/-- What Go's search tells. -/
def idxV (n i : Nat) : Int := if i < n then i else -1
theorem fIdx_le (rs : List (List Bool)) (r : List Bool) : fIdx rs r ≤ rs.length := List.findIdx_le_length
end Go.Proofs.Ytooilennejakhaa

namespace Go.Proofs.Ytooilennejakhaa
open Go.RowKit
set_option linter.unusedVariables false
set_option linter.unusedSimpArgs false
section
variable {P : Program} {n l : Nat}
theorem wpIn_of_wp {o : Oper} {a : Act} {w : World} {K : Act → World → Prop} {Q : Exit → Act → World → Prop} (hd : ∀ c, o.op ≠ .defer c) (h : o.wp P a w K Q) : o.wpIn (Fence.wide.inRound l) n P a w K Q := by
  refine ⟨fun _ _ => trivial, ?_⟩
  have e : (o.semAt (Fence.wide.inRound l).round a.eval) = execOp a.eval o := Oper.semAt_some l a.eval o hd
  rw [e]
  unfold Oper.wp at h
  generalize (execOp a.eval o).run P w = r at *
  cases r with
  | ok x w' =>
    cases x <;> simp only [Oper.upon, Oper.uponIn] at h ⊢
    all_goals first
      | exact h
      | exact h.elim
      | exact ⟨(fun hh => by cases hh), callsIn_wide.2 h⟩
      | (refine ⟨(fun hh => by cases hh), fun c cs _ => ?_⟩; obtain ⟨v, w'', hr, hs⟩ := h c cs; exact ⟨v, w'', hr, stepsIn_wide.2 hs⟩)
  | halt x w' => cases x <;> exact h
theorem wpAnyIn_of_wpAny {md : Region.Mode} {ops : Array Oper} {Q : Exit → Act → World → Prop} (hd : ∀ (i : Nat) (o : Oper), ops[i]? = some o → ∀ c, o.op ≠ .defer c) (hQ : ∀ a w, ¬ Q .outgrown a w) (f : Nat) :
    ∀ (listed : Array Bool) (a : Act) (w : World), wpAny P md ops Q f listed a w → wpAnyIn (Fence.wide.inRound l) n P md ops Q f listed a w := by
  induction f with
  | zero => intro listed a w h; exact h
  | succ f ih =>
    intro listed a w h
    refine ⟨h.1, fun i hi => ?_⟩
    have h2 := h.2 i hi
    unfold wpOp at h2
    unfold wpOpIn
    cases ho : ops[i]? with
    | none => rw [ho] at h2; exact ih _ _ _ h2
    | some o =>
      rw [ho] at h2
      simp only at h2 ⊢
      by_cases hw : Region.wanted o (yielded ops a.tmps) = true
      · rw [if_pos hw] at h2 ⊢
        rcases h2 with h2 | ⟨_, a0, w0, hq⟩
        · exact Oper.wpIn_mono (fun a' w' hk => ih _ _ _ hk) (wpIn_of_wp (hd i o ho) h2)
        · exact absurd hq (hQ _ _)
      · rw [if_neg hw] at h2 ⊢
        exact ⟨fun _ _ => trivial, ih _ _ _ h2⟩
theorem region_inRound {id : Nat} {ops : Array Oper} {Q : Exit → Act → World → Prop} {a : Act} {w : World} (hm : P.follows .mixedOrders = true) (hd : ops.all (fun o => match o.op with | .defer _ => false | _ => true) = true) (hQ : ∀ a w, ¬ Q .outgrown a w)
    (h : wpAny P .any ops Q ops.size (Array.replicate ops.size false) a { w with drawn := w.drawn + 1 }) : (Code.region id ops true).wpIn (Fence.wide.inRound l) n P Q a w := by
  refine wpIn_region_any hm (wpAnyIn_of_wpAny (fun i o ho c e => ?_) hQ _ _ _ _ h)
  rw [Array.all_eq_true'] at hd
  have := hd o (Array.mem_of_getElem? ho)
  rw [e] at this
  cases this
end
end Go.Proofs.Ytooilennejakhaa

namespace Go.Proofs.Ytooilennejakhaa
open Go.RowKit
set_option linter.unusedVariables false
set_option linter.unusedSimpArgs false
open Go.Shelf
def aStep (H W : Nat) (bs : List Bool) (st : List (Fin H) × List Nat) (y : Fin H) : List (Fin H) × List Nat :=
  (if fIdx (st.1.map fun z => rowL bs W z.val) (rowL bs W y.val) < st.1.length then st.1 else st.1 ++ [y], st.2 ++ [fIdx (st.1.map fun z => rowL bs W z.val) (rowL bs W y.val)])
def aFold (H W : Nat) (bs : List Bool) (pre : List (Fin H)) : List (Fin H) × List Nat := pre.foldl (aStep H W bs) ([], [])
theorem aFold_snoc (H W : Nat) (bs : List Bool) (pre : List (Fin H)) (y : Fin H) : aFold H W bs (pre ++ [y]) = aStep H W bs (aFold H W bs pre) y := by simp [aFold]
theorem aFold_len' (H W : Nat) (bs : List Bool) (l : List (Fin H)) : ∀ st : List (Fin H) × List Nat, (l.foldl (aStep H W bs) st).2.length = st.2.length + l.length ∧ (l.foldl (aStep H W bs) st).1.length ≤ st.1.length + l.length := by
  induction l with
  | nil => intro st; simp
  | cons y l ih =>
    intro st
    have h := ih (aStep H W bs st y)
    have h1 : (aStep H W bs st y).2.length = st.2.length + 1 := by simp [aStep]
    have h2 : (aStep H W bs st y).1.length ≤ st.1.length + 1 := by unfold aStep; simp only; split <;> simp
    simp only [List.foldl_cons, List.length_cons]
    omega
theorem aFold_len (H W : Nat) (bs : List Bool) (pre : List (Fin H)) : (aFold H W bs pre).2.length = pre.length ∧ (aFold H W bs pre).1.length ≤ pre.length := by
  have := aFold_len' H W bs pre ([], [])
  simpa [aFold] using this
/-- The numbers of the rows. -/
def alikeL (W H : Nat) (bs : List Bool) : List Nat := (aFold H W bs (List.finRange H)).2
theorem alikeL_len (W H : Nat) (bs : List Bool) : (alikeL W H bs).length = H := by unfold alikeL; rw [(aFold_len _ _ _ _).1]; simp
def IntsPost (L : List Nat) (w : World) (r : Ending) (w' : World) : Prop :=
  ∃ A c, r = .returned (.tuple #[.slice A L.length c, .int .i64 (0)]) ∧ IsInts w' A L.length (natI L) ∧ Below w.heap.size w w'
/-- 'append(s, x)' of one element within a round. -/
theorem wpAppIn {l N : Nat} {W : World} {ops : Array Oper} {rest : List Oper} {o : Oper} {a : Act} {Q : Exit → Act → World → Prop} {t e size bytes : Nat} {z : Value} (hE : ElemOk t e size bytes z)
    (hgd : o.guard = none) (s x : Operand) (ho : o.op = .call { callee := .builtin .append, args := #[s, x], argTypes := #[t, t] })
    (base : Nat) (v : Value) (n : Nat) (xs : List Value) (cs : Array Value) (hs : a.eval s = v) (hown : W.ownsRow base e size v n xs)
    (hx : a.eval x = .slice (some ⟨W.heap.size, 0, none⟩) 1 1) (hl : cs.size = size) (h1 : ∀ u ∈ cs.toList, u.oneCell' = true)
    (hb : bytes ≤ 4096) (hn : n ≤ 1000000000) (hbase : base ≤ W.heap.size)
    (h : ∀ v' w', w'.ownsRow base e size v' (n + 1) (xs ++ cs.toList) → (W.alloc (.cells cs e)).grownBy w' v.ownBlock → wpListIn (Fence.wide.inRound l) N Try.prog ops Q rest (a.put o.dst v') w') : wpListIn (Fence.wide.inRound l) N Try.prog ops Q (o :: rest) a (W.alloc (.cells cs e)) := by
  obtain ⟨h2, h3, h4, h5⟩ := hE
  obtain ⟨i0, hi, hz0, hz1, hz2⟩ := info_parts h3
  have hw : Region.wanted o (yielded ops a.tmps) = true := by simp [Region.wanted, hgd]
  simp only [wpListIn, hw, if_true]
  refine wpIn_of_wp (fun c e => by rw [ho] at e; cases e) ?_
  refine wp_append_own _ s x t ho base e i0 z size bytes h2 hi hz0 hz1 hz2 h4 h5 v n xs hs (hown.alloc _) ⟨W.heap.size, 0, none⟩ 1 1 cs.toList hx (by simpa using hl) ?_ h1 (by unfold maxLen; omega) ?_ (by simp; omega) ?_
  · intro j u hj
    have : (⟨W.heap.size, 0, none⟩ : Addr).add j = ⟨W.heap.size, j, none⟩ := by rw [Addr.add_lit]; simp
    rw [this, World.cell?_alloc_new]
    simpa using hj
  · calc (n + 1) * bytes ≤ 1000000001 * 4096 := Nat.mul_le_mul (by omega) hb
      _ ≤ 140737488355328 := by omega
  · intro v' w' hown' hg _
    exact h v' w' hown' hg
/-- 'append(s, x)' of one element, which lies in block B. -/
theorem wpAppBg {W : World} {ops : Array Oper} {rest : List Oper} {o : Oper} {a : Act} {Q : Exit → Act → World → Prop} {t e size bytes : Nat} {z : Value} (hE : ElemOk t e size bytes z)
    (hgd : o.guard = none) (s x : Operand) (ho : o.op = .call { callee := .builtin .append, args := #[s, x], argTypes := #[t, t] })
    (base : Nat) (v : Value) (n : Nat) (xs : List Value) (cs : Array Value) (B : Nat) (hs : a.eval s = v) (hown : W.ownsRow base e size v n xs)
    (hx : a.eval x = .slice (some ⟨B, 0, none⟩) 1 1) (hcs : ∀ j u, cs[j]? = some u → W.cell? ⟨B, j, none⟩ = some u) (hl : cs.size = size) (h1 : ∀ u ∈ cs.toList, u.oneCell' = true)
    (hb : bytes ≤ 4096) (hn : n ≤ 1000000000) (hbase : base ≤ W.heap.size)
    (h : ∀ v' w', w'.ownsRow base e size v' (n + 1) (xs ++ cs.toList) → W.grownBy w' v.ownBlock → wpList Try.prog ops Q rest (a.put o.dst v') w') : wpList Try.prog ops Q (o :: rest) a W := by
  obtain ⟨h2, h3, h4, h5⟩ := hE
  obtain ⟨i0, hi, hz0, hz1, hz2⟩ := info_parts h3
  refine wpList_append_own _ hgd s x t ho base e i0 z size bytes h2 hi hz0 hz1 hz2 h4 h5 v n xs hs hown ⟨B, 0, none⟩ 1 1 cs.toList hx (by simpa using hl) ?_ h1 (by unfold maxLen; omega) ?_ hbase ?_
  · intro j u hj
    have : (⟨B, 0, none⟩ : Addr).add j = ⟨B, j, none⟩ := by rw [Addr.add_lit]; simp
    rw [this]
    exact hcs j u (by simpa using hj)
  · calc (n + 1) * bytes ≤ 1000000001 * 4096 := Nat.mul_le_mul (by omega) hb
      _ ≤ 140737488355328 := by omega
  · intro v' w' hown' hg _
    exact h v' w' hown' hg
theorem opApp {W : World} {o : Oper} {a : Act} {K : Act → World → Prop} {Q : Exit → Act → World → Prop} {t e size bytes : Nat} {z : Value} (hE : ElemOk t e size bytes z)
    (s x : Operand) (ho : o.op = .call { callee := .builtin .append, args := #[s, x], argTypes := #[t, t] })
    (base : Nat) (v : Value) (n : Nat) (xs : List Value) (cs : Array Value) (B : Nat) (hs : a.eval s = v) (hown : W.ownsRow base e size v n xs)
    (hx : a.eval x = .slice (some ⟨B, 0, none⟩) 1 1) (hcs : ∀ j u, cs[j]? = some u → W.cell? ⟨B, j, none⟩ = some u) (hl : cs.size = size) (h1 : ∀ u ∈ cs.toList, u.oneCell' = true)
    (hb : bytes ≤ 4096) (hn : n ≤ 1000000000) (hbase : base ≤ W.heap.size)
    (h : ∀ v' w', w'.ownsRow base e size v' (n + 1) (xs ++ cs.toList) → W.grownBy w' v.ownBlock → K (a.put o.dst v') w') : o.wp Try.prog a W K Q := by
  obtain ⟨h2, h3, h4, h5⟩ := hE
  obtain ⟨i0, hi, hz0, hz1, hz2⟩ := info_parts h3
  refine wp_append_own _ s x t ho base e i0 z size bytes h2 hi hz0 hz1 hz2 h4 h5 v n xs hs hown ⟨B, 0, none⟩ 1 1 cs.toList hx (by simpa using hl) ?_ h1 (by unfold maxLen; omega) ?_ hbase ?_
  · intro j u hj
    have : (⟨B, 0, none⟩ : Addr).add j = ⟨B, j, none⟩ := by rw [Addr.add_lit]; simp
    rw [this]
    exact hcs j u (by simpa using hj)
  · calc (n + 1) * bytes ≤ 1000000001 * 4096 := Nat.mul_le_mul (by omega) hb
      _ ≤ 140737488355328 := by omega
  · intro v' w' hown' hg _
    exact h v' w' hown' hg
/-- Own rows of cells of two types do not meet. -/
theorem own_ne {W : World} {b1 b2 e1 e2 s1 s2 n1 n2 : Nat} {v1 v2 : Value} {x1 x2 : List Value} (h1 : W.ownsRow b1 e1 s1 v1 n1 x1) (h2 : W.ownsRow b2 e2 s2 v2 n2 x2) (he : e1 ≠ e2) : v1 = .slice none 0 0 ∨ v1.ownBlock ≠ v2.ownBlock := by
  rcases h1.2 with ⟨rfl, _⟩ | ⟨g, cap, cur, rfl, _, hg, _⟩
  · exact .inl rfl
  · refine .inr fun e => ?_
    rcases h2.2 with ⟨rfl, _⟩ | ⟨g', cap', cur', rfl, _, hg', _⟩
    · simp [Value.ownBlock] at e
    · have e' : g = g' := by simpa [Value.ownBlock] using e
      subst e'
      rw [hg] at hg'
      injection hg' with hg'
      injection hg' with _ h5
      exact he h5
end Go.Proofs.Ytooilennejakhaa
