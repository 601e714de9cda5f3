/- Lemmas and contracts of functions (what each call returns, and that it changes nothing that was there) that the proof of a law of this seat uses; each lemma states its own conditions. -/
import Derived.Test.YtdaacjaibfcacaaB09
namespace Go.Proofs.Ytdaacjaibfcacaa
open Go.RowKit
set_option linter.unusedVariables false
set_option linter.unusedSimpArgs false
open Go.Shelf
attribute [local go_sem] Oper.semAt_some
/-- What has been turned when these rows, and of row y the first x, are done. -/
def tC (W H : Nat) (bs : List Bool) (pre : List (Fin H)) (y x : Nat) (p : Nat) : Bool :=
  (decide (p % H ∈ pre.map Fin.val) || (decide (p % H = y) && decide (p / H < x))) && bs.getD ((p % H) * W + p / H) false
theorem tC_step {W H : Nat} {bs : List Bool} {pre : List (Fin H)} {y x p : Nat} (hy : y < H) (hp : p ≠ x * H + y) : tC W H bs pre y (x+1) p = tC W H bs pre y x p := by
  unfold tC
  by_cases e : p % H = y
  · have hx : p / H ≠ x := by
      intro hx
      apply hp
      have := Nat.div_add_mod p H
      rw [e, hx, Nat.mul_comm] at this
      omega
    have : (p / H < x + 1) ↔ (p / H < x) := by omega
    simp [this]
  · simp [e]
theorem tC_new {W H : Nat} {bs : List Bool} {pre : List (Fin H)} {y x : Nat} (hy : y < H) : tC W H bs pre y (x+1) (x * H + y) = bs.getD (y * W + x) false := by
  unfold tC
  have h1 : (x * H + y) % H = y := by rw [Nat.mul_comm, Nat.mul_add_mod, Nat.mod_eq_of_lt hy]
  have h2 : (x * H + y) / H = x := by rw [Nat.mul_comm, Nat.mul_add_div (by omega), Nat.div_eq_of_lt hy]; omega
  rw [h1, h2]; simp
theorem tC_row {W H : Nat} {bs : List Bool} {pre : List (Fin H)} {y : Fin H} {p : Nat} (hp : p < W * H) : tC W H bs pre y W p = tC W H bs (pre ++ [y]) 0 0 p := by
  unfold tC
  have h : p / H < W := Nat.div_lt_of_lt_mul (by rw [Nat.mul_comm]; exact hp)
  simp [h, List.mem_append]
theorem tC_zero {W H : Nat} {bs : List Bool} {pre : List (Fin H)} {y p : Nat} : tC W H bs pre y 0 p = tC W H bs pre 0 0 p := by
  unfold tC; simp
theorem tC_all {W H : Nat} {bs : List Bool} {p : Nat} (hp : p < W * H) : tC W H bs (List.finRange H) 0 0 p = (turnL W H bs).getD p false := by
  have hH : 0 < H := by rcases Nat.eq_zero_or_pos H with h | h; · subst h; simp at hp
                        · exact h
  unfold tC turnL
  have h1 : p % H ∈ (List.finRange H).map Fin.val := by
    rw [List.mem_map]; exact ⟨⟨p % H, Nat.mod_lt _ hH⟩, List.mem_finRange _, rfl⟩
  have e : ((List.range (W * H)).map fun p => bs.getD ((p % H) * W + p / H) false).getD p false = bs.getD ((p % H) * W + p / H) false := by
    rw [List.getD_eq_getElem?_getD, List.getElem?_map, List.getElem?_range hp]; rfl
  rw [e, decide_eq_true h1]; simp
/-- What lies where while the rows are gone through. -/
structure TI (w : World) (q ob g tb rb W H n : Nat) (a : Option Addr) (c : Nat) (f : Nat → Bool) (W' : World) : Prop where
  rq : W'.rowIs q 24 3 (tF W H (.slice a n c))
  rt : W'.rowIs tb 24 3 (tF W H (.slice a n c))
  ro : W'.rowIs ob 24 3 (tF H W (.slice (some ⟨g, 0, none⟩) n n))
  rr : W'.rowIs rb 24 3 (tF 0 0 (.slice none 0 0))
  rg : W'.rowIs g 4 n (fun p => .bool (f p))
  bel : Below w.heap.size w W'
theorem TI.kept {w : World} {q ob g tb rb W H n : Nat} {a : Option Addr} {c : Nat} {f : Nat → Bool} {A B : World} {row : Option Nat} (h : TI w q ob g tb rb W H n a c f A) (hg : A.grownBy B row) (hr : ∀ r, row = some r → w.heap.size ≤ r ∧ ∃ o : Obj, A.heap[r]? = some o ∧ o.isCells = false) : TI w q ob g tb rb W H n a c f B :=
  have hr' : ∀ r, row = some r → ∃ o : Obj, A.heap[r]? = some o ∧ o.isCells = false := fun r e => (hr r e).2
  ⟨rowIs_kept h.rq hg hr', rowIs_kept h.rt hg hr', rowIs_kept h.ro hg hr', rowIs_kept h.rr hg hr', rowIs_kept h.rg hg hr', h.bel.grown hg h.bel.size (fun k e => (hr k e).1)⟩
theorem TI.set {w : World} {q ob g tb rb W H n : Nat} {a : Option Addr} {c : Nat} {f f' : Nat → Bool} {A : World} (h : TI w q ob g tb rb W H n a c f A) (i : Nat) (v : Bool) (hq : q ≠ g) (ho : ob ≠ g) (ht : tb ≠ g) (hr : rb ≠ g) (hg : w.heap.size ≤ g) (hf : ∀ p, p < n → f' p = if p = i then v else f p) : TI w q ob g tb rb W H n a c f' (A.setCell ⟨g, i, none⟩ (.bool v)) :=
  ⟨h.rq.setOther hq _, h.rt.setOther ht _, h.ro.setOther ho _, h.rr.setOther hr _, (h.rg.set i (.bool v)).congr fun p hp => by rw [hf p hp]; by_cases e : p = i <;> simp [e], h.bel.setCell (p := ⟨g, i, none⟩) hg _⟩
def TurnedPost (W H : Nat) (bs : List Bool) (w : World) (r : Ending) (w' : World) : Prop :=
  ∃ g, r = .returned (.tuple #[.agg #[.int .i64 (H), .int .i64 (W), .slice (some ⟨g, 0, none⟩) (W*H) (W*H)], .int .i64 (0)]) ∧ OkT w' (some ⟨g, 0, none⟩) (W*H) (W*H) (turnL W H bs) ∧ Below w.heap.size w w'
end Go.Proofs.Ytdaacjaibfcacaa

namespace Go.Proofs.Ytdaacjaibfcacaa
open Go.RowKit
set_option linter.unusedVariables false
set_option linter.unusedSimpArgs false
open Go.Shelf
attribute [local go_sem] Oper.semAt_some
/-- What is wrong with a product. -/
def prE (W1 H1 : Int) (n1 : Nat) (W2 H2 : Int) (n2 : Nat) : Int := if wrT W1 H1 n1 ≠ 0 then wrT W1 H1 n1 else if wrT W2 H2 n2 ≠ 0 then wrT W2 H2 n2 else if W1 ≠ H2 then 8 else 0
def mulB (M W : Nat) (aa bb : List Bool) (Y X : Nat) : Bool := (List.range M).any fun k => aa.getD (Y * M + k) false && bb.getD (k * W + X) false
/-- The product: H rows of W. -/
def prodL (H M W : Nat) (aa bb : List Bool) : List Bool := (List.range (W * H)).map fun p => mulB M W aa bb (p / W) (p % W)
theorem prodL_len (H M W : Nat) (aa bb : List Bool) : (prodL H M W aa bb).length = W * H := by simp [prodL]
def prW (w : World) (W1 H1 : Int) (a1 : Option Addr) (n1 c1 : Nat) (W2 H2 : Int) (a2 : Option Addr) (n2 c2 : Nat) : World :=
  (((w.alloc (.cells #[.int .i64 (W1), .int .i64 (H1), .slice a1 n1 c1] 24)).alloc (.cells #[.int .i64 (W2), .int .i64 (H2), .slice a2 n2 c2] 24)).alloc (.cells #[.int .i64 (0), .int .i64 (0), .slice none 0 0] 24)).alloc (.cells #[.int .i64 (W1), .int .i64 (H1), .slice a1 n1 c1, .int .i64 (W2), .int .i64 (H2), .slice a2 n2 c2] 24)
end Go.Proofs.Ytdaacjaibfcacaa

namespace Go.Proofs.Ytdaacjaibfcacaa
open Go.RowKit
set_option linter.unusedVariables false
set_option linter.unusedSimpArgs false
open Go.Shelf
attribute [local go_sem] Oper.semAt_some
/-- What holds in the product when these rows are done, and of row y these of the middle, and of the next one (k) the first x. -/
def pC (H M W : Nat) (aa bb : List Bool) (pre : List (Fin H)) (y : Nat) (pre2 : List (Fin M)) (k x : Nat) (p : Nat) : Bool :=
  (decide (p / W ∈ pre.map Fin.val) && mulB M W aa bb (p / W) (p % W)) ||
  (decide (p / W = y) && ((pre2.any fun k' => aa.getD (p / W * M + k'.val) false && bb.getD (k'.val * W + p % W) false) || (decide (p % W < x) && (aa.getD (p / W * M + k) false && bb.getD (k * W + p % W) false))))
section
variable {H M W : Nat} {aa bb : List Bool} {pre : List (Fin H)} {y : Nat} {pre2 : List (Fin M)} {k x p : Nat}
theorem pC_zero : pC H M W aa bb pre y [] 0 0 p = pC H M W aa bb pre 0 [] 0 0 p := by unfold pC; simp
theorem pC_x0 : pC H M W aa bb pre y pre2 k 0 p = pC H M W aa bb pre y pre2 0 0 p := by unfold pC; simp
theorem pC_row (k : Fin M) (hW : 0 < W) : pC H M W aa bb pre y pre2 k W p = pC H M W aa bb pre y (pre2 ++ [k]) 0 0 p := by
  unfold pC
  have : p % W < W := Nat.mod_lt _ hW
  simp [this, List.any_append]
theorem any_fin (f : Nat → Bool) : ((List.finRange M).any fun k => f k.val) = (List.range M).any f := by
  rw [Bool.eq_iff_iff]
  simp only [List.any_eq_true, List.mem_finRange, true_and, List.mem_range]
  exact ⟨fun ⟨k, h⟩ => ⟨k.val, k.isLt, h⟩, fun ⟨k, hk, h⟩ => ⟨⟨k, hk⟩, h⟩⟩
theorem pC_outer (y : Fin H) : pC H M W aa bb pre y (List.finRange M) 0 0 p = pC H M W aa bb (pre ++ [y]) 0 [] 0 0 p := by
  unfold pC
  rw [any_fin (M := M) (fun k' => aa.getD (p / W * M + k') false && bb.getD (k' * W + p % W) false)]
  simp only [List.map_append, List.mem_append, List.map_cons, List.map_nil, List.mem_singleton]
  unfold mulB
  by_cases h1 : p / W ∈ pre.map Fin.val <;> by_cases h2 : p / W = y.val <;> simp [h1, h2]
  all_goals (intros; simp_all)
theorem pC_step (hW : 0 < W) (hx : x < W) (hp : p ≠ y * W + x ∨ (aa.getD (y * M + k) false && bb.getD (k * W + x) false) = false) : pC H M W aa bb pre y pre2 k (x+1) p = pC H M W aa bb pre y pre2 k x p := by
  unfold pC
  by_cases e : p / W = y
  · by_cases ex : p % W = x
    · have hpe : p = y * W + x := by
        have := Nat.div_add_mod p W
        rw [e, ex, Nat.mul_comm] at this; omega
      rcases hp with hp | hp
      · exact absurd hpe hp
      · rw [e, ex, hp]; simp
    · have : (p % W < x + 1) ↔ (p % W < x) := by omega
      simp [this]
  · simp [e]
theorem pC_new (hW : 0 < W) (hx : x < W) (h : (aa.getD (y * M + k) false && bb.getD (k * W + x) false) = true) : pC H M W aa bb pre y pre2 k (x+1) (y * W + x) = true := by
  unfold pC
  have h1 : (y * W + x) / W = y := by rw [Nat.mul_comm, Nat.mul_add_div hW, Nat.div_eq_of_lt hx]; omega
  have h2 : (y * W + x) % W = x := by rw [Nat.mul_comm, Nat.mul_add_mod, Nat.mod_eq_of_lt hx]
  rw [h1, h2, h]; simp
theorem pC_all (hp : p < W * H) : pC H M W aa bb (List.finRange H) 0 [] 0 0 p = (prodL H M W aa bb).getD p false := by
  have hW : 0 < W := by rcases Nat.eq_zero_or_pos W with h | h; · subst h; simp at hp
                        · exact h
  have hd : p / W < H := Nat.div_lt_of_lt_mul hp
  have h1 : p / W ∈ (List.finRange H).map Fin.val := by
    rw [List.mem_map]; exact ⟨⟨p / W, hd⟩, List.mem_finRange _, rfl⟩
  have e : (prodL H M W aa bb).getD p false = mulB M W aa bb (p / W) (p % W) := by
    unfold prodL
    rw [List.getD_eq_getElem?_getD, List.getElem?_map, List.getElem?_range hp]; rfl
  rw [e]
  unfold pC
  rw [decide_eq_true h1]; simp
end
theorem grownBy_setCellAt (W : World) (b i : Nat) (v : Value) : W.grownBy (W.setCell ⟨b, i, none⟩ v) (some b) :=
  ⟨rfl, rfl, rfl, (KeepsWalks.setCell W _ v).size, fun k _ hk => Below.heap_setCell _ _ _ k (fun e => hk (by rw [e]))⟩
/-- What lies where while the rows are gone through. -/
structure PI (w : World) (qb ob g ta rb M H W n1 n2 n : Nat) (a1 : Option Addr) (c1 : Nat) (a2 : Option Addr) (c2 : Nat) (f : Nat → Bool) (W' : World) : Prop where
  rq : W'.rowIs qb 24 3 (tF W M (.slice a2 n2 c2))
  rt : W'.rowIs ta 24 3 (tF M H (.slice a1 n1 c1))
  ro : W'.rowIs ob 24 3 (tF W H (.slice (some ⟨g, 0, none⟩) n n))
  rr : W'.rowIs rb 24 3 (tF 0 0 (.slice none 0 0))
  rg : W'.rowIs g 4 n (fun p => .bool (f p))
  bel : Below w.heap.size w W'
section
variable {w : World} {qb ob g ta rb M H W n1 n2 n : Nat} {a1 : Option Addr} {c1 : Nat} {a2 : Option Addr} {c2 : Nat} {f f' : Nat → Bool} {A B : World}
theorem PI.kept {row : Option Nat} (h : PI w qb ob g ta rb M H W n1 n2 n a1 c1 a2 c2 f A) (hg : A.grownBy B row) (hr : ∀ r, row = some r → w.heap.size ≤ r ∧ ∃ o : Obj, A.heap[r]? = some o ∧ o.isCells = false) : PI w qb ob g ta rb M H W n1 n2 n a1 c1 a2 c2 f B :=
  have hr' : ∀ r, row = some r → ∃ o : Obj, A.heap[r]? = some o ∧ o.isCells = false := fun r e => (hr r e).2
  ⟨rowIs_kept h.rq hg hr', rowIs_kept h.rt hg hr', rowIs_kept h.ro hg hr', rowIs_kept h.rr hg hr', rowIs_kept h.rg hg hr', h.bel.grown hg h.bel.size (fun k e => (hr k e).1)⟩
theorem PI.alloc (h : PI w qb ob g ta rb M H W n1 n2 n a1 c1 a2 c2 f A) (o : Obj) : PI w qb ob g ta rb M H W n1 n2 n a1 c1 a2 c2 f (A.alloc o) :=
  h.kept (World.grownBy_alloc A o none) (fun r e => by cases e)
theorem PI.congr (h : PI w qb ob g ta rb M H W n1 n2 n a1 c1 a2 c2 f A) (hf : ∀ p, p < n → f p = f' p) : PI w qb ob g ta rb M H W n1 n2 n a1 c1 a2 c2 f' A :=
  ⟨h.rq, h.rt, h.ro, h.rr, h.rg.congr fun p hp => by rw [hf p hp], h.bel⟩
theorem PI.set (h : PI w qb ob g ta rb M H W n1 n2 n a1 c1 a2 c2 f A) (i : Nat) (v : Bool) (hq : qb ≠ g) (ho : ob ≠ g) (ht : ta ≠ g) (hr : rb ≠ g) (hg : w.heap.size ≤ g) (hf : ∀ p, p < n → f' p = if p = i then v else f p) : PI w qb ob g ta rb M H W n1 n2 n a1 c1 a2 c2 f' (A.setCell ⟨g, i, none⟩ (.bool v)) :=
  ⟨h.rq.setOther hq _, h.rt.setOther ht _, h.ro.setOther ho _, h.rr.setOther hr _, (h.rg.set i (.bool v)).congr fun p hp => by rw [hf p hp]; by_cases e : p = i <;> simp [e], h.bel.setCell (p := ⟨g, i, none⟩) hg _⟩
end
def ProductPost (H M W : Nat) (aa bb : List Bool) (w : World) (r : Ending) (w' : World) : Prop :=
  ∃ g, r = .returned (.tuple #[.agg #[.int .i64 (W), .int .i64 (H), .slice (some ⟨g, 0, none⟩) (W*H) (W*H)], .int .i64 (0)]) ∧ OkT w' (some ⟨g, 0, none⟩) (W*H) (W*H) (prodL H M W aa bb) ∧ Below w.heap.size w w'
end Go.Proofs.Ytdaacjaibfcacaa

namespace Go.Proofs.Ytdaacjaibfcacaa
open Go.RowKit
set_option linter.unusedVariables false
set_option linter.unusedSimpArgs false
theorem getD_map_range {n p : Nat} (f : Nat → Bool) (hp : p < n) : ((List.range n).map f).getD p false = f p := by
  rw [List.getD_eq_getElem?_getD, List.getElem?_map, List.getElem?_range hp]; rfl
theorem turnL_get {W H x y : Nat} {bs : List Bool} (hx : x < W) (hy : y < H) : (turnL W H bs).getD (x * H + y) false = bs.getD (y * W + x) false := by
  unfold turnL
  have hlt : x * H + y < W * H := by
    have : (x + 1) * H ≤ W * H := Nat.mul_le_mul_right H hx
    rw [Nat.add_mul, Nat.one_mul] at this; omega
  rw [getD_map_range _ hlt]
  have h1 : (x * H + y) % H = y := by rw [Nat.mul_comm, Nat.mul_add_mod, Nat.mod_eq_of_lt hy]
  have h2 : (x * H + y) / H = x := by rw [Nat.mul_comm, Nat.mul_add_div (by omega), Nat.div_eq_of_lt hy]; omega
  rw [h1, h2]
theorem prodL_get {H M W X Y : Nat} {aa bb : List Bool} (hx : X < W) (hy : Y < H) : (prodL H M W aa bb).getD (Y * W + X) false = mulB M W aa bb Y X := by
  unfold prodL
  have hlt : Y * W + X < W * H := by
    have : (Y + 1) * W ≤ H * W := Nat.mul_le_mul_right W hy
    rw [Nat.add_mul, Nat.one_mul, Nat.mul_comm H W] at this; omega
  rw [getD_map_range _ hlt]
  have h1 : (Y * W + X) % W = X := by rw [Nat.mul_comm, Nat.mul_add_mod, Nat.mod_eq_of_lt hx]
  have h2 : (Y * W + X) / W = Y := by rw [Nat.mul_comm, Nat.mul_add_div (by omega), Nat.div_eq_of_lt hx]; omega
  rw [h1, h2]
/-- Two lists of H rows of W are one if they are so place by place. -/
theorem grid_ext {W H : Nat} {l m : List Bool} (h1 : l.length = W * H) (h2 : m.length = W * H) (h : ∀ y x, y < H → x < W → l.getD (y * W + x) false = m.getD (y * W + x) false) : l = m := by
  apply List.ext_getElem (by omega)
  intro p hp hp2
  have hW : 0 < W := by rcases Nat.eq_zero_or_pos W with e | e
                        · subst e; simp at h1; omega
                        · exact e
  have := h (p / W) (p % W) (Nat.div_lt_of_lt_mul (by omega)) (Nat.mod_lt _ hW)
  have e : p / W * W + p % W = p := by rw [Nat.mul_comm]; exact Nat.div_add_mod p W
  rw [e, List.getD_eq_getElem?_getD, List.getD_eq_getElem?_getD, List.getElem?_eq_getElem hp, List.getElem?_eq_getElem hp2] at this
  simpa using this
theorem turn_turn {W H : Nat} {bs : List Bool} (h : bs.length = W * H) : turnL H W (turnL W H bs) = bs := by
  refine grid_ext (W := W) (H := H) (by rw [turnL_len, Nat.mul_comm]) h fun y x hy hx => ?_
  rw [turnL_get hy hx, turnL_get hx hy]
theorem turn_prod {H M W : Nat} {aa bb : List Bool} : prodL W M H (turnL W M bb) (turnL M H aa) = turnL W H (prodL H M W aa bb) := by
  refine grid_ext (W := H) (H := W) (by rw [prodL_len]) (by rw [turnL_len, Nat.mul_comm]) fun x y hx hy => ?_
  rw [prodL_get hy hx, turnL_get hx hy, prodL_get hx hy]
  unfold mulB
  rw [Bool.eq_iff_iff]
  simp only [List.any_eq_true, List.mem_range]
  constructor
  · rintro ⟨k, hk, h⟩
    refine ⟨k, hk, ?_⟩
    rw [turnL_get hx hk, turnL_get hk hy] at h
    rw [Bool.and_comm]; exact h
  · rintro ⟨k, hk, h⟩
    refine ⟨k, hk, ?_⟩
    rw [turnL_get hx hk, turnL_get hk hy, Bool.and_comm]; exact h
theorem prod_assoc {H M W X : Nat} {aa bb cc : List Bool} : prodL H W X (prodL H M W aa bb) cc = prodL H M X aa (prodL M W X bb cc) := by
  refine grid_ext (W := X) (H := H) (by rw [prodL_len]) (by rw [prodL_len]) fun y x hy hx => ?_
  rw [prodL_get hx hy, prodL_get hx hy]
  unfold mulB
  rw [Bool.eq_iff_iff]
  simp only [List.any_eq_true, List.mem_range, Bool.and_eq_true]
  constructor
  · rintro ⟨k, hk, h1, h2⟩
    rw [prodL_get hk hy] at h1
    unfold mulB at h1
    simp only [List.any_eq_true, List.mem_range, Bool.and_eq_true] at h1
    obtain ⟨m, hm, h3, h4⟩ := h1
    refine ⟨m, hm, h3, ?_⟩
    rw [prodL_get hx hm]
    unfold mulB
    simp only [List.any_eq_true, List.mem_range, Bool.and_eq_true]
    exact ⟨k, hk, h4, h2⟩
  · rintro ⟨m, hm, h1, h2⟩
    rw [prodL_get hx hm] at h2
    unfold mulB at h2
    simp only [List.any_eq_true, List.mem_range, Bool.and_eq_true] at h2
    obtain ⟨k, hk, h3, h4⟩ := h2
    refine ⟨k, hk, ?_, h4⟩
    rw [prodL_get hk hy]
    unfold mulB
    simp only [List.any_eq_true, List.mem_range, Bool.and_eq_true]
    exact ⟨m, hm, h1, h3⟩
/-- What a call on right truths hands back. -/
def TPost (W H n : Nat) (bs : List Bool) (w : World) (r : Ending) (w' : World) : Prop :=
  ∃ g, r = .returned (.tuple #[.agg #[.int .i64 (W), .int .i64 (H), .slice (some ⟨g, 0, none⟩) n n], .int .i64 (0)]) ∧ OkT w' (some ⟨g, 0, none⟩) n n bs ∧ Below w.heap.size w w'
end Go.Proofs.Ytdaacjaibfcacaa
