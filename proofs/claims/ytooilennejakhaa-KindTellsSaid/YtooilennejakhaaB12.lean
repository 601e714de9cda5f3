/- Lemmas and contracts of functions (what each call returns, and that it changes nothing that was there) that the proof of a law of this seat uses; each lemma states its own conditions. -/
import Derived.Test.YtooilennejakhaaB11
import Derived.Deep.OwnRows
import Derived.Test.YtooilennejakhaaB05
import Derived.Test.YtooilennejakhaaB02
namespace Go.Proofs.Ytooilennejakhaa
open Go.RowKit
set_option linter.unusedVariables false
set_option linter.unusedSimpArgs false
theorem allocPt (w : World) : Sem.run Try.prog (Instr.alloc 33 true (.tuple #[])) w = .ok (.pointer (some ⟨w.heap.size, 0, none⟩)) (w.alloc (.cells #[.int .i64 (0), .int .i64 (0)] 33)) := by kernel_rfl
theorem tmY_one (g x y : Int) (hg : g = 4 ∨ g = 6) : tmX x y 0 1 = (Z.turn g (x,y)).1 ∧ tmY g x y 0 1 = (Z.turn g (x,y)).2 := by
  rcases hg with rfl | rfl <;> simp [tmX, tmY, Z.turn]
/-- How large a point is behind so many turns. -/
theorem tn_bd (g : Int) (n : Nat) (p : Z.Pt) (B : Int) (h1 : -B ≤ p.1 ∧ p.1 ≤ B) (h2 : -B ≤ p.2 ∧ p.2 ≤ B) : (-(2^n * B) ≤ (Z.tn g n p).1 ∧ (Z.tn g n p).1 ≤ 2^n * B) ∧ (-(2^n * B) ≤ (Z.tn g n p).2 ∧ (Z.tn g n p).2 ≤ 2^n * B) := by
  induction n with
  | zero => simp [Z.tn]; omega
  | succ n ih =>
    have e : (2:Int)^(n+1) * B = 2 * (2^n * B) := by rw [Int.pow_succ]; grind
    have hB : 0 ≤ 2^n * B := by omega
    rw [e]
    simp only [Z.tn, Z.turn]
    split <;> omega
set_option maxRecDepth 100000 in
set_option maxHeartbeats 8000000 in
theorem turned_any (g x y : Int) (n : Nat) (w : World) (hg : g = 4 ∨ g = 6) (hn : n ≤ 6) (b1 : -10000000 ≤ x ∧ x ≤ 10000000) (b2 : -10000000 ≤ y ∧ y ≤ 10000000) :
    Calls Try.prog 74 #[.int .i64 (g), .agg #[.int .i64 (x), .int .i64 (y)], .int .i64 (n)] w fun e w' => e = .returned (.agg #[.int .i64 ((Z.tn g n (x,y)).1), .int .i64 ((Z.tn g n (x,y)).2)]) ∧ Below w.heap.size w w' := by
  have hbd : ∀ k : Nat, k ≤ n → (-1073741824 ≤ (Z.tn g k (x,y)).1 ∧ (Z.tn g k (x,y)).1 ≤ 1073741824) ∧ (-1073741824 ≤ (Z.tn g k (x,y)).2 ∧ (Z.tn g k (x,y)).2 ≤ 1073741824) := by
    intro k hk
    have h := tn_bd g k (x,y) 10000000 b1 b2
    have h2 : (2:Int)^k ≤ 64 := by
      have : k = 0 ∨ k = 1 ∨ k = 2 ∨ k = 3 ∨ k = 4 ∨ k = 5 ∨ k = 6 := by omega
      rcases this with rfl | rfl | rfl | rfl | rfl | rfl | rfl <;> decide
    omega
  have HB := Lib.hid hbd
  clear hbd
  go_enter Try.func74, Try.ntmps74
  go_wp2_with fail
  go_loopw [8] (fun i wr => ∃ (k : Nat) (E : Array Obj) (d : Nat), k ≤ n ∧ i = .int .i64 k ∧ wr = extW ((w.alloc (.cells #[.int .i64 ((Z.tn g k (x,y)).1), .int .i64 ((Z.tn g k (x,y)).2)] 33)).alloc (.cells #[.int .i64 (0), .int .i64 (0)] 33)) E d) (fun i _ => n - (intOf i).toNat)
  case atStart => exact ⟨0, #[], _, Nat.zero_le _, rfl, extW_zero _⟩
  case round =>
    obtain ⟨k, E, d, hk, rfl, rfl⟩ := hrel
    obtain ⟨hb1, hb2⟩ := HB.out k hk
    have H1 := Lib.hid (tmY_one g (Z.tn g k (x,y)).1 (Z.tn g k (x,y)).2 hg)
    have HT : Hid (Z.tn g (k+1) (x,y) = Z.turn g (Z.tn g k (x,y))) := Lib.hid rfl
    generalize hp : Z.tn g k (x,y) = p at *
    have HP := Lib.hid hp
    clear hp
    by_cases hlt : k < n
    · go_wp2_with fail
      refine (times_any g p.1 p.2 0 1 _ (by omega) (by omega) (by omega) (by omega)).mono ?_
      rintro r w1 ⟨rfl, hb⟩
      obtain ⟨E', d', rfl⟩ := bExt hb
      clear hb
      rw [H1.out.1, H1.out.2]
      go_wp2
      go_roundw
      case rel => exact ⟨k + 1, E ++ E', d', by omega, by go_num, by rw [HT.out, extW_extW]⟩
      case measure => simp [intOf]; omega
    · have hkn : k = n := by omega
      subst hkn
      go_wp2
      refine bodyPost_ret (v := .agg #[.int .i64 (p.1), .int .i64 (p.2)]) (by simp [results, Try.results74, go_sem]) rfl ⟨by rw [HP.out], (by repeat (first | exact Below.refl _ _ | refine Below.drew ?_ | refine below_drewN ?_ _ | refine Below.alloc ?_ (by first | exact Nat.le_refl _ | (simp; done) | (simp; omega) | omega) _ | refine Below.setCell ?_ (by first | exact Nat.le_refl _ | (simp; done) | (simp; omega) | omega) _ | refine bExtW ?_ (by first | exact Nat.le_refl _ | (simp; done) | (simp; omega) | omega) | refine Below.trans ?_ (Below.mono (by assumption) (by first | exact Nat.le_refl _ | (simp; done) | (simp; omega) | omega))))⟩
theorem turned1_any (g x y : Int) (w : World) (hg : g = 4 ∨ g = 6) (b1 : -10000000 ≤ x ∧ x ≤ 10000000) (b2 : -10000000 ≤ y ∧ y ≤ 10000000) :
    Calls Try.prog 74 #[.int .i64 (g), .agg #[.int .i64 (x), .int .i64 (y)], .int .i64 1] w fun e w' => e = .returned (.agg #[.int .i64 ((Z.turn g (x,y)).1), .int .i64 ((Z.turn g (x,y)).2)]) ∧ Below w.heap.size w w' :=
  turned_any g x y 1 w hg (by omega) b1 b2
end Go.Proofs.Ytooilennejakhaa

namespace Go.Proofs.Ytooilennejakhaa
open Go.RowKit
set_option linter.unusedVariables false
set_option linter.unusedSimpArgs false
open Z (IsGcd Normal nrm)
def GcdPost (g : Int) (a b : Z.Pt) (w : World) (r : Ending) (w' : World) : Prop :=
  ∃ d : Z.Pt, r = .returned (.tuple #[.agg #[.int .i64 (d.1), .int .i64 (d.2)], .int .i64 0]) ∧ IsGcd g a b d ∧ Normal d ∧ nrm g d ≤ 3 * (1048576 * 1048576) ∧ Below w.heap.size w w'
def gcdW (w : World) (p q : Z.Pt) : World := ((w.alloc (.cells #[.int .i64 (p.1), .int .i64 (p.2)] 33)).alloc (.cells #[.int .i64 (q.1), .int .i64 (q.2)] 33)).alloc (.cells #[.int .i64 (0), .int .i64 (0)] 33)
def ptB (p : Z.Pt) : Prop := (-2097152 ≤ p.1 ∧ p.1 ≤ 2097152) ∧ (-2097152 ≤ p.2 ∧ p.2 ≤ 2097152)
theorem ptB_of {g : Int} (hg : Z.G g) {p : Z.Pt} (h : nrm g p ≤ 3 * (1048576 * 1048576)) : ptB p := Z.part_bd hg (by omega) (by omega)
theorem turn_back {g : Int} (hg : Z.G g) (p : Z.Pt) : Z.Dvd g (Z.turn g p) p := by
  have h : Z.tn g 6 (Z.tn g 6 p) = p := by
    rcases hg with rfl | rfl <;> apply Z.ext2 <;> simp [Z.tn, Z.turn] <;> omega
  have h2 : Z.Dvd g (Z.turn g p) (Z.tn g 11 (Z.turn g p)) := Z.dvd_tn hg 11 _
  have h3 : Z.tn g 11 (Z.turn g p) = p := h
  rwa [h3] at h2
end Go.Proofs.Ytooilennejakhaa

namespace Go.Proofs.Ytooilennejakhaa
open Go.RowKit
set_option linter.unusedVariables false
set_option linter.unusedSimpArgs false
open Z (IsGcd Normal nrm)
end Go.Proofs.Ytooilennejakhaa

namespace Go.Proofs.Ytooilennejakhaa
open Go.RowKit
set_option linter.unusedVariables false
set_option linter.unusedSimpArgs false
open Z (IsGcd Normal nrm)
def boolOf : Value → Bool | .bool b => b | _ => false
def restW (w : World) (p q : Z.Pt) : World := ((w.alloc (.cells #[.int .i64 (p.1), .int .i64 (p.2)] 33)).alloc (.cells #[.int .i64 (q.1), .int .i64 (q.2)] 33)).alloc (.cells #[.int .i64 (0), .int .i64 (0)] 33)
def RestPost (g : Int) (a b : Z.Pt) (w : World) (r : Ending) (w' : World) : Prop :=
  ∃ p : Z.Pt, r = .returned (.agg #[.int .i64 (p.1), .int .i64 (p.2)]) ∧ Z.Dvd g b (Z.sub a p) ∧ 2 * nrm g p ≤ nrm g b ∧ Below w.heap.size w w'
def two (k : Nat) (b : Z.Pt) : Z.Pt := (2^k * b.1, 2^k * b.2)
theorem two_succ (k : Nat) (b : Z.Pt) : two (k+1) b = (2 * (two k b).1, 2 * (two k b).2) := by
  simp only [two, Int.pow_succ]; apply Z.ext2 <;> simp only <;> grind
theorem two_dvd (g : Int) (k : Nat) (b : Z.Pt) : Z.Dvd g b (two k b) := ⟨(2^k, 0), by apply Z.ext2 <;> simp [two, Z.mul, tmX, tmY]⟩
theorem nrm_dbl {g : Int} (hg : Z.G g) (x y : Int) : nrm g (2*x, 2*y) = 4 * nrm g (x,y) := by
  rcases hg with rfl | rfl
  · rw [Z.nrm4, Z.nrm4]; simp only; grind
  · rw [Z.nrm6, Z.nrm6]; simp only; grind
theorem two_pos {g : Int} (hg : Z.G g) (k : Nat) {b : Z.Pt} (hb : b ≠ (0,0)) : 1 ≤ nrm g (two k b) := by
  induction k with
  | zero => have e : two 0 b = b := by simp [two]
            rw [e]; exact Z.nrm_pos hg hb
  | succ k ih => rw [two_succ, nrm_dbl hg]; have : nrm g ((two k b).1, (two k b).2) = nrm g (two k b) := rfl; omega
theorem two_zero (g bx bY : Int) {N : Int} (h : nrm g (bx,bY) ≤ N) : nrm g (two 0 (bx,bY)) ≤ N := by
  have e : two 0 (bx,bY) = (bx,bY) := by simp [two]
  rwa [e]
theorem two_ge {g : Int} (hg : Z.G g) (k : Nat) (b : Z.Pt) : nrm g b ≤ nrm g (two k b) := by
  induction k with
  | zero => have e : two 0 b = b := by simp [two]
            rw [e]; omega
  | succ k ih => rw [two_succ, nrm_dbl hg]; have : nrm g ((two k b).1, (two k b).2) = nrm g (two k b) := rfl; have := Z.nrm_nonneg hg (two k b); omega
theorem dvd_sub_add {g : Int} {a b p t : Z.Pt} (h : Z.Dvd g b (Z.sub a p)) (ht : Z.Dvd g b t) : Z.Dvd g b (Z.sub a (p.1 + t.1, p.2 + t.2)) := by
  have h2 := Z.dvd_add h (Z.dvd_mul ht (-1,0))
  have e : Z.add (Z.sub a p) (Z.mul g (-1,0) t) = Z.sub a (p.1 + t.1, p.2 + t.2) := by
    apply Z.ext2 <;> simp [Z.add, Z.sub, Z.mul, tmX, tmY] <;> omega
  rwa [e] at h2
theorem two_rel (k : Nat) (bx bY : Int) : (bx = 0 → (two k (bx,bY)).1 = 0) ∧ (bx ≠ 0 → 2 * (two k (bx,bY)).1 ≠ bx) ∧ (bY = 0 → (two k (bx,bY)).2 = 0) ∧ (bY ≠ 0 → 2 * (two k (bx,bY)).2 ≠ bY) := by
  have hp : (1:Int) ≤ 2^k := by
    induction k with
    | zero => simp
    | succ k ih => rw [Int.pow_succ]; omega
  have key : ∀ z : Int, z ≠ 0 → 2 * (2^k * z) ≠ z := by
    intro z hz h
    have h1 : (2 * 2^k - 1) * z = 0 := by rw [Int.sub_mul, Int.mul_assoc]; omega
    rcases Int.mul_eq_zero.1 h1 with h | h
    · omega
    · exact hz h
  simp only [two]
  exact ⟨fun h => by rw [h]; simp, key _, fun h => by rw [h]; simp, key _⟩
end Go.Proofs.Ytooilennejakhaa

namespace Go.Proofs.Ytooilennejakhaa
open Go.RowKit
set_option linter.unusedVariables false
set_option linter.unusedSimpArgs false
def callUponR (P : Program) (C : World → Prop) (R : Value → Prop) (w : World) : Result Next → Prop
  | .ok (.enter f args) w' => w' = w ∧ Calls P f args w (fun e w'' => ∃ v, e = .returned v ∧ R v ∧ C w'')
  | _ => False
def callsR (P : Program) (o : Oper) (C : World → Prop) (R : Value → Prop) (a : Act) : Prop := ∀ w, C w → callUponR P C R w ((execOp a.eval o).run P w)
attribute [go_sem] callUponR
section
variable {P : Program} {ops : Array Oper} {md : Region.Mode} {C : World → Prop} {R : Value → Prop}
theorem wp_of_callsR {o : Oper} {a : Act} {w : World} {K : Act → World → Prop} {Q : Exit → Act → World → Prop} (hC : C w) (h : callsR P o C R a) (hK : ∀ v w', R v → C w' → K (a.put o.dst v) w') : o.wp P a w K Q := by
  have h1 := h w hC
  unfold Oper.wp
  cases hr : (execOp a.eval o).run P w with
  | ok x w' =>
    rw [hr] at h1
    cases x
    case enter f args =>
      obtain ⟨rfl, h2⟩ := h1
      refine h2.mono ?_
      rintro e w'' ⟨v, rfl, hv, hc⟩
      exact hK v w'' hv hc
    all_goals exact h1.elim
  | halt x w' => rw [hr] at h1; exact h1.elim
def headC (P : Program) (md : Region.Mode) (ops : Array Oper) (n m : Nat) (om : Oper) (C : World → Prop) (R : Value → Prop) (L : Array Bool → Act → Prop) : Nat → Array Bool → Act → Prop
  | 0, listed, a => L listed a
  | f + 1, listed, a => Region.ready md ops listed ≠ [] ∧ ∀ i ∈ Region.ready md ops listed, i < n ∧
      ((i = m → callsR P om C R a ∧ ∀ v, R v → headC P md ops n m om C R L f (listed.setIfInBounds i true) (a.put om.dst v)) ∧
       (i ≠ m → qOp P ops C i (headC P md ops n m om C R L f (listed.setIfInBounds i true)) a))
theorem headC_any {n m g : Nat} {om : Oper} {L : Array Bool → Act → Prop} {Q : Exit → Act → World → Prop} (hom : ops[m]? = some om) (hgd : om.guard = none)
    (hL : ∀ listed a w, C w → L listed a → wpAny P md ops Q g listed a w) (f : Nat) :
    ∀ (listed : Array Bool) (a : Act) (w : World), C w → headC P md ops n m om C R L f listed a → wpAny P md ops Q (f + g) listed a w := by
  induction f with
  | zero => intro listed a w hw h; rw [Nat.zero_add]; exact hL _ _ _ hw h
  | succ f ih =>
    intro listed a w hw h
    rw [show f + 1 + g = (f + g) + 1 by omega]
    refine ⟨fun h0 => absurd h0 h.1, fun i hi => ?_⟩
    obtain ⟨_, h1, h2⟩ := h.2 i hi
    by_cases him : i = m
    · subst him
      unfold wpOp
      simp only [hom, Region.wanted, hgd, if_true]
      exact .inl (wp_of_callsR hw (h1 rfl).1 fun v w' hv hc => ih _ _ _ hc ((h1 rfl).2 v hv))
    · exact wpOp_of_qOp hw (fun a' w' hw' h' => ih _ a' w' hw' h') (h2 him)
theorem headC_first {n m i : Nat} {oi om : Oper} {v : Value} {L : Array Bool → Act → Prop} (hi : ops[i]? = some oi) (hom : ops[m]? = some om) (hgm : om.guard = none) (hsel : ∀ (j : Nat) (o : Oper) cs b, ops[j]? = some o → o.op ≠ .select cs b)
    (hs : Region.sinkB md ops n = true) (hc : Region.chainB md ops n = true) (hn : n < ops.size) (hin : i < n) (him : i ≠ m)
    (hdone : ∀ listed a, L listed a → ∀ j ∈ Region.ready md ops listed, n ≤ j) (f : Nat) :
    ∀ (listed : Array Bool) (a : Act), HeadInv md ops n listed →
      (∀ j oj, ops[j]? = some oj → j ≠ i → listed.getD j true = false → (∀ e ∈ oj.after, Region.binds md e = true → e.on ≠ i) → oi.apart ops oj = true) →
      i ∈ Region.ready md ops listed → YieldsIn P ops C oi v a →
      headC P md ops n m om C R L f (listed.setIfInBounds i true) (a.put oi.dst v) → headC P md ops n m om C R L (f + 1) listed a := by
  induction f with
  | zero =>
    intro listed a inv _ hr hy H
    refine ⟨List.ne_nil_of_mem hr, fun j hj => ?_⟩
    have hjn : j < n := Nat.lt_of_not_le fun h => tail_waits hs hc hn inv _ i rfl hin (mem_ready.1 hr).1 j h hj
    refine ⟨hjn, ?_⟩
    by_cases hji : j = i
    · subst hji; exact ⟨fun h => absurd h him, fun _ => hy.qOp hi H⟩
    · exact absurd (hdone _ _ H j (ready_mono hj hji)) (by omega)
  | succ f ih =>
    intro listed a inv hfree hr hy H
    refine ⟨List.ne_nil_of_mem hr, fun j hj => ?_⟩
    have hjn : j < n := Nat.lt_of_not_le fun h => tail_waits hs hc hn inv _ i rfl hin (mem_ready.1 hr).1 j h hj
    refine ⟨hjn, ?_⟩
    by_cases hji : j = i
    · subst hji; exact ⟨fun h => absurd h him, fun _ => hy.qOp hi H⟩
    · obtain ⟨hjun, oj, hoj, hall⟩ := mem_ready.1 hj
      have hnot : ∀ e ∈ oj.after, Region.binds md e = true → e.on ≠ i := by
        intro e he hb heq
        have h1 := hall e he hb
        rw [heq, getD_both (mem_ready.1 hr).1] at h1
        cases h1
      have hap := hfree j oj hoj hji hjun hnot
      have hfree' : ∀ k ok, ops[k]? = some ok → k ≠ i → (listed.setIfInBounds j true).getD k true = false → (∀ e ∈ ok.after, Region.binds md e = true → e.on ≠ i) → oi.apart ops ok = true := by
        intro k ok hk hki hun hno
        refine hfree k ok hk hki ?_ hno
        by_cases hjk : j = k
        · subst hjk; exact hjun
        · rwa [getD_set_ne true hjk] at hun
      obtain ⟨_, H1, H2⟩ := H.2 j (ready_mono hj hji)
      obtain ⟨p1, p2, p3⟩ := Oper.apart_spec hap
      constructor
      · intro hjm
        have e : oj = om := by subst hjm; exact Option.some.inj (hoj.symm.trans hom)
        subst e
        obtain ⟨H3, H4⟩ := H1 hjm
        refine ⟨fun w hw => ?_, fun u hu => ?_⟩
        · have := H3 w hw
          rwa [execOp_put oj (fun cs b => hsel j oj cs b hoj) a _ _ p1] at this
        · refine ih _ _ (inv.set hj hjn) hfree' (ready_mono hr (Ne.symm hji)) (hy.of_same (execOp_put oi (fun cs b => hsel i oi cs b hi) a _ _ p3) (wanted_put oi a _ _ p3)) ?_
          have H5 := H4 u hu
          rw [Array.setIfInBounds_comm _ _ hji, Act.put_comm a v _ p2] at *
          exact H5
      · intro hjm
        have h2 := qOp_put hoj hap (fun cs b => hsel i oi cs b hi) (fun cs b => hsel j oj cs b hoj) hy (H2 hjm)
        refine qOp_mono (fun a' h3 => ih (listed.setIfInBounds j true) a' (inv.set hj hjn) hfree' (ready_mono hr (Ne.symm hji)) h3.1 ?_) h2
        rw [Array.setIfInBounds_comm _ _ hji]
        exact h3.2
theorem headC_lex {m : Nat} {g : Nat} {om : Oper} {K : Act → Prop} (hom : ops[m]? = some om) (hgm : om.guard = none) (hsel : Region.noSelect ops = true) (hs : Region.sinkB md ops (m+1) = true) (hc : Region.chainB md ops (m+1) = true) (hn : m + 1 < ops.size) (l : List Oper) :
    ∀ (k : Nat) (listed : Array Bool) (a : Act), (∀ j, j < l.length → l[j]? = ops[k + j]?) → k + l.length = m → HeadInv md ops (m+1) listed →
    Region.lexHead md ops (g+1) l.length k listed = true → wpQuiet P ops C (fun a => callsR P om C R a ∧ K a) l a →
    headC P md ops (m+1) m om C R (fun listed' a' => Region.seqB md ops g (m+1) listed' = true ∧ ∃ a0 v, K a0 ∧ R v ∧ a' = a0.put om.dst v) (l.length + 1) listed a := by
  induction l with
  | nil =>
    intro k listed a _ hk inv hB h
    have hkn : k = m := by simpa using hk
    subst hkn
    simp only [List.length_nil, Region.lexHead, Region.seqB, Bool.and_eq_true, decide_eq_true_eq] at hB
    refine ⟨by rw [hB.1]; simp, fun i hi => ?_⟩
    rw [hB.1] at hi
    have hik : i = k := by simpa using hi
    subst hik
    exact ⟨by omega, fun _ => ⟨h.1, fun v hv => ⟨hB.2, a, v, h.2, hv, rfl⟩⟩, fun h => absurd rfl h⟩
  | cons o l ih =>
    intro k listed a hl hk inv hB h
    have h0 : ops[k]? = some o := by simpa using (hl 0 (by simp)).symm
    simp only [List.length_cons, Region.lexHead, Bool.and_eq_true] at hB
    obtain ⟨⟨hr, hf⟩, hB'⟩ := hB
    have hkn : k < m := by simp only [List.length_cons] at hk; omega
    have hr' : k ∈ Region.ready md ops listed := by simpa using hr
    obtain ⟨v, hy, hK⟩ := yieldsIn_of_qOp (P := P) (C := C) (K := wpQuiet P ops C (fun a => callsR P om C R a ∧ K a) l) (a := a) h0 (by unfold qOp; simp only [h0]; exact h)
    exact headC_first h0 hom hgm (Region.noSelect_spec hsel) hs hc hn (by omega) (by omega) (fun listed' a' hL => seqB_ready hL.1) (l.length + 1) listed a inv (Region.free_spec h0 hf) hr' hy
      (ih (k + 1) _ _ (fun j hj => by have := hl (j + 1) (by simp; omega); simpa [Nat.add_assoc, Nat.add_comm 1 j] using this) (by simp only [List.length_cons] at hk; omega) (inv.set hr' (by omega)) hB' hK)
end
theorem wp_region_ext_call {id : Nat} {Q : Exit → Act → World → Prop} {a : Act} {w : World} {l : List Oper} (m : Nat) (R : Value → Prop) (om : Oper) (hm : Try.prog.follows .mixedOrders = true) (hB' : (Region.noSelect l.toArray && decide (m + 1 < l.length) && Region.sinkB .any l.toArray (m+1) && Region.chainB .any l.toArray (m+1) && Region.lexHead .any l.toArray (l.length - (m+1) + 1) m 0 (Array.replicate l.length false)) = true)
    (hom : l[m]? = some om) (hg : om.guard = none)
    (h : wpQuiet Try.prog l.toArray (fun w' => ∃ E d, w' = extW w E d) (fun a' => callsR Try.prog om (fun w' => ∃ E d, w' = extW w E d) R a' ∧ ∀ v E d, R v → wpList Try.prog l.toArray Q (l.drop (m+1)) (a'.put om.dst v) (extW w E d)) (l.take m) a) : (Code.region id l.toArray true).wp Try.prog Q a w := by
  simp only [Bool.and_eq_true, decide_eq_true_eq] at hB'
  obtain ⟨⟨⟨⟨hsel, hn⟩, hs⟩, hc⟩, hlex⟩ := hB'
  have htl : (l.take m).length = m := by simp; omega
  have hdl : (l.drop (m+1)).length = l.length - (m+1) := by simp
  have inv0 : HeadInv .any l.toArray (m+1) (Array.replicate l.toArray.size false) :=
    ⟨by simp, fun j oj _ hl => (by rw [getD_replicate_false] at hl; cases hl), fun t _ ht => getD_in (by simpa using ht) (getD_replicate_false _ _)⟩
  have hom2 : l.toArray[m]? = some om := by simpa using hom
  have H := headC_lex (P := Try.prog) (md := .any) (g := l.length - (m+1)) hom2 hg hsel hs hc (by simpa using hn) (l.take m) 0 _ a (fun j hj => by
    have hj' : j < m := by rw [htl] at hj; exact hj
    simp [hj']) (by simpa using htl) inv0 (by rw [htl]; simpa using hlex) h
  refine wp_region_any hm ?_
  have := headC_any (Q := Q) (g := l.length - (m+1)) hom2 hg (fun listed a' w' hw' hL => by
    obtain ⟨hB, a0, v, hK, hv, rfl⟩ := hL
    obtain ⟨E, d, rfl⟩ := hw'
    have := wpAny_of_seq (md := .any) (Q' := Q) (l.drop (m+1)) (m+1) listed (a0.put om.dst v) (extW w E d) (fun j => by simp [List.getElem?_drop]) (by rw [hdl]; exact hB) (hK v E d hv)
    rwa [hdl] at this) _ _ _ { w with drawn := w.drawn + 1 } ⟨#[], w.drawn + 1, by rw [extW_self]⟩ H
  rw [htl, show m + 1 + (l.length - (m+1)) = l.toArray.size by simp; omega] at this
  exact this
end Go.Proofs.Ytooilennejakhaa

namespace Go.Proofs.Ytooilennejakhaa
open Go.RowKit
set_option linter.unusedVariables false
set_option linter.unusedSimpArgs false
open Z (IsGcd Normal nrm)
def restR (g : Int) (a b : Z.Pt) (v : Value) : Prop := ∃ p : Z.Pt, v = .agg #[.int .i64 (p.1), .int .i64 (p.2)] ∧ Z.Dvd g b (Z.sub a p) ∧ 2 * nrm g p ≤ nrm g b
end Go.Proofs.Ytooilennejakhaa

namespace Go.Proofs.Ytooilennejakhaa
open Go.RowKit
set_option linter.unusedVariables false
set_option linter.unusedSimpArgs false
open Z (IsGcd Normal nrm)
theorem fltE_cases (g : Int) (l : List (Int × Int)) : (knB g = false ∧ fltE g l = 1) ∨ (knB g = true ∧ smL l = false ∧ fltE g l = 3) ∨ (knB g = true ∧ smL l = true ∧ fltE g l = 0) := by
  unfold fltE
  cases hk : knB g <;> cases hs : smL l <;> simp
theorem tm_wf {g x y a b : Int} (b1 : -1048576 ≤ x ∧ x ≤ 1048576) (b2 : -1048576 ≤ y ∧ y ≤ 1048576) (b3 : -1048576 ≤ a ∧ a ≤ 1048576) (b4 : -1048576 ≤ b ∧ b ≤ 1048576) : (-9223372036854775808 ≤ tmX x y a b ∧ tmX x y a b ≤ 9223372036854775807) ∧ (-9223372036854775808 ≤ tmY g x y a b ∧ tmY g x y a b ≤ 9223372036854775807) := by
  have m1 := mul_bd b1.1 b1.2 b3.1 b3.2
  have m2 := mul_bd b2.1 b2.2 b4.1 b4.2
  have m3 := mul_bd b1.1 b1.2 b4.1 b4.2
  have m4 := mul_bd b2.1 b2.2 b3.1 b3.2
  unfold tmX tmY
  split <;> omega
end Go.Proofs.Ytooilennejakhaa

namespace Go.Proofs.Ytooilennejakhaa
open Go.RowKit
set_option linter.unusedVariables false
set_option linter.unusedSimpArgs false
open Z (IsGcd Normal nrm Mv To lin mir okT idm both bothT)
set_option maxRecDepth 100000 in
set_option maxHeartbeats 8000000 in
theorem turnedN (g x y : Int) (n : Nat) (w : World) (hg : g = 4 ∨ g = 6) (hn : n ≤ 6) (hb : nrm g (x,y) ≤ 200000000000000000) :
    Calls Try.prog 74 #[.int .i64 (g), .agg #[.int .i64 (x), .int .i64 (y)], .int .i64 (n)] w fun e w' => e = .returned (.agg #[.int .i64 ((Z.tn g n (x,y)).1), .int .i64 ((Z.tn g n (x,y)).2)]) ∧ Below w.heap.size w w' := by
  have hbd : ∀ k : Nat, k ≤ n → (-1073741824 ≤ (Z.tn g k (x,y)).1 ∧ (Z.tn g k (x,y)).1 ≤ 1073741824) ∧ (-1073741824 ≤ (Z.tn g k (x,y)).2 ∧ (Z.tn g k (x,y)).2 ≤ 1073741824) := by
    intro k hk
    have h2 := Z.nrm_tn hg k (x,y)
    exact Z.part_bd hg (by omega) (by omega)
  have HB := Lib.hid hbd
  clear hbd
  go_enter Try.func74, Try.ntmps74
  go_wp2_with fail
  go_loopw [8] (fun i wr => ∃ (k : Nat) (E : Array Obj) (d : Nat), k ≤ n ∧ i = .int .i64 k ∧ wr = extW ((w.alloc (.cells #[.int .i64 ((Z.tn g k (x,y)).1), .int .i64 ((Z.tn g k (x,y)).2)] 33)).alloc (.cells #[.int .i64 (0), .int .i64 (0)] 33)) E d) (fun i _ => n - (intOf i).toNat)
  case atStart => exact ⟨0, #[], _, Nat.zero_le _, rfl, extW_zero _⟩
  case round =>
    obtain ⟨k, E, d, hk, rfl, rfl⟩ := hrel
    obtain ⟨hb1, hb2⟩ := HB.out k hk
    have H1 := Lib.hid (tmY_one g (Z.tn g k (x,y)).1 (Z.tn g k (x,y)).2 hg)
    have HT : Hid (Z.tn g (k+1) (x,y) = Z.turn g (Z.tn g k (x,y))) := Lib.hid rfl
    generalize hp : Z.tn g k (x,y) = p at *
    have HP := Lib.hid hp
    clear hp
    by_cases hlt : k < n
    · go_wp2_with fail
      refine (times_any g p.1 p.2 0 1 _ (by omega) (by omega) (by omega) (by omega)).mono ?_
      rintro r w1 ⟨rfl, hb⟩
      obtain ⟨E', d', rfl⟩ := bExt hb
      clear hb
      rw [H1.out.1, H1.out.2]
      go_wp2
      go_roundw
      case rel => exact ⟨k + 1, E ++ E', d', by omega, by go_num, by rw [HT.out, extW_extW]⟩
      case measure => simp [intOf]; omega
    · have hkn : k = n := by omega
      subst hkn
      go_wp2
      refine bodyPost_ret (v := .agg #[.int .i64 (p.1), .int .i64 (p.2)]) (by simp [results, Try.results74, go_sem]) rfl ⟨by rw [HP.out], (by repeat (first | exact Below.refl _ _ | refine Below.drew ?_ | refine below_drewN ?_ _ | refine Below.alloc ?_ (by first | exact Nat.le_refl _ | (simp; done) | (simp; omega) | omega) _ | refine Below.setCell ?_ (by first | exact Nat.le_refl _ | (simp; done) | (simp; omega) | omega) _ | refine bExtW ?_ (by first | exact Nat.le_refl _ | (simp; done) | (simp; omega) | omega) | refine Below.trans ?_ (Below.mono (by assumption) (by first | exact Nat.le_refl _ | (simp; done) | (simp; omega) | omega))))⟩
theorem parts_of {g : Int} (hg : Z.G g) {p : Z.Pt} (h : nrm g p ≤ 200000000000000000) : (-536870912 ≤ p.1 ∧ p.1 ≤ 536870912) ∧ (-536870912 ≤ p.2 ∧ p.2 ≤ 536870912) := Z.part_bd hg (by omega) (by omega)
set_option maxRecDepth 100000 in
set_option maxHeartbeats 8000000 in
theorem apply_any (g x y ox oy : Int) (t : Nat) (f : Bool) (w : World) (hg : g = 4 ∨ g = 6) (ht : t ≤ 6) (hb : nrm g (x,y) ≤ 200000000000000000) (h1 : -1000000000000 ≤ ox ∧ ox ≤ 1000000000000) (h2 : -1000000000000 ≤ oy ∧ oy ≤ 1000000000000) :
    Calls Try.prog 60 #[.int .i64 (g), .agg #[.int .i64 (t), .bool (f), .int .i64 (ox), .int .i64 (oy)], .agg #[.int .i64 (x), .int .i64 (y)]] w fun e w' => e = .returned (.agg #[.int .i64 ((To g ⟨t,f,(ox,oy)⟩ (x,y)).1), .int .i64 ((To g ⟨t,f,(ox,oy)⟩ (x,y)).2)]) ∧ Below w.heap.size w w' := by
  have bp := parts_of hg hb
  simp only at bp
  cases f with
  | false =>
    have HT : Hid (To g ⟨t,false,(ox,oy)⟩ (x,y) = ((Z.tn g t (x,y)).1 + ox, (Z.tn g t (x,y)).2 + oy)) := Lib.hid rfl
    have hn : nrm g (Z.tn g t (x,y)) ≤ 200000000000000000 := by rw [Z.nrm_tn hg]; exact hb
    have bn := parts_of hg hn
    go_enter Try.func60, Try.ntmps60
    (go_wp2_with fail; refine (turnedN g x y t _ hg ht hb).mono ?_; rintro r w1 ⟨rfl, hb⟩; obtain ⟨E, d, rfl⟩ := bExt hb; clear hb)
    generalize Z.tn g t (x,y) = p at *
    go_wp2
    refine bodyPost_ret (v := .agg #[.int .i64 (p.1+ox), .int .i64 (p.2+oy)]) (by simp [results, Try.results60, go_sem]) rfl ⟨by rw [HT.out], (by repeat (first | exact Below.refl _ _ | refine Below.drew ?_ | refine below_drewN ?_ _ | refine Below.alloc ?_ (by first | exact Nat.le_refl _ | (simp; done) | (simp; omega) | omega) _ | refine Below.setCell ?_ (by first | exact Nat.le_refl _ | (simp; done) | (simp; omega) | omega) _ | refine bExtW ?_ (by first | exact Nat.le_refl _ | (simp; done) | (simp; omega) | omega) | refine Below.trans ?_ (Below.mono (by assumption) (by first | exact Nat.le_refl _ | (simp; done) | (simp; omega) | omega))))⟩
  | true =>
    have HT : Hid (To g ⟨t,true,(ox,oy)⟩ (x,y) = ((Z.tn g t (miX g x y, -y)).1 + ox, (Z.tn g t (miX g x y, -y)).2 + oy)) := Lib.hid rfl
    have hb2 : nrm g (miX g x y, -y) ≤ 200000000000000000 := by
      have e := Z.nrm_conj hg (x,y)
      have e2 : Z.conj g (x,y) = (miX g x y, -y) := rfl
      rw [e2] at e
      omega
    have hn : nrm g (Z.tn g t (miX g x y, -y)) ≤ 200000000000000000 := by rw [Z.nrm_tn hg]; exact hb2
    have bn := parts_of hg hn
    go_enter Try.func60, Try.ntmps60
    (go_wp2_with fail; refine (mirrored_any g x y _ (by omega) (by omega)).mono ?_; rintro r w1 ⟨rfl, hb⟩; obtain ⟨E, d, rfl⟩ := bExt hb; clear hb)
    (go_wp2_with fail; refine (turnedN g _ _ t _ hg ht hb2).mono ?_; rintro r w1 ⟨rfl, hb⟩; obtain ⟨E, d, rfl⟩ := bExt hb; clear hb)
    generalize Z.tn g t (miX g x y, -y) = p at *
    go_wp2
    refine bodyPost_ret (v := .agg #[.int .i64 (p.1+ox), .int .i64 (p.2+oy)]) (by simp [results, Try.results60, go_sem]) rfl ⟨by rw [HT.out], (by repeat (first | exact Below.refl _ _ | refine Below.drew ?_ | refine below_drewN ?_ _ | refine Below.alloc ?_ (by first | exact Nat.le_refl _ | (simp; done) | (simp; omega) | omega) _ | refine Below.setCell ?_ (by first | exact Nat.le_refl _ | (simp; done) | (simp; omega) | omega) _ | refine bExtW ?_ (by first | exact Nat.le_refl _ | (simp; done) | (simp; omega) | omega) | refine Below.trans ?_ (Below.mono (by assumption) (by first | exact Nat.le_refl _ | (simp; done) | (simp; omega) | omega))))⟩
set_option maxRecDepth 100000 in
set_option maxHeartbeats 8000000 in
theorem rTo_any (g x y ox oy : Int) (t : Nat) (f : Bool) (w : World) (hg : g = 4 ∨ g = 6) (ht : t ≤ 6) (hb : nrm g (x,y) ≤ 200000000000000000) (h1 : -1000000000000 ≤ ox ∧ ox ≤ 1000000000000) (h2 : -1000000000000 ≤ oy ∧ oy ≤ 1000000000000) :
    Calls Try.prog 50 #[.int .i64 (g), .agg #[.int .i64 (t), .bool (f), .int .i64 (ox), .int .i64 (oy)], .agg #[.int .i64 (x), .int .i64 (y)]] w fun e w' => e = .returned (.agg #[.int .i64 ((To g ⟨t,f,(ox,oy)⟩ (x,y)).1), .int .i64 ((To g ⟨t,f,(ox,oy)⟩ (x,y)).2)]) ∧ Below w.heap.size w w' := by
  have bp := parts_of hg hb
  simp only at bp
  obtain ⟨mx, my, hm⟩ : ∃ mx my, mir g f (x,y) = (mx, my) := ⟨_, _, rfl⟩
  have hbm : nrm g (mx,my) ≤ 200000000000000000 := by rw [← hm]; cases f <;> simp only [mir, if_true, if_false, Bool.false_eq_true] <;> (try rw [Z.nrm_conj hg]) <;> exact hb
  have HM := Lib.hid hm
  have HT : Hid (To g ⟨t,f,(ox,oy)⟩ (x,y) = ((Z.tn g t (mx,my)).1 + ox, (Z.tn g t (mx,my)).2 + oy)) := Lib.hid (by simp only [To, lin, hm]; rfl)
  clear hm
  have hbd : ∀ k : Nat, (-536870912 ≤ (Z.tn g k (mx,my)).1 ∧ (Z.tn g k (mx,my)).1 ≤ 536870912) ∧ (-536870912 ≤ (Z.tn g k (mx,my)).2 ∧ (Z.tn g k (mx,my)).2 ≤ 536870912) := by
    intro k
    have h2 := Z.nrm_tn hg k (mx,my)
    exact parts_of hg (by omega)
  have HB := Lib.hid hbd
  clear hbd
  cases f with
  | false =>
    obtain ⟨rfl, rfl⟩ : x = mx ∧ y = my := by have := HM.out; simpa [mir] using this
    clear HM
    go_enter Try.func50, Try.ntmps50
    go_wp2_with fail
    go_loopw [7] (fun i wr => ∃ (k : Nat) (E : Array Obj) (d : Nat), k ≤ t ∧ i = .int .i64 k ∧ wr = extW (((w.alloc (.cells #[.int .i64 t, .bool false, .int .i64 (ox), .int .i64 (oy)] 39)).alloc (.cells #[.int .i64 ((Z.tn g k (x,y)).1), .int .i64 ((Z.tn g k (x,y)).2)] 33)).alloc (.cells #[.int .i64 (0), .int .i64 (0)] 33)) E d) (fun i _ => t - (intOf i).toNat)
    case atStart => exact ⟨0, _, _, Nat.zero_le _, rfl, by first | exact extW_zero _ | rfl⟩
    case round =>
      obtain ⟨k, E, d, hk, rfl, rfl⟩ := hrel
      obtain ⟨hb1, hb2⟩ := HB.out k
      have HTN : Hid (Z.tn g (k+1) (x,y) = Z.turn g (Z.tn g k (x,y))) := Lib.hid rfl
      generalize hp : Z.tn g k (x,y) = p at *
      have HP := Lib.hid hp
      clear hp
      by_cases hlt : k < t
      · (go_wp2_with fail; refine (rTurned_any g p.1 p.2 _ (by omega) (by omega)).mono ?_; rintro r w1 ⟨rfl, hb⟩; obtain ⟨E, d, rfl⟩ := bExt hb; clear hb)
        go_wp2
        go_roundw
        case rel => exact ⟨k + 1, _, _, by omega, by go_num, by rw [HTN.out, extW_extW]; rfl⟩
        case measure => simp [intOf]; omega
      · have hkn : k = t := by omega
        subst hkn
        (go_wp2_with fail; refine (rplus_any p.1 p.2 ox oy _ (by omega) (by omega)).mono ?_; rintro r w1 ⟨rfl, hb⟩; obtain ⟨E, d, rfl⟩ := bExt hb; clear hb)
        go_wp2
        refine bodyPost_ret (v := .agg #[.int .i64 (p.1+ox), .int .i64 (p.2+oy)]) (by simp [results, Try.results50, go_sem]) rfl ⟨by rw [HT.out, HP.out], (by repeat (first | exact Below.refl _ _ | refine Below.drew ?_ | refine below_drewN ?_ _ | refine Below.alloc ?_ (by first | exact Nat.le_refl _ | (simp; done) | (simp; omega) | omega) _ | refine Below.setCell ?_ (by first | exact Nat.le_refl _ | (simp; done) | (simp; omega) | omega) _ | refine bExtW ?_ (by first | exact Nat.le_refl _ | (simp; done) | (simp; omega) | omega) | refine Below.trans ?_ (Below.mono (by assumption) (by first | exact Nat.le_refl _ | (simp; done) | (simp; omega) | omega))))⟩
  | true =>
    obtain ⟨rfl, rfl⟩ : miX g x y = mx ∧ -y = my := by have := HM.out; simpa [mir, Z.conj] using this
    clear HM
    go_enter Try.func50, Try.ntmps50
    (go_wp2_with fail; refine (rMirrored_any g x y _ hg (by omega) (by omega)).mono ?_; rintro r w1 ⟨rfl, hb⟩; obtain ⟨E, d, rfl⟩ := bExt hb; clear hb)
    go_wp2_with fail
    go_loopw [7] (fun i wr => ∃ (k : Nat) (E : Array Obj) (d : Nat), k ≤ t ∧ i = .int .i64 k ∧ wr = extW (((w.alloc (.cells #[.int .i64 t, .bool true, .int .i64 (ox), .int .i64 (oy)] 39)).alloc (.cells #[.int .i64 ((Z.tn g k (miX g x y,-y)).1), .int .i64 ((Z.tn g k (miX g x y,-y)).2)] 33)).alloc (.cells #[.int .i64 (0), .int .i64 (0)] 33)) E d) (fun i _ => t - (intOf i).toNat)
    case atStart => exact ⟨0, _, _, Nat.zero_le _, rfl, by first | exact extW_zero _ | rfl⟩
    case round =>
      obtain ⟨k, E, d, hk, rfl, rfl⟩ := hrel
      obtain ⟨hb1, hb2⟩ := HB.out k
      have HTN : Hid (Z.tn g (k+1) (miX g x y,-y) = Z.turn g (Z.tn g k (miX g x y,-y))) := Lib.hid rfl
      generalize hp : Z.tn g k (miX g x y,-y) = p at *
      have HP := Lib.hid hp
      clear hp
      by_cases hlt : k < t
      · (go_wp2_with fail; refine (rTurned_any g p.1 p.2 _ (by omega) (by omega)).mono ?_; rintro r w1 ⟨rfl, hb⟩; obtain ⟨E, d, rfl⟩ := bExt hb; clear hb)
        go_wp2
        go_roundw
        case rel => exact ⟨k + 1, _, _, by omega, by go_num, by rw [HTN.out, extW_extW]; rfl⟩
        case measure => simp [intOf]; omega
      · have hkn : k = t := by omega
        subst hkn
        (go_wp2_with fail; refine (rplus_any p.1 p.2 ox oy _ (by omega) (by omega)).mono ?_; rintro r w1 ⟨rfl, hb⟩; obtain ⟨E, d, rfl⟩ := bExt hb; clear hb)
        go_wp2
        refine bodyPost_ret (v := .agg #[.int .i64 (p.1+ox), .int .i64 (p.2+oy)]) (by simp [results, Try.results50, go_sem]) rfl ⟨by rw [HT.out, HP.out], (by repeat (first | exact Below.refl _ _ | refine Below.drew ?_ | refine below_drewN ?_ _ | refine Below.alloc ?_ (by first | exact Nat.le_refl _ | (simp; done) | (simp; omega) | omega) _ | refine Below.setCell ?_ (by first | exact Nat.le_refl _ | (simp; done) | (simp; omega) | omega) _ | refine bExtW ?_ (by first | exact Nat.le_refl _ | (simp; done) | (simp; omega) | omega) | refine Below.trans ?_ (Below.mono (by assumption) (by first | exact Nat.le_refl _ | (simp; done) | (simp; omega) | omega))))⟩
end Go.Proofs.Ytooilennejakhaa
