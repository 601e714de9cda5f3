/- Lemmas and contracts of functions (what each call returns, and that it changes nothing that was there) that the proof of a law of this seat uses; each lemma states its own conditions. -/
import Derived.Test.YtooilennejakhaaB21
import Derived.Test.YtooilennejakhaaB19
namespace Go.Proofs.Ytooilennejakhaa
open Go.RowKit
set_option linter.unusedVariables false
set_option linter.unusedSimpArgs false
open Z (torN place pnt Mv To lin okT nrm both idm md stepB)
def tkB (g : Int) (M : List Mv) (turn : Nat) (r : Mv) : Bool := !r.f && (decide (r.t = turn) && onB g M r)
def someB (g : Int) (L M : List Mv) (turn : Nat) : Bool := L.any (tkB g M turn)
theorem someB_true {g : Int} {L M : List Mv} {turn : Nat} {r : Mv} (h : r ∈ L) (e : tkB g M turn r = true) : someB g L M turn = true := List.any_eq_true.2 ⟨r, h, e⟩
theorem someB_false {g : Int} {L M : List Mv} {turn : Nat} (h : ∀ j, j < L.length → tkB g M turn (L.getD j idm) = false) : someB g L M turn = false := by
  rw [← Bool.not_eq_true]
  intro e
  obtain ⟨m, hm, e2⟩ := List.any_eq_true.1 e
  obtain ⟨j, hj, rfl⟩ := List.mem_iff_getElem.1 hm
  have := h j hj
  rw [List.getD_eq_getElem?_getD, List.getElem?_eq_getElem hj] at this
  exact Bool.false_ne_true (this.symm.trans e2)
set_option maxRecDepth 100000 in
set_option maxHeartbeats 8000000 in
theorem Some_ok (g cW cH : Int) (ca : Option Addr) (cn cc : Nat) (L M : List Mv) (k n turn : Nat) (a am : Option Addr) (c cm : Nat) (w : World) (hg : g = 4 ∨ g = 6) (hL : IsMoves w a k L) (hO : MvsOk g L) (hM : IsMoves w am n M) (hOM : MvsB g M) (hk : k ≤ 10000) (hn : n ≤ 10000000) :
    Calls Try.prog 37 #[.agg #[.int .i64 (g), .int .i64 (cW), .int .i64 (cH), .slice ca cn cc], .slice a k c, .slice am n cm, .int .i64 (turn)] w fun e w' => e = .returned (.bool (someB g L M turn)) ∧ Below w.heap.size w w' := by
  have HL := Lib.hid hL
  have HO := Lib.hid hO
  have HM := Lib.hid hM
  have hlen := hL.1
  have HT : Hid (∀ m, m ∈ L → tkB g M turn m = true → someB g L M turn = true) := Lib.hid fun m h e => someB_true h e
  have HF : Hid ((∀ j, j < k → tkB g M turn (L.getD j idm) = false) → someB g L M turn = false) := Lib.hid fun h => someB_false (by rw [hlen]; exact h)
  have HON := Lib.hid (fun (t : Nat) (f : Bool) (x y : Int) w (ht : t < g.toNat) (hx : -200 ≤ x ∧ x ≤ 200) (hy : -200 ≤ y ∧ y ≤ 200) (hI : IsMoves w am n M) => on_ok g M n t f x y am cm w hg ht hx hy hI hOM hn)
  generalize someB g L M turn = hb at *
  clear hL hO hM
  go_enter Try.func37, Try.ntmps37
  go_wp2_with fail
  go_loopw [13] (fun iv wr => ∃ (j : Nat) (E : Array Obj) (d : Nat), j ≤ k ∧ iv = .int .i64 j ∧ Hid (∀ i, i < j → tkB g M turn (L.getD i idm) = false) ∧ wr = extW (w.alloc (.cells #[.int .i64 g, .int .i64 cW, .int .i64 cH, .slice ca cn cc] 24)) E d) (fun iv _ => k - (intOf iv).toNat)
  case atStart =>
    obtain ⟨E0, d0, h0⟩ := bExt (Below.refl (w.alloc (.cells #[.int .i64 g, .int .i64 cW, .int .i64 cH, .slice ca cn cc] 24)).heap.size (w.alloc (.cells #[.int .i64 g, .int .i64 cW, .int .i64 cH, .slice ca cn cc] 24)))
    exact ⟨0, E0, d0, by omega, rfl, Lib.hid fun i h => absurd h (by omega), h0⟩
  case round =>
    obtain ⟨j, E1, d1, hj, rfl, HN, rfl⟩ := hrel
    by_cases hjk : j < k
    · have dj : decide ((j : Int) < (k : Int)) = true := by simpa using hjk
      have vj : IntKind.i64.wrap ((j : Int) + 1) = (j : Int) + 1 := IntWalk.i64_in _ (by omega)
      obtain ⟨b, o, rfl, hbb, hc⟩ := HL.out.2 (by omega)
      obtain ⟨c0, c1, c2, c3⟩ := hc j hjk
      have lb : LtW b w := hbb
      have hmem := getD_mem (L := L) (j := j) (by omega)
      have ht' := HO.out.t _ hmem
      have ho' := HO.out.o _ hmem
      have HTM := Lib.hid (HT.out _ hmem)
      have HN2 : Hid (tkB g M turn (L.getD j idm) = false → ∀ i, i < j + 1 → tkB g M turn (L.getD i idm) = false) := Lib.hid fun hne i hi => by
        by_cases e : i = j
        · subst e; exact hne
        · exact HN.out i (by omega)
      obtain ⟨m, hm⟩ : ∃ m, L.getD j idm = m := ⟨_, rfl⟩
      rw [hm] at c0 c1 c2 c3 ht' ho' HTM HN2
      clear hbb hc hm hmem
      obtain ⟨t', f', x', y'⟩ := m
      simp only at c0 c1 c2 c3 ht' ho'
      have HON1 := Lib.hid (fun w hI => HON.out t' f' x' y' w ht' (by omega) (by omega) hI)
      by_cases hft : f' = false ∧ t' = turn
      · obtain ⟨rfl, rfl⟩ := hft
        have e0 : ((t' : Int) == (t' : Int)) = true := by simp
        have hsm : tkB g M t' ⟨t', false, (x', y')⟩ = onB g M ⟨t', false, (x', y')⟩ := by unfold tkB; simp
        rw [hsm] at HTM HN2
        clear hsm
        cases ho : onB g M ⟨t', false, (x', y')⟩ with
        | true =>
          rw [ho] at HTM HON1
          have HV := Lib.hid (HTM.out rfl)
          clear HT HF HTM HN2 HN HON ho ho'
          (go_wp2_with fail; refine (HON1.out _ (HM.out.below (by repeat (first | exact Below.refl _ _ | refine Below.drew ?_ | refine below_drewN ?_ _ | refine Below.alloc ?_ (by first | exact Nat.le_refl _ | (simp; done) | (simp; omega) | omega) _ | refine Below.setCell ?_ (by first | exact Nat.le_refl _ | (simp; done) | (simp; omega) | omega) _ | refine bExtW ?_ (by first | exact Nat.le_refl _ | (simp; done) | (simp; omega) | omega) | refine Below.trans ?_ (Below.mono (by assumption) (by first | exact Nat.le_refl _ | (simp; done) | (simp; omega) | omega)))))).mono ?_; rintro r w1 ⟨rfl, hb⟩; obtain ⟨E, d, rfl⟩ := bExt hb; clear hb)
          go_wp2
          go_ret
          exact ⟨by rw [HV.out]; rfl, (by repeat (first | exact Below.refl _ _ | refine Below.drew ?_ | refine below_drewN ?_ _ | refine Below.alloc ?_ (by first | exact Nat.le_refl _ | (simp; done) | (simp; omega) | omega) _ | refine Below.setCell ?_ (by first | exact Nat.le_refl _ | (simp; done) | (simp; omega) | omega) _ | refine bExtW ?_ (by first | exact Nat.le_refl _ | (simp; done) | (simp; omega) | omega) | refine Below.trans ?_ (Below.mono (by assumption) (by first | exact Nat.le_refl _ | (simp; done) | (simp; omega) | omega))))⟩
        | false =>
          rw [ho] at HN2 HON1
          have HN3 := Lib.hid (HN2.out rfl)
          clear HT HF HTM HN2 HN HON ho ho'
          (go_wp2_with fail; refine (HON1.out _ (HM.out.below (by repeat (first | exact Below.refl _ _ | refine Below.drew ?_ | refine below_drewN ?_ _ | refine Below.alloc ?_ (by first | exact Nat.le_refl _ | (simp; done) | (simp; omega) | omega) _ | refine Below.setCell ?_ (by first | exact Nat.le_refl _ | (simp; done) | (simp; omega) | omega) _ | refine bExtW ?_ (by first | exact Nat.le_refl _ | (simp; done) | (simp; omega) | omega) | refine Below.trans ?_ (Below.mono (by assumption) (by first | exact Nat.le_refl _ | (simp; done) | (simp; omega) | omega)))))).mono ?_; rintro r w1 ⟨rfl, hb⟩; obtain ⟨E, d, rfl⟩ := bExt hb; clear hb)
          go_wp2
          go_roundw
          case rel => exact ⟨j + 1, _, _, by omega, by go_num, HN3, by simp only [alloc_extW, extW_extW]; rfl⟩
          case measure => simp [intOf]; omega
      · have hcase : f' = true ∨ (f' = false ∧ ((t' : Int) == (turn : Int)) = false) := by
          cases f' with
          | true => exact .inl rfl
          | false => exact .inr ⟨rfl, by simp; intro e; exact hft ⟨rfl, by omega⟩⟩
        have HN3 := Lib.hid (HN2.out (by
          unfold tkB
          cases f' with
          | true => rfl
          | false => simp only [Bool.not_false, Bool.true_and]; rw [decide_eq_false (fun e => hft ⟨rfl, e⟩), Bool.false_and]))
        clear HT HF HTM HN2 HN HON HON1 ho' hft
        rcases hcase with rfl | ⟨rfl, e1⟩
        all_goals
          go_wp2
          go_roundw
          case rel => exact ⟨j + 1, _, _, by omega, by go_num, HN3, by simp only [alloc_extW, extW_extW]; rfl⟩
          case measure => simp [intOf]; omega
    · obtain rfl : j = k := by omega
      have dj : decide ((j : Int) < (j : Int)) = false := by simp
      have HV := Lib.hid (HF.out HN.out)
      clear HT HF HN
      go_wp2
      go_ret
      exact ⟨by rw [HV.out]; rfl, (by repeat (first | exact Below.refl _ _ | refine Below.drew ?_ | refine below_drewN ?_ _ | refine Below.alloc ?_ (by first | exact Nat.le_refl _ | (simp; done) | (simp; omega) | omega) _ | refine Below.setCell ?_ (by first | exact Nat.le_refl _ | (simp; done) | (simp; omega) | omega) _ | refine bExtW ?_ (by first | exact Nat.le_refl _ | (simp; done) | (simp; omega) | omega) | refine Below.trans ?_ (Below.mono (by assumption) (by first | exact Nat.le_refl _ | (simp; done) | (simp; omega) | omega))))⟩
end Go.Proofs.Ytooilennejakhaa

namespace Go.Proofs.Ytooilennejakhaa
open Go.RowKit
set_option linter.unusedVariables false
set_option linter.unusedSimpArgs false
open Z (torN place pnt Mv To lin okT nrm both idm md stepB)
def c9B (g n : Int) (M : List Mv) (r : Mv) : Bool := (List.range 9).all fun k => onB g M (shM n r ((k % 3 : Nat) : Int) ((k / 3 : Nat) : Int))
def ckB (g n : Int) (M : List Mv) (turn : Nat) (r : Mv) : Bool := r.f || (!decide (r.t = turn) || c9B g n M r)
def cenB (g n : Int) (L M : List Mv) (turn : Nat) : Bool := L.all (ckB g n M turn)
theorem cenB_false {g n : Int} {L M : List Mv} {turn : Nat} {r : Mv} (h : r ∈ L) (e : ckB g n M turn r = false) : cenB g n L M turn = false := by
  rw [← Bool.not_eq_true]
  intro e2
  exact Bool.false_ne_true (e.symm.trans (List.all_eq_true.1 e2 r h))
theorem cenB_true {g n : Int} {L M : List Mv} {turn : Nat} (h : ∀ j, j < L.length → ckB g n M turn (L.getD j idm) = true) : cenB g n L M turn = true := by
  refine List.all_eq_true.2 fun m hm => ?_
  obtain ⟨j, hj, rfl⟩ := List.mem_iff_getElem.1 hm
  have := h j hj
  rwa [List.getD_eq_getElem?_getD, List.getElem?_eq_getElem hj] at this
theorem c9B_true {g n : Int} {M : List Mv} {r : Mv} (h : ∀ k, k < 9 → onB g M (shM n r ((k % 3 : Nat) : Int) ((k / 3 : Nat) : Int)) = true) : c9B g n M r = true :=
  List.all_eq_true.2 fun k hk => h k (List.mem_range.1 hk)
theorem c9B_false {g n : Int} {M : List Mv} {r : Mv} {k : Nat} (hk : k < 9) (h : onB g M (shM n r ((k % 3 : Nat) : Int) ((k / 3 : Nat) : Int)) = false) : c9B g n M r = false := by
  rw [← Bool.not_eq_true]
  intro e2
  exact Bool.false_ne_true (h.symm.trans (List.all_eq_true.1 e2 k (List.mem_range.2 hk)))
set_option maxRecDepth 100000 in
set_option maxHeartbeats 8000000 in
theorem Centred_ok (g cW cH : Int) (ca : Option Addr) (cn cc : Nat) (L M : List Mv) (k n N turn : Nat) (a am : Option Addr) (c cm : Nat) (w : World) (hg : g = 4 ∨ g = 6) (hN : N ≤ 24) (hL : IsMoves w a k L) (hO : MvsOk g L) (hM : IsMoves w am n M) (hOM : MvsB g M) (hk : k ≤ 10000) (hn : n ≤ 10000000) :
    Calls Try.prog 36 #[.agg #[.int .i64 (g), .int .i64 (cW), .int .i64 (cH), .slice ca cn cc], .int .i64 (N), .slice a k c, .slice am n cm, .int .i64 (turn)] w fun e w' => e = .returned (.bool (cenB g N L M turn)) ∧ Below w.heap.size w w' := by
  have HL := Lib.hid hL
  have HO := Lib.hid hO
  have HM := Lib.hid hM
  have hlen := hL.1
  have HT : Hid (∀ m, m ∈ L → ckB g N M turn m = false → cenB g N L M turn = false) := Lib.hid fun m h e => cenB_false h e
  have HF : Hid ((∀ j, j < k → ckB g N M turn (L.getD j idm) = true) → cenB g N L M turn = true) := Lib.hid fun h => cenB_true (by rw [hlen]; exact h)
  have HON := Lib.hid (fun (t : Nat) (f : Bool) (x y : Int) w (ht : t < g.toNat) (hx : -200 ≤ x ∧ x ≤ 200) (hy : -200 ≤ y ∧ y ≤ 200) (hI : IsMoves w am n M) => on_ok g M n t f x y am cm w hg ht hx hy hI hOM hn)
  have HNN : Hid (∀ i j : Int, 0 ≤ i ∧ i ≤ 2 → 0 ≤ j ∧ j ≤ 2 → (0 ≤ (N : Int) * i ∧ (N : Int) * i ≤ 48) ∧ (0 ≤ (N : Int) * j ∧ (N : Int) * j ≤ 48)) := Lib.hid (by
    have hb : ∀ i : Int, 0 ≤ i ∧ i ≤ 2 → 0 ≤ (N : Int) * i ∧ (N : Int) * i ≤ 48 := fun i hi => by
      have h1 := Int.mul_le_mul_of_nonneg_left hi.1 (show (0 : Int) ≤ N by omega)
      have h2 := Int.mul_le_mul_of_nonneg_left hi.2 (show (0 : Int) ≤ N by omega)
      omega
    exact fun i j hi hj => ⟨hb i hi, hb j hj⟩)
  generalize cenB g N L M turn = hb at *
  clear hL hO hM
  go_enter Try.func36, Try.ntmps36
  go_wp2_with fail
  go_loopw [17] (fun iv wr => ∃ (j : Nat) (E : Array Obj) (d : Nat), j ≤ k ∧ iv = .int .i64 j ∧ Hid (∀ i, i < j → ckB g N M turn (L.getD i idm) = true) ∧ wr = extW (w.alloc (.cells #[.int .i64 g, .int .i64 cW, .int .i64 cH, .slice ca cn cc] 24)) E d) (fun iv _ => k - (intOf iv).toNat)
  case atStart =>
    obtain ⟨E0, d0, h0⟩ := bExt (Below.refl (w.alloc (.cells #[.int .i64 g, .int .i64 cW, .int .i64 cH, .slice ca cn cc] 24)).heap.size (w.alloc (.cells #[.int .i64 g, .int .i64 cW, .int .i64 cH, .slice ca cn cc] 24)))
    exact ⟨0, E0, d0, by omega, rfl, Lib.hid fun i h => absurd h (by omega), h0⟩
  case round =>
    obtain ⟨j, E1, d1, hj, rfl, HN, rfl⟩ := hrel
    by_cases hjk : j < k
    · have dj : decide ((j : Int) < (k : Int)) = true := by simpa using hjk
      have vj : IntKind.i64.wrap ((j : Int) + 1) = (j : Int) + 1 := IntWalk.i64_in _ (by omega)
      obtain ⟨b, o, rfl, hbb, hc⟩ := HL.out.2 (by omega)
      obtain ⟨c0, c1, c2, c3⟩ := hc j hjk
      have lb : LtW b w := hbb
      have hmem := getD_mem (L := L) (j := j) (by omega)
      have ht' := HO.out.t _ hmem
      have ho' := HO.out.o _ hmem
      have HTM := Lib.hid (HT.out _ hmem)
      have HN2 : Hid (ckB g N M turn (L.getD j idm) = true → ∀ i, i < j + 1 → ckB g N M turn (L.getD i idm) = true) := Lib.hid fun hne i hi => by
        by_cases e : i = j
        · subst e; exact hne
        · exact HN.out i (by omega)
      obtain ⟨m, hm⟩ : ∃ m, L.getD j idm = m := ⟨_, rfl⟩
      rw [hm] at c0 c1 c2 c3 ht' ho' HTM HN2
      clear hbb hc hm hmem
      obtain ⟨t', f', x', y'⟩ := m
      simp only at c0 c1 c2 c3 ht' ho'
      by_cases hft : f' = false ∧ t' = turn
      · obtain ⟨rfl, rfl⟩ := hft
        have e0 : ((t' : Int) != (t' : Int)) = false := by simp
        have hsm : ckB g N M t' ⟨t', false, (x', y')⟩ = c9B g N M ⟨t', false, (x', y')⟩ := by unfold ckB; simp
        rw [hsm] at HTM HN2
        have HC9F := Lib.hid (fun (k : Nat) (hk : k < 9) h => HTM.out (c9B_false (g := g) (n := N) (M := M) (r := ⟨t', false, (x', y')⟩) (k := k) hk h))
        have HC9T := Lib.hid (fun h => HN2.out (c9B_true (g := g) (n := N) (M := M) (r := ⟨t', false, (x', y')⟩) h))
        clear hsm HT HF HTM HN2 HN
        go_wp2_with fail
        go_loopw [13] (fun yv wr => ∃ (v : Nat) (E : Array Obj) (d : Nat), v ≤ 3 ∧ yv = .int .i64 v ∧ Hid (∀ i, i < 3 * v → onB g M (shM N ⟨t', false, (x', y')⟩ ((i % 3 : Nat) : Int) ((i / 3 : Nat) : Int)) = true) ∧ wr = extW ((extW (w.alloc (.cells #[.int .i64 g, .int .i64 cW, .int .i64 cH, .slice ca cn cc] 24)) E1 d1).alloc (.cells #[.int .i64 t', .bool false, .int .i64 x', .int .i64 y'] 39)) E d) (fun yv _ => 3 - (intOf yv).toNat)
        case atStart =>
          obtain ⟨E0, d0, h0⟩ := bExt (Below.refl ((extW (w.alloc (.cells #[.int .i64 g, .int .i64 cW, .int .i64 cH, .slice ca cn cc] 24)) E1 d1).alloc (.cells #[.int .i64 t', .bool false, .int .i64 x', .int .i64 y'] 39)).heap.size ((extW (w.alloc (.cells #[.int .i64 g, .int .i64 cW, .int .i64 cH, .slice ca cn cc] 24)) E1 d1).alloc (.cells #[.int .i64 t', .bool false, .int .i64 x', .int .i64 y'] 39)))
          exact ⟨0, E0, d0, by omega, rfl, Lib.hid fun i h => absurd h (by omega), h0⟩
        case round =>
          obtain ⟨v, E2, d2, hv, rfl, HV, rfl⟩ := hrel
          by_cases hv3 : v < 3
          · have dv : decide ((v : Int) < 3) = true := by simp; omega
            have vv : IntKind.i64.wrap ((v : Int) + 1) = (v : Int) + 1 := IntWalk.i64_in _ (by omega)
            go_wp2_with fail
            go_loopw [14] (fun xv wr => ∃ (u : Nat) (E : Array Obj) (d : Nat), u ≤ 3 ∧ xv = .int .i64 u ∧ Hid (∀ i, i < 3 * v + u → onB g M (shM N ⟨t', false, (x', y')⟩ ((i % 3 : Nat) : Int) ((i / 3 : Nat) : Int)) = true) ∧ wr = extW ((extW (w.alloc (.cells #[.int .i64 g, .int .i64 cW, .int .i64 cH, .slice ca cn cc] 24)) E1 d1).alloc (.cells #[.int .i64 t', .bool false, .int .i64 x', .int .i64 y'] 39)) E d) (fun xv _ => 3 - (intOf xv).toNat)
            case atStart => exact ⟨0, E2, d2, by omega, rfl, HV, rfl⟩
            case round =>
              obtain ⟨u, E3, d3, hu, rfl, HU, rfl⟩ := hrel
              by_cases hu3 : u < 3
              · have du : decide ((u : Int) < 3) = true := by simp; omega
                have vu : IntKind.i64.wrap ((u : Int) + 1) = (u : Int) + 1 := IntWalk.i64_in _ (by omega)
                have hnb := HNN.out u v (by omega) (by omega)
                have HSH := Lib.hid (fun w => shifted_any (N : Int) u v t' false x' y' w (by omega) (by omega) (by omega) (by omega) (by omega))
                have HON1 := Lib.hid (fun w hI => HON.out t' false (x' + (N : Int) * u) (y' + (N : Int) * v) w ht' (by omega) (by omega) hI)
                have hsm : (⟨t', false, (x' + (N : Int) * u, y' + (N : Int) * v)⟩ : Mv) = shM N ⟨t', false, (x', y')⟩ (((3 * v + u) % 3 : Nat) : Int) (((3 * v + u) / 3 : Nat) : Int) := by
                  rw [show (3 * v + u) % 3 = u by omega, show (3 * v + u) / 3 = v by omega]
                  rfl
                have HU2 : Hid (onB g M ⟨t', false, (x' + (N : Int) * u, y' + (N : Int) * v)⟩ = true → ∀ i, i < 3 * v + (u + 1) → onB g M (shM N ⟨t', false, (x', y')⟩ ((i % 3 : Nat) : Int) ((i / 3 : Nat) : Int)) = true) := Lib.hid fun h i hi => by
                  by_cases e : i = 3 * v + u
                  · subst e; rw [← hsm]; exact h
                  · exact HU.out i (by omega)
                have HCF : Hid (onB g M ⟨t', false, (x' + (N : Int) * u, y' + (N : Int) * v)⟩ = false → hb = false) := Lib.hid fun h => HC9F.out (3 * v + u) (by omega) (by rw [← hsm]; exact h)
                have hV1 : mvV ⟨t', false, (x' + (N : Int) * u, y' + (N : Int) * v)⟩ = .agg #[.int .i64 (t'), .bool (false), .int .i64 (x' + (N : Int) * u), .int .i64 (y' + (N : Int) * v)] := rfl
                rw [hV1] at HSH
                clear hsm hV1 hnb
                generalize x' + (N : Int) * u = p at *
                generalize y' + (N : Int) * v = q at *
                cases ho : onB g M ⟨t', false, (p, q)⟩ with
                | true =>
                  rw [ho] at HU2 HON1
                  have HU3 := Lib.hid (HU2.out rfl)
                  clear HU HU2 HCF HON ho HC9F HC9T HV
                  go_wp2_with fail
                  (refine wp_region_ext (by kernel_rfl) (by kernel_rfl) ?_; (repeat (first | ((with_reducible refine ext_step (fun K hK => ?_)); go_simp; first | (refine hK _ ?_; clear hK K) | (apply Exists.intro; refine ⟨fun _ _ => ?_, hK _ ?_⟩; (first | ((go_at_call 34; exact extOf (HSH.out _))) | ((go_at_call 51; exact extOf (HON1.out _ (HM.out.below (by repeat (first | exact Below.refl _ _ | refine Below.drew ?_ | refine below_drewN ?_ _ | refine Below.alloc ?_ (by first | exact Nat.le_refl _ | (simp; done) | (simp; omega) | omega) _ | refine Below.setCell ?_ (by first | exact Nat.le_refl _ | (simp; done) | (simp; omega) | omega) _ | refine bExtW ?_ (by first | exact Nat.le_refl _ | (simp; done) | (simp; omega) | omega) | refine Below.trans ?_ (Below.mono (by assumption) (by first | exact Nat.le_refl _ | (simp; done) | (simp; omega) | omega))))))))); clear hK K)))); refine wpQuiet_nil ?_; intro E d)
                  go_wp2
                  go_roundw
                  case rel => exact ⟨u + 1, _, _, by omega, by go_num, HU3, by simp only [extW_extW]; rfl⟩
                  case measure => simp [intOf]; omega
                | false =>
                  rw [ho] at HCF HON1
                  have HVV := Lib.hid (HCF.out rfl)
                  clear HU HU2 HCF HON ho HC9F HC9T HV
                  go_wp2_with fail
                  (refine wp_region_ext (by kernel_rfl) (by kernel_rfl) ?_; (repeat (first | ((with_reducible refine ext_step (fun K hK => ?_)); go_simp; first | (refine hK _ ?_; clear hK K) | (apply Exists.intro; refine ⟨fun _ _ => ?_, hK _ ?_⟩; (first | ((go_at_call 34; exact extOf (HSH.out _))) | ((go_at_call 51; exact extOf (HON1.out _ (HM.out.below (by repeat (first | exact Below.refl _ _ | refine Below.drew ?_ | refine below_drewN ?_ _ | refine Below.alloc ?_ (by first | exact Nat.le_refl _ | (simp; done) | (simp; omega) | omega) _ | refine Below.setCell ?_ (by first | exact Nat.le_refl _ | (simp; done) | (simp; omega) | omega) _ | refine bExtW ?_ (by first | exact Nat.le_refl _ | (simp; done) | (simp; omega) | omega) | refine Below.trans ?_ (Below.mono (by assumption) (by first | exact Nat.le_refl _ | (simp; done) | (simp; omega) | omega))))))))); clear hK K)))); refine wpQuiet_nil ?_; intro E d)
                  go_wp2
                  go_ret
                  exact ⟨by rw [HVV.out]; rfl, (by repeat (first | exact Below.refl _ _ | refine Below.drew ?_ | refine below_drewN ?_ _ | refine Below.alloc ?_ (by first | exact Nat.le_refl _ | (simp; done) | (simp; omega) | omega) _ | refine Below.setCell ?_ (by first | exact Nat.le_refl _ | (simp; done) | (simp; omega) | omega) _ | refine bExtW ?_ (by first | exact Nat.le_refl _ | (simp; done) | (simp; omega) | omega) | refine Below.trans ?_ (Below.mono (by assumption) (by first | exact Nat.le_refl _ | (simp; done) | (simp; omega) | omega))))⟩
              · obtain rfl : u = 3 := by omega
                have du : decide (((3 : Nat) : Int) < 3) = false := by simp
                have HV2 : Hid (∀ i, i < 3 * (v + 1) → onB g M (shM N ⟨t', false, (x', y')⟩ ((i % 3 : Nat) : Int) ((i / 3 : Nat) : Int)) = true) := Lib.hid fun i hi => HU.out i (by omega)
                clear HU HC9F HC9T HV
                go_wp2
                go_roundw
                case rel => exact ⟨v + 1, _, _, by omega, by go_num, HV2, rfl⟩
                case measure => simp [intOf]; omega
          · obtain rfl : v = 3 := by omega
            have dv : decide (((3 : Nat) : Int) < 3) = false := by simp
            have HN3 := Lib.hid (HC9T.out fun k hk => HV.out k (by omega))
            clear HC9F HC9T HV
            go_wp2
            go_roundw
            case rel => exact ⟨j + 1, _, _, by omega, by go_num, HN3, by simp only [alloc_extW, extW_extW]; rfl⟩
            case measure => simp [intOf]; omega
      · have hcase : f' = true ∨ (f' = false ∧ ((t' : Int) != (turn : Int)) = true) := by
          cases f' with
          | true => exact .inl rfl
          | false => exact .inr ⟨rfl, by simp; intro e; exact hft ⟨rfl, by omega⟩⟩
        have HN3 := Lib.hid (HN2.out (by
          unfold ckB
          cases f' with
          | true => rfl
          | false => simp only [Bool.false_or]; rw [decide_eq_false (fun e => hft ⟨rfl, e⟩)]; rfl))
        clear HT HF HTM HN2 HN HON ho' hft
        rcases hcase with rfl | ⟨rfl, e1⟩
        all_goals
          go_wp2
          go_roundw
          case rel => exact ⟨j + 1, _, _, by omega, by go_num, HN3, by simp only [alloc_extW, extW_extW]; rfl⟩
          case measure => simp [intOf]; omega
    · obtain rfl : j = k := by omega
      have dj : decide ((j : Int) < (j : Int)) = false := by simp
      have HV := Lib.hid (HF.out HN.out)
      clear HT HF HN
      go_wp2
      go_ret
      exact ⟨by rw [HV.out]; rfl, (by repeat (first | exact Below.refl _ _ | refine Below.drew ?_ | refine below_drewN ?_ _ | refine Below.alloc ?_ (by first | exact Nat.le_refl _ | (simp; done) | (simp; omega) | omega) _ | refine Below.setCell ?_ (by first | exact Nat.le_refl _ | (simp; done) | (simp; omega) | omega) _ | refine bExtW ?_ (by first | exact Nat.le_refl _ | (simp; done) | (simp; omega) | omega) | refine Below.trans ?_ (Below.mono (by assumption) (by first | exact Nat.le_refl _ | (simp; done) | (simp; omega) | omega))))⟩
end Go.Proofs.Ytooilennejakhaa

namespace Go.Proofs.Ytooilennejakhaa
open Go.RowKit
set_option linter.unusedVariables false
set_option linter.unusedSimpArgs false
open Z (torN place pnt Mv To lin okT nrm both idm md stepB)
def q3 (n : Int) (m : Mv) (k : Nat) : Mv := shM n m (((k % 3 : Nat) : Int) - 1) (((k / 3 : Nat) : Int) - 1)
def lnK (g : Int) (L : List Mv) (n : Int) (m : Mv) (k : Nat) : Bool := lnB g L n m.t (q3 n m k).o
def anyN (Q : Nat → Bool) (k : Nat) : Bool := (List.range k).any Q
def PT (t : Nat) (m : Mv) : Bool := decide (m.t = t) && !m.f
def PF (t : Nat) (m : Mv) : Bool := decide (m.t = t) && m.f
def PS (g : Int) (L : List Mv) (n : Int) (t : Nat) (m : Mv) : Bool := decide (m.t = t) && (m.f && anyN (lnK g L n m) 9)
def PO (g : Int) (L : List Mv) (n : Int) (t : Nat) (m : Mv) : Bool := decide (m.t = t) && (m.f && anyN (fun k => !lnK g L n m k) 9)
def anyL (P : Mv → Bool) (L : List Mv) (j : Nat) : Bool := (L.take j).any P
def cnt (Q : Nat → Bool) (t : Nat) : Nat := (List.range t).countP Q
theorem anyN_succ (Q : Nat → Bool) (k : Nat) : anyN Q (k + 1) = (anyN Q k || Q k) := by
  unfold anyN; rw [List.range_succ, List.any_append]; simp
theorem anyL_succ (P : Mv → Bool) {L : List Mv} {j : Nat} (hj : j < L.length) : anyL P L (j + 1) = (anyL P L j || P (L.getD j idm)) := by
  have h : L.take (j + 1) = L.take j ++ [L[j]] := by rw [List.take_add_one, List.getElem?_eq_getElem hj]; rfl
  have h2 : L.getD j idm = L[j] := by rw [List.getD_eq_getElem?_getD, List.getElem?_eq_getElem hj]; rfl
  unfold anyL; rw [h, h2, List.any_append]; simp
theorem cnt_succ (Q : Nat → Bool) (t : Nat) : ((cnt Q (t + 1) : Nat) : Int) = (cnt Q t : Nat) + (if Q t = true then 1 else 0) := by
  unfold cnt; rw [List.range_succ, List.countP_append]
  cases h : Q t <;> simp [h]
/-- What the document says of what it counted. -/
def rkS (tn fl mi gl : Int) (cen some : Bool) : Int :=
  if tn = 1 then (if fl = 0 then 1 else if gl = 0 then 3 else if mi = 0 then 4 else 5)
  else if tn = 2 then (if fl = 0 then 2 else if gl = 0 then 6 else if mi = 0 then 8 else if mi = 2 then 9 else 7)
  else if tn = 3 then (if fl = 0 then 13 else if cen = true then 14 else 15)
  else if tn = 4 then (if fl = 0 then 10 else if some = true then 11 else 12)
  else if fl = 0 then 16 else 17
def rkP (G N : Nat) (L : List Mv) : Int :=
  rkS (cnt (fun t => L.any (PT t)) G : Nat) (cnt (fun t => L.any (PF t)) G : Nat) (cnt (fun t => L.any (PS G L N t)) G : Nat) (cnt (fun t => L.any (PO G L N t)) G : Nat) (cenB G N L (mrL G N L L.length) 2) (someB G L (mrL G N L L.length) 1)
theorem mvsOk_moves {G W H N : Nat} {cs : List Int} (hg : Z.G (G : Int)) (h0 : 0 < N) (h24 : N ≤ 24) (hd : W ∣ N ∧ H ∣ N) : MvsOk G (Z.movesL W H cs G N) := by
  have hm := Z.movesL_grp (cs := cs) (g := (G : Int)) h0 hd.1 hd.2
  refine ⟨fun m h => ?_, fun m h => ?_⟩
  · have := ((hm.mem m).1 h).1
    exact this
  · have := ((hm.mem m).1 h).2.2
    omega
theorem mvsB_mir {g : Int} {L : List Mv} {n : Nat} (hn : n ≤ 24) (h : MvsOk g L) : MvsB g (mrL g n L L.length) := by
  have hb : ∀ i : Int, -5 ≤ i ∧ i ≤ 5 → -120 ≤ (n : Int) * i ∧ (n : Int) * i ≤ 120 := fun i hi => by
    have h1 := Int.mul_le_mul_of_nonneg_left hi.1 (show (0 : Int) ≤ n by omega)
    have h2 := Int.mul_le_mul_of_nonneg_left hi.2 (show (0 : Int) ≤ n by omega)
    omega
  refine ⟨fun m hm => ?_, fun m hm => ?_⟩
  · obtain ⟨x, hx, _, i, j, _, _, rfl, _⟩ := mem_mrL.1 hm
    exact h.t x hx
  · obtain ⟨x, hx, _, i, j, hi, hj, rfl, _⟩ := mem_mrL.1 hm
    have h1 := h.o x hx
    have h2 := hb i hi
    have h3 := hb j hj
    show (-200 ≤ x.o.1 + (n : Int) * i ∧ x.o.1 + (n : Int) * i ≤ 200) ∧ (-200 ≤ x.o.2 + (n : Int) * j ∧ x.o.2 + (n : Int) * j ≤ 200)
    omega
theorem mrL_len (g : Int) (n : Int) (L : List Mv) (k : Nat) : (mrL g n L k).length ≤ k * 121 := by
  have h1 : ∀ m j i, (mrR g n m j i).length ≤ i := fun m j i => by
    unfold mrR
    refine Nat.le_trans (List.length_filter_le _ _) ?_
    simp
  have h2 : ∀ m j, (mrC g n m j).length ≤ j * 11 := fun m j => by
    induction j with
    | zero => simp [mrC]
    | succ j ih => rw [mrC_succ, List.length_append]; have := h1 m j 11; omega
  have h3 : ∀ l : List Mv, (l.flatMap fun m => if m.f then mrC g n m 11 else []).length ≤ l.length * 121 := fun l => by
    induction l with
    | nil => simp
    | cons m l ih =>
      rw [List.flatMap_cons, List.length_append, List.length_cons]
      have h4 : (if m.f then mrC g n m 11 else []).length ≤ 121 := by
        split
        · exact h2 m 11
        · simp
      omega
  refine Nat.le_trans (h3 _) ?_
  rw [List.length_take]
  exact Nat.mul_le_mul_right _ (Nat.min_le_left _ _)
set_option maxRecDepth 100000 in
set_option maxHeartbeats 8000000 in
theorem rKind_bad (G W H : Int) (a : Option Addr) (n c : Nat) (cs : List Int) (w : World) (hI : IsInts w a n cs) (e : Int) (hT : TorBad e (.agg #[.int .i64 (G), .int .i64 (W), .int .i64 (H), .slice a n c]) a n cs) :
    Calls Try.prog 14 #[.agg #[.int .i64 (G), .int .i64 (W), .int .i64 (H), .slice a n c]] w fun r w' => r = .returned (.tuple #[.int .i64 (0), .int .i64 (e)]) ∧ Below w.heap.size w w' := by
  have hb : (e != 0) = true := by simpa using hT.1
  have HL := Lib.hid hT.2.2
  have HI := Lib.hid hI
  clear hI hT
  go_enter Try.func14, Try.ntmps14
  (go_wp2_with fail; refine (HL.out _ (HI.out.below (by repeat (first | exact Below.refl _ _ | refine Below.drew ?_ | refine below_drewN ?_ _ | refine Below.alloc ?_ (by first | exact Nat.le_refl _ | (simp; done) | (simp; omega) | omega) _ | refine Below.setCell ?_ (by first | exact Nat.le_refl _ | (simp; done) | (simp; omega) | omega) _ | refine bExtW ?_ (by first | exact Nat.le_refl _ | (simp; done) | (simp; omega) | omega) | refine Below.trans ?_ (Below.mono (by assumption) (by first | exact Nat.le_refl _ | (simp; done) | (simp; omega) | omega)))))).mono ?_; rintro r w1 ⟨rfl, hb⟩; obtain ⟨E, d, rfl⟩ := bExt hb; clear hb)
  go_wp2
  refine bodyPost_ret (v := .tuple #[.int .i64 (0), .int .i64 (e)]) (by simp [results, Try.results14, go_sem]) rfl ⟨rfl, (by repeat (first | exact Below.refl _ _ | refine Below.drew ?_ | refine below_drewN ?_ _ | refine Below.alloc ?_ (by first | exact Nat.le_refl _ | (simp; done) | (simp; omega) | omega) _ | refine Below.setCell ?_ (by first | exact Nat.le_refl _ | (simp; done) | (simp; omega) | omega) _ | refine bExtW ?_ (by first | exact Nat.le_refl _ | (simp; done) | (simp; omega) | omega) | refine Below.trans ?_ (Below.mono (by assumption) (by first | exact Nat.le_refl _ | (simp; done) | (simp; omega) | omega))))⟩
end Go.Proofs.Ytooilennejakhaa
