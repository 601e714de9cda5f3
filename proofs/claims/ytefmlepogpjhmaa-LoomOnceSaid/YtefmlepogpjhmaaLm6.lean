/- Chapter 10: the row that is lifted; a loom is opened. -/
import Derived.Test.YtefmlepogpjhmaaLm5
import Derived.Test.YtefmlepogpjhmaaRf1
namespace Go.Proofs.Ytefmlepogpjhmaa
open Go.RowKit
set_option linter.unusedVariables false
set_option linter.unusedSimpArgs false
open Lm
theorem bools_cells {w : World} {A : Option Addr} {n : Nat} {row : List Bool} (h : IsBools w A n row) (hn : 0 < n) : ∃ b of, A = some ⟨b, of, none⟩ ∧ ∀ j u, (row.map Value.bool)[j]? = some u → w.cell? ⟨b, of + j, none⟩ = some u := by
  obtain ⟨b, o, e, _, hc⟩ := h.2 hn
  refine ⟨b, o, e, fun j u hj => ?_⟩
  have hjl : j < row.length := by
    have := (List.getElem?_eq_some_iff.1 hj).1
    simpa using this
  rw [hc j (by rw [← h.1]; exact hjl)]
  rw [List.getElem?_map, List.getElem?_eq_getElem hjl] at hj
  rw [show row.getD j false = row[j] by simp [List.getD, hjl]]
  exact hj
theorem bools_ones (l : List Bool) : ∀ u ∈ l.map Value.bool, u.oneCell' = true := by
  intro u hu
  obtain ⟨b, _, rfl⟩ := List.mem_map.1 hu
  rfl
theorem ownsB_empty (w : World) (base : Nat) (hb : base ≤ w.heap.size) : (w.alloc (.cells #[] 4)).ownsRow base 4 1 (.slice (some ⟨w.heap.size, 0, none⟩) 0 0) 0 [] :=
  ⟨rfl, .inr ⟨w.heap.size, 0, #[], rfl, hb, heap_alloc_new w _, Nat.le_refl _, by unfold maxLen; omega, rfl, rfl⟩⟩
/-- A list of bits, made by the call. -/
def BPost (L : List Bool) (w : World) (r : Ending) (w' : World) : Prop := ∃ A C, r = .returned (.slice A L.length C) ∧ w'.ownsRow w.heap.size 4 1 (.slice A L.length C) L.length (L.map Value.bool) ∧ Below w.heap.size w w'
set_option maxRecDepth 100000 in
set_option maxHeartbeats 8000000 in
theorem cloneB_nil (c : Nat) (w : World) : Calls Try.prog 26 #[.slice none 0 c] w fun e w' => e = .returned (.slice none 0 0) ∧ Below w.heap.size w w' := by
  go_enter Try.func26, Try.ntmps26
  have hq := fun w : World => Go.Lib.run_eql_slice_nil (P := Try.prog) w 22 4 none 0 c 0 0 Try.underlying22
  go_wp2
  go_ret
  exact ⟨rfl, (by repeat (first | exact Below.refl _ _ | refine Below.drew ?_ | refine below_drewN ?_ _ | refine Below.alloc ?_ (by first | exact Nat.le_refl _ | (simp; done) | (simp; omega) | omega) _ | refine Below.setCell ?_ (by first | exact Nat.le_refl _ | (simp; done) | (simp; omega) | omega) _ | refine bExtW ?_ (by first | exact Nat.le_refl _ | (simp; done) | (simp; omega) | omega) | refine Below.trans ?_ (Below.mono (by assumption) (by first | exact Nat.le_refl _ | (simp; done) | (simp; omega) | omega))))⟩
set_option maxRecDepth 100000 in
set_option maxHeartbeats 8000000 in
theorem cloneB_some (ad : Addr) (n c : Nat) (l : List Bool) (w : World) (hI : IsBools w (some ad) n l) (hn : n ≤ 1000000000) : Calls Try.prog 26 #[.slice (some ad) n c] w (BPost l w) := by
  have hl := hI.1
  subst hl
  have HI := Lib.hid hI
  clear hI
  go_enter Try.func26, Try.ntmps26
  have hq := fun w : World => Go.Lib.run_eql_slice_nil (P := Try.prog) w 22 4 (some ad) l.length c 0 0 Try.underlying22
  go_wp2_with (at_builtin; refine wpAppV okBools rfl (.tmp 5) (.tmp 6) rfl w.heap.size _ 0 [] (some ad) l.length c (l.map Value.bool) rfl (ownsB_empty w _ (Nat.le_refl _)) rfl (fun e => by cases e) (by simp) (bools_cells (HI.out.below (Below.alloc (Below.refl _ _) (Nat.le_refl _) _))) (bools_ones l) (by omega) (by omega) (by simp) ?_)
  intro v' w2 hown2 hg2 hat2
  obtain ⟨A, C, rfl⟩ := own_form hown2
  have hb2 : Below w.heap.size w w2 := Below.trans (Below.alloc (Below.refl _ _) (Nat.le_refl _) _) (belowGrown hg2 (by simp) (fun k hk => by simp [Value.ownBlock] at hk; omega))
  have HO := Lib.hid hown2; have HB := Lib.hid hb2
  clear hown2 hg2 hat2 hb2
  go_wp2
  go_ret
  unfold BPost
  refine ⟨A, C, by simp, ?_, HB.out⟩
  have := HO.out
  simpa using this
theorem cloneB_any (a : Option Addr) (n c : Nat) (l : List Bool) (w : World) (hI : IsBools w a n l) (hn : n ≤ 1000000000) : Calls Try.prog 26 #[.slice a n c] w (BPost l w) := by
  cases a with
  | some ad => exact cloneB_some ad n c l w hI hn
  | none =>
    have h0 : n = 0 := by
      rcases Nat.eq_zero_or_pos n with h | h
      · exact h
      · obtain ⟨_, _, e, _⟩ := hI.2 h; cases e
    subst h0
    obtain rfl : l = [] := List.length_eq_zero_iff.1 hI.1
    refine (cloneB_nil c w).mono ?_
    rintro r w' ⟨rfl, hb⟩
    exact ⟨none, 0, rfl, World.ownsRow_nil _ _ _ _, hb⟩
theorem slice_rowsL {W n c k M : Nat} {a : Option Addr} (hc : n ≤ c) (hM : k * W = M) (hle : M + W ≤ n) : ∀ wx, (Instr.slice 22 (.slice a n c) (some (.int .i64 (M))) (some (.int .i64 ((M : Int) + (W : Int)))) none).run Try.prog wx = .ok (rowV a c W k) wx := by
  intro wx
  have h1 := run_slice_lh (P := Try.prog) wx 22 a n c (by kernel_rfl) .i64 .i64 (M : Int) ((M : Int) + (W : Int)) (by omega) (by omega) (by omega)
  rw [h1]
  have e1 : ((M : Int)).toNat = M := by omega
  have e2 : (((M : Int) + (W : Int))).toNat = M + W := by omega
  rw [e1, e2]
  have hsz : (sizeOf (Try.prog.elem 22)).run Try.prog wx = .ok 1 wx := by go_simp
  rw [hsz]
  simp only [Result.andThen, sliced, rowV, hM, Nat.mul_one, show M + W - M = W by omega]
theorem rowV_boolsL {w : World} {a : Option Addr} {n c W k : Nat} {bs : List Bool} (hI : IsBools w a n bs) (hc : n ≤ c) (hle : k * W + W ≤ n) : IsBools w (if c = k * W then a else a.map (·.add (k * W))) W ((bs.drop (k * W)).take W) := by
  refine ⟨by rw [List.length_take, List.length_drop, hI.1]; omega, fun hW => ?_⟩
  obtain ⟨b, o, rfl, hb, hcell⟩ := hI.2 (by omega)
  refine ⟨b, o + k * W, ?_, hb, fun j hj => ?_⟩
  · rw [if_neg (by omega)]
    show some (Addr.add ⟨b, o, none⟩ (k * W)) = _
    rw [Addr.add_lit]
  · rw [Nat.add_assoc, hcell (k * W + j) (by omega)]
    rw [List.getD_eq_getElem?_getD, List.getD_eq_getElem?_getD, List.getElem?_take, if_pos hj, List.getElem?_drop]
theorem own_lower {w : World} {base base' e size n : Nat} {v : Value} {xs : List Value} (h : w.ownsRow base' e size v n xs) (hb : base ≤ base') : w.ownsRow base e size v n xs := by
  refine ⟨h.1, ?_⟩
  rcases h.2 with h2 | ⟨g, cap, cur, e1, e2, e3⟩
  · exact .inl h2
  · exact .inr ⟨g, cap, cur, e1, Nat.le_trans hb e2, e3⟩
/-- What is told of the row that is lifted. -/
def RowPostL (L : List Bool) (er : Int) (w : World) (r : Ending) (w' : World) : Prop := ∃ A C, r = .returned (.tuple #[.slice A L.length C, .int .i64 (er)]) ∧ w'.ownsRow w.heap.size 4 1 (.slice A L.length C) L.length (L.map Value.bool) ∧ Below w.heap.size w w'
set_option maxRecDepth 100000 in
set_option maxHeartbeats 8000000 in
theorem Row_any (a b W H : Nat) (A : Option Addr) (n c : Nat) (bs : List Bool) (l : St) (w : World) (hm : LMr a b W H (.slice A n c) l w) (hI : IsBools w A n bs) (hc : n ≤ c) (hn : n = W * H) (hW : W ≤ 64) (hH : H ≤ 64) (hlt : l.at_ ≤ 5 → l.wv < H) :
    Calls Try.prog 16 #[.pointer (some ⟨a, 0, none⟩)] w (RowPostL (rowOf W bs l) (if 1 ≤ l.at_ ∧ l.at_ ≤ 4 then 0 else 9) w) := by
  obtain ⟨m0, m1, m2, m3, m4, m5, m6, m7⟩ := LMr.cells hm
  have lm := (hm).lt
  have fm4 := (hm).frozen 4; have fm5 := (hm).frozen 5; have fm6 := (hm).frozen 6; have fm7 := (hm).frozen 7
  have lm2 : LtW a w := lm
  have HM := Lib.hid hm
  have HI := Lib.hid hI
  clear hm hI lm
  by_cases hat : 1 ≤ l.at_ ∧ l.at_ ≤ 4
  · have hwv := hlt (by omega)
    obtain ⟨M, hM⟩ : ∃ M, l.wv * W = M := ⟨_, rfl⟩
    have hle : M + W ≤ n := by
      rw [hn, ← hM, Nat.mul_comm W H, ← Nat.succ_mul]
      exact Nat.mul_le_mul_right W hwv
    have hn4 : n ≤ 4096 := by rw [hn]; exact Nat.mul_le_mul hW hH
    have hmi : (l.wv : Int) * (W : Int) = (M : Int) := by rw [← Int.natCast_mul, hM]
    have v1 : IntKind.i64.wrap (M : Int) = (M : Int) := IntWalk.i64_in _ (by omega)
    have v2 : IntKind.i64.wrap ((M : Int) + (W : Int)) = (M : Int) + (W : Int) := IntWalk.i64_in _ (by omega)
    have hsl := slice_rowsL (a := A) hc hM hle
    have HR := Lib.hid (fun w' (h : IsBools w' A n bs) => rowV_boolsL (k := l.wv) h hc (by rw [hM]; exact hle))
    have hlen : ((bs.drop (l.wv * W)).take W).length = W := (rowV_boolsL HI.out hc (by rw [hM]; exact hle)).1
    have hro : rowOf W bs l = (bs.drop (l.wv * W)).take W := by unfold rowOf; rw [if_pos hat]
    rw [hro, if_pos hat]
    unfold rowV at hsl
    obtain ⟨RB, hRB⟩ : ∃ RB, (if c = l.wv * W then A else A.map (·.add (l.wv * W))) = RB := ⟨_, rfl⟩
    obtain ⟨rc, hrc⟩ : ∃ rc, c - l.wv * W = rc := ⟨_, rfl⟩
    rw [hRB] at hsl HR
    rw [hrc] at hsl
    obtain ⟨RW_, hRW⟩ : ∃ R, (bs.drop (l.wv * W)).take W = R := ⟨_, rfl⟩
    rw [hRW] at HR hlen ⊢
    have HL := Lib.hid hlen
    clear hro hRB hrc hRW hlen hM hn hlt
    have ha : l.at_ = 1 ∨ l.at_ = 2 ∨ l.at_ = 3 ∨ l.at_ = 4 := by omega
    obtain ⟨x, hx⟩ : ∃ x, l.at_ = x := ⟨_, rfl⟩
    rw [hx] at m5 ha
    clear hat hx
    rcases ha with rfl | rfl | rfl | rfl
    · skip
      go_enter Try.func16, Try.ntmps16
      go_wp2_with fail
      (refine wp_region_ext (by kernel_rfl) (by kernel_rfl) ?_; (repeat (first | ((with_reducible refine ext_step (fun K hK => ?_)); go_simp; first | (refine hK _ ?_; clear hK K) | (apply Exists.intro; refine ⟨fun _ _ => ?_, hK _ ?_⟩; fail; clear hK K)))); refine wpQuiet_nil ?_; intro E d)
      go_wp2_with fail
      (refine wp_region_ext_tail 14 (by kernel_rfl) (by kernel_rfl) ?_; simp only [List.take_succ_cons, List.take_zero, List.drop_succ_cons, List.drop_zero]; (repeat (first | ((with_reducible refine ext_step (fun K hK => ?_)); go_simp; first | (refine hK _ ?_; clear hK K) | (apply Exists.intro; refine ⟨fun _ _ => ?_, hK _ ?_⟩; fail; clear hK K)))); refine wpQuiet_nil ?_; intro E d)
      go_wp2_with fail
      refine (cloneB_any RB W rc RW_ _ (HR.out _ (HI.out.below (by repeat (first | exact Below.refl _ _ | refine Below.drew ?_ | refine below_drewN ?_ _ | refine Below.alloc ?_ (by first | exact Nat.le_refl _ | (simp; done) | (simp; omega) | omega) _ | refine Below.setCell ?_ (by first | exact Nat.le_refl _ | (simp; done) | (simp; omega) | omega) _ | refine bExtW ?_ (by first | exact Nat.le_refl _ | (simp; done) | (simp; omega) | omega) | refine Below.trans ?_ (Below.mono (by assumption) (by first | exact Nat.le_refl _ | (simp; done) | (simp; omega) | omega)))))) (by omega)).mono ?_
      rintro r w2 ⟨A2, C2, rfl, ho2, hb2⟩
      have ho3 := own_lower (base := w.heap.size) ho2 (by simp; omega)
      have hb3 : Below w.heap.size w w2 := Below.trans (by repeat (first | exact Below.refl _ _ | refine Below.drew ?_ | refine below_drewN ?_ _ | refine Below.alloc ?_ (by first | exact Nat.le_refl _ | (simp; done) | (simp; omega) | omega) _ | refine Below.setCell ?_ (by first | exact Nat.le_refl _ | (simp; done) | (simp; omega) | omega) _ | refine bExtW ?_ (by first | exact Nat.le_refl _ | (simp; done) | (simp; omega) | omega) | refine Below.trans ?_ (Below.mono (by assumption) (by first | exact Nat.le_refl _ | (simp; done) | (simp; omega) | omega)))) (hb2.mono (by simp; omega))
      have HO := Lib.hid ho3; have HB := Lib.hid hb3
      clear ho2 hb2 ho3 hb3
      go_wp2
      go_ret2
      exact ⟨A2, C2, rfl, HO.out, HB.out⟩
    · skip
      go_enter Try.func16, Try.ntmps16
      go_wp2_with fail
      (refine wp_region_ext (by kernel_rfl) (by kernel_rfl) ?_; (repeat (first | ((with_reducible refine ext_step (fun K hK => ?_)); go_simp; first | (refine hK _ ?_; clear hK K) | (apply Exists.intro; refine ⟨fun _ _ => ?_, hK _ ?_⟩; fail; clear hK K)))); refine wpQuiet_nil ?_; intro E d)
      go_wp2_with fail
      (refine wp_region_ext_tail 14 (by kernel_rfl) (by kernel_rfl) ?_; simp only [List.take_succ_cons, List.take_zero, List.drop_succ_cons, List.drop_zero]; (repeat (first | ((with_reducible refine ext_step (fun K hK => ?_)); go_simp; first | (refine hK _ ?_; clear hK K) | (apply Exists.intro; refine ⟨fun _ _ => ?_, hK _ ?_⟩; fail; clear hK K)))); refine wpQuiet_nil ?_; intro E d)
      go_wp2_with fail
      refine (cloneB_any RB W rc RW_ _ (HR.out _ (HI.out.below (by repeat (first | exact Below.refl _ _ | refine Below.drew ?_ | refine below_drewN ?_ _ | refine Below.alloc ?_ (by first | exact Nat.le_refl _ | (simp; done) | (simp; omega) | omega) _ | refine Below.setCell ?_ (by first | exact Nat.le_refl _ | (simp; done) | (simp; omega) | omega) _ | refine bExtW ?_ (by first | exact Nat.le_refl _ | (simp; done) | (simp; omega) | omega) | refine Below.trans ?_ (Below.mono (by assumption) (by first | exact Nat.le_refl _ | (simp; done) | (simp; omega) | omega)))))) (by omega)).mono ?_
      rintro r w2 ⟨A2, C2, rfl, ho2, hb2⟩
      have ho3 := own_lower (base := w.heap.size) ho2 (by simp; omega)
      have hb3 : Below w.heap.size w w2 := Below.trans (by repeat (first | exact Below.refl _ _ | refine Below.drew ?_ | refine below_drewN ?_ _ | refine Below.alloc ?_ (by first | exact Nat.le_refl _ | (simp; done) | (simp; omega) | omega) _ | refine Below.setCell ?_ (by first | exact Nat.le_refl _ | (simp; done) | (simp; omega) | omega) _ | refine bExtW ?_ (by first | exact Nat.le_refl _ | (simp; done) | (simp; omega) | omega) | refine Below.trans ?_ (Below.mono (by assumption) (by first | exact Nat.le_refl _ | (simp; done) | (simp; omega) | omega)))) (hb2.mono (by simp; omega))
      have HO := Lib.hid ho3; have HB := Lib.hid hb3
      clear ho2 hb2 ho3 hb3
      go_wp2
      go_ret2
      exact ⟨A2, C2, rfl, HO.out, HB.out⟩
    · skip
      go_enter Try.func16, Try.ntmps16
      go_wp2_with fail
      (refine wp_region_ext (by kernel_rfl) (by kernel_rfl) ?_; (repeat (first | ((with_reducible refine ext_step (fun K hK => ?_)); go_simp; first | (refine hK _ ?_; clear hK K) | (apply Exists.intro; refine ⟨fun _ _ => ?_, hK _ ?_⟩; fail; clear hK K)))); refine wpQuiet_nil ?_; intro E d)
      go_wp2_with fail
      (refine wp_region_ext_tail 14 (by kernel_rfl) (by kernel_rfl) ?_; simp only [List.take_succ_cons, List.take_zero, List.drop_succ_cons, List.drop_zero]; (repeat (first | ((with_reducible refine ext_step (fun K hK => ?_)); go_simp; first | (refine hK _ ?_; clear hK K) | (apply Exists.intro; refine ⟨fun _ _ => ?_, hK _ ?_⟩; fail; clear hK K)))); refine wpQuiet_nil ?_; intro E d)
      go_wp2_with fail
      refine (cloneB_any RB W rc RW_ _ (HR.out _ (HI.out.below (by repeat (first | exact Below.refl _ _ | refine Below.drew ?_ | refine below_drewN ?_ _ | refine Below.alloc ?_ (by first | exact Nat.le_refl _ | (simp; done) | (simp; omega) | omega) _ | refine Below.setCell ?_ (by first | exact Nat.le_refl _ | (simp; done) | (simp; omega) | omega) _ | refine bExtW ?_ (by first | exact Nat.le_refl _ | (simp; done) | (simp; omega) | omega) | refine Below.trans ?_ (Below.mono (by assumption) (by first | exact Nat.le_refl _ | (simp; done) | (simp; omega) | omega)))))) (by omega)).mono ?_
      rintro r w2 ⟨A2, C2, rfl, ho2, hb2⟩
      have ho3 := own_lower (base := w.heap.size) ho2 (by simp; omega)
      have hb3 : Below w.heap.size w w2 := Below.trans (by repeat (first | exact Below.refl _ _ | refine Below.drew ?_ | refine below_drewN ?_ _ | refine Below.alloc ?_ (by first | exact Nat.le_refl _ | (simp; done) | (simp; omega) | omega) _ | refine Below.setCell ?_ (by first | exact Nat.le_refl _ | (simp; done) | (simp; omega) | omega) _ | refine bExtW ?_ (by first | exact Nat.le_refl _ | (simp; done) | (simp; omega) | omega) | refine Below.trans ?_ (Below.mono (by assumption) (by first | exact Nat.le_refl _ | (simp; done) | (simp; omega) | omega)))) (hb2.mono (by simp; omega))
      have HO := Lib.hid ho3; have HB := Lib.hid hb3
      clear ho2 hb2 ho3 hb3
      go_wp2
      go_ret2
      exact ⟨A2, C2, rfl, HO.out, HB.out⟩
    · skip
      go_enter Try.func16, Try.ntmps16
      go_wp2_with fail
      (refine wp_region_ext (by kernel_rfl) (by kernel_rfl) ?_; (repeat (first | ((with_reducible refine ext_step (fun K hK => ?_)); go_simp; first | (refine hK _ ?_; clear hK K) | (apply Exists.intro; refine ⟨fun _ _ => ?_, hK _ ?_⟩; fail; clear hK K)))); refine wpQuiet_nil ?_; intro E d)
      go_wp2_with fail
      (refine wp_region_ext_tail 14 (by kernel_rfl) (by kernel_rfl) ?_; simp only [List.take_succ_cons, List.take_zero, List.drop_succ_cons, List.drop_zero]; (repeat (first | ((with_reducible refine ext_step (fun K hK => ?_)); go_simp; first | (refine hK _ ?_; clear hK K) | (apply Exists.intro; refine ⟨fun _ _ => ?_, hK _ ?_⟩; fail; clear hK K)))); refine wpQuiet_nil ?_; intro E d)
      go_wp2_with fail
      refine (cloneB_any RB W rc RW_ _ (HR.out _ (HI.out.below (by repeat (first | exact Below.refl _ _ | refine Below.drew ?_ | refine below_drewN ?_ _ | refine Below.alloc ?_ (by first | exact Nat.le_refl _ | (simp; done) | (simp; omega) | omega) _ | refine Below.setCell ?_ (by first | exact Nat.le_refl _ | (simp; done) | (simp; omega) | omega) _ | refine bExtW ?_ (by first | exact Nat.le_refl _ | (simp; done) | (simp; omega) | omega) | refine Below.trans ?_ (Below.mono (by assumption) (by first | exact Nat.le_refl _ | (simp; done) | (simp; omega) | omega)))))) (by omega)).mono ?_
      rintro r w2 ⟨A2, C2, rfl, ho2, hb2⟩
      have ho3 := own_lower (base := w.heap.size) ho2 (by simp; omega)
      have hb3 : Below w.heap.size w w2 := Below.trans (by repeat (first | exact Below.refl _ _ | refine Below.drew ?_ | refine below_drewN ?_ _ | refine Below.alloc ?_ (by first | exact Nat.le_refl _ | (simp; done) | (simp; omega) | omega) _ | refine Below.setCell ?_ (by first | exact Nat.le_refl _ | (simp; done) | (simp; omega) | omega) _ | refine bExtW ?_ (by first | exact Nat.le_refl _ | (simp; done) | (simp; omega) | omega) | refine Below.trans ?_ (Below.mono (by assumption) (by first | exact Nat.le_refl _ | (simp; done) | (simp; omega) | omega)))) (hb2.mono (by simp; omega))
      have HO := Lib.hid ho3; have HB := Lib.hid hb3
      clear ho2 hb2 ho3 hb3
      go_wp2
      go_ret2
      exact ⟨A2, C2, rfl, HO.out, HB.out⟩
  · have hro : rowOf W bs l = [] := by unfold rowOf; rw [if_neg hat]
    rw [hro, if_neg hat]
    have b1 : ((l.at_ : Int) == 1) = false := by simp; omega
    have b2 : ((l.at_ : Int) == 2) = false := by simp; omega
    have b3 : ((l.at_ : Int) == 3) = false := by simp; omega
    have b4 : ((l.at_ : Int) == 4) = false := by simp; omega
    have b1' : (l.at_ == 1) = false := by simp; omega
    have b2' : (l.at_ == 2) = false := by simp; omega
    have b3' : (l.at_ == 3) = false := by simp; omega
    have b4' : (l.at_ == 4) = false := by simp; omega
    clear hro hat hlt hn
    go_enter Try.func16, Try.ntmps16
    go_wp2
    go_ret2
    exact ⟨none, 0, rfl, World.ownsRow_nil _ _ _ _, (by repeat (first | exact Below.refl _ _ | refine Below.drew ?_ | refine below_drewN ?_ _ | refine Below.alloc ?_ (by first | exact Nat.le_refl _ | (simp; done) | (simp; omega) | omega) _ | refine Below.setCell ?_ (by first | exact Nat.le_refl _ | (simp; done) | (simp; omega) | omega) _ | refine bExtW ?_ (by first | exact Nat.le_refl _ | (simp; done) | (simp; omega) | omega) | refine Below.trans ?_ (Below.mono (by assumption) (by first | exact Nat.le_refl _ | (simp; done) | (simp; omega) | omega))))⟩
/-- What is wrong with what a loom is opened with. -/
def openE (W H : Int) (n sz : Nat) : Int := if wrT W H n ≠ 0 then wrT W H n else if n = 0 then 5 else if sz < 2 then 4 else 0
set_option maxRecDepth 100000 in
set_option maxHeartbeats 8000000 in
theorem Open_bad (W H : Int) (A : Option Addr) (n c b g cp : Nat) (D : Dk) (w : World) (h : DK b g cp D w) (h1 : (-9223372036854775808 ≤ W ∧ W ≤ 9223372036854775807)) (h2 : (-9223372036854775808 ≤ H ∧ H ≤ 9223372036854775807)) (h3 : n ≤ 9223372036854775807) (hl : D.ws.length ≤ 9223372036854775807) (he : openE W H n D.ws.length ≠ 0) :
    Calls Try.prog 12 #[.agg #[.int .i64 (W), .int .i64 (H), .slice A n c], (.iface 46 (.pointer (some ⟨b, 0, none⟩)))] w fun r w' => r = .returned (.tuple #[.pointer none, .int .i64 (openE W H n D.ws.length)]) ∧ Below w.heap.size w w' := by
  have HW := Lib.hid (fun w => tWrong_any W H A n c w h1 h2 h3)
  have HS := Lib.hid (fun w h => size_ok b g cp D w h)
  have HD := Lib.hid h
  clear h
  by_cases hw : wrT W H n = 0
  · rw [hw] at HW
    by_cases hn : n = 0
    · have hv : openE W H n D.ws.length = 5 := by unfold openE; rw [if_neg (by simp [hw]), if_pos hn]
      rw [hv]
      subst hn
      clear hv hw he
      go_enter Try.func12, Try.ntmps12
      (go_wp2_with fail; refine (HW.out _).mono ?_; rintro r w1 ⟨rfl, hb⟩; obtain ⟨E, d, rfl⟩ := bExt hb; clear hb)
      go_wp2
      go_ret2
      exact ⟨rfl, (by repeat (first | exact Below.refl _ _ | refine Below.drew ?_ | refine below_drewN ?_ _ | refine Below.alloc ?_ (by first | exact Nat.le_refl _ | (simp; done) | (simp; omega) | omega) _ | refine Below.setCell ?_ (by first | exact Nat.le_refl _ | (simp; done) | (simp; omega) | omega) _ | refine bExtW ?_ (by first | exact Nat.le_refl _ | (simp; done) | (simp; omega) | omega) | refine Below.trans ?_ (Below.mono (by assumption) (by first | exact Nat.le_refl _ | (simp; done) | (simp; omega) | omega))))⟩
    · by_cases hs : D.ws.length < 2
      · have hv : openE W H n D.ws.length = 4 := by unfold openE; rw [if_neg (by simp [hw]), if_neg hn, if_pos hs]
        have b1 : ((n : Int) == 0) = false := by simp; omega
        have b2 : (n == 0) = false := by simpa using hn
        have b3 : decide ((D.ws.length : Int) < 2) = true := by simp; omega
        have b4 : decide (D.ws.length < 2) = true := by simpa using hs
        rw [hv]
        obtain ⟨sz, hsz⟩ : ∃ sz, D.ws.length = sz := ⟨_, rfl⟩
        rw [hsz] at HS b3 b4
        clear hv hw hn hs he hsz
        go_enter Try.func12, Try.ntmps12
        (go_wp2_with fail; refine (HW.out _).mono ?_; rintro r w1 ⟨rfl, hb⟩; obtain ⟨E, d, rfl⟩ := bExt hb; clear hb)
        go_wp2_with fail
        refine (HS.out _ (HD.out.keep (a1 := 0) (by repeat (first | exact Below.refl _ _ | refine Below.drew ?_ | refine below_drewN ?_ _ | refine Below.alloc ?_ (by first | exact Nat.le_refl _ | (simp; done) | (simp; omega) | omega) _ | refine Below.setCell ?_ (by first | exact Nat.le_refl _ | (simp; done) | (simp; omega) | omega) _ | refine bExtW ?_ (by first | exact Nat.le_refl _ | (simp; done) | (simp; omega) | omega) | refine Below.trans ?_ (Below.mono (by assumption) (by first | exact Nat.le_refl _ | (simp; done) | (simp; omega) | omega)))))).mono ?_
        rintro r w1 ⟨rfl, hb⟩
        obtain ⟨E2, d2, rfl⟩ := bExt hb
        clear hb
        go_wp2
        go_ret2
        exact ⟨rfl, (by repeat (first | exact Below.refl _ _ | refine Below.drew ?_ | refine below_drewN ?_ _ | refine Below.alloc ?_ (by first | exact Nat.le_refl _ | (simp; done) | (simp; omega) | omega) _ | refine Below.setCell ?_ (by first | exact Nat.le_refl _ | (simp; done) | (simp; omega) | omega) _ | refine bExtW ?_ (by first | exact Nat.le_refl _ | (simp; done) | (simp; omega) | omega) | refine Below.trans ?_ (Below.mono (by assumption) (by first | exact Nat.le_refl _ | (simp; done) | (simp; omega) | omega))))⟩
      · exact absurd (by unfold openE; rw [if_neg (by simp [hw]), if_neg hn, if_neg hs]) he
  · have hv : openE W H n D.ws.length = wrT W H n := by unfold openE; rw [if_pos hw]
    rw [hv]
    have b1 : (wrT W H n != 0) = true := by simpa using hw
    generalize wrT W H n = e at *
    clear hv hw he
    go_enter Try.func12, Try.ntmps12
    (go_wp2_with fail; refine (HW.out _).mono ?_; rintro r w1 ⟨rfl, hb⟩; obtain ⟨E, d, rfl⟩ := bExt hb; clear hb)
    go_wp2
    go_ret2
    exact ⟨rfl, (by repeat (first | exact Below.refl _ _ | refine Below.drew ?_ | refine below_drewN ?_ _ | refine Below.alloc ?_ (by first | exact Nat.le_refl _ | (simp; done) | (simp; omega) | omega) _ | refine Below.setCell ?_ (by first | exact Nat.le_refl _ | (simp; done) | (simp; omega) | omega) _ | refine bExtW ?_ (by first | exact Nat.le_refl _ | (simp; done) | (simp; omega) | omega) | refine Below.trans ?_ (Below.mono (by assumption) (by first | exact Nat.le_refl _ | (simp; done) | (simp; omega) | omega))))⟩
end Go.Proofs.Ytefmlepogpjhmaa
