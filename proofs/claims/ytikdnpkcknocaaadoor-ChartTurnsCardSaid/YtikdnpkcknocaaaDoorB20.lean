/- Lemmas and contracts of functions (what each call returns, and that it changes nothing that was there) that the proof of a law of this seat uses; each lemma states its own conditions. -/
import Derived.Test.YtikdnpkcknocaaaDoorB19
import Derived.Lib.AppendStr
import Derived.Lib.UnsafeStr
namespace Go.Proofs.YtikdnpkcknocaaaDoor
open Go.RowKit
set_option linter.unusedVariables false
set_option linter.unusedSimpArgs false
set_option maxRecDepth 100000 in
set_option maxHeartbeats 8000000 in
theorem ana_two (B : Nat) (v : Value) (n : Nat) (xs : List Value) (r : Int) (h0 : 128 ≤ r) (h1 : r ≤ 2047) (w : World) (hown : w.ownsRow B 5 1 v n xs) (hlen : n ≤ 1000000) (hBw : B ≤ w.heap.size) :
    Calls Tryd.prog 35 #[v, .int .i32 r] w fun e w' => ∃ v', e = .returned v' ∧ w'.ownsRow B 5 1 v' (n + 2) (xs ++ [.int .u8 (192 + r / 64), .int .u8 (128 + r % 64)]) ∧ ∃ o, (w.alloc o).grownBy w' v.ownBlock := by
  go_enter Tryd.func35, Tryd.ntmps35
  go_wp2_with (at_builtin; go_loud (refine wpList_append_own _ rfl _ _ 61 rfl B 5 _ (.int .u8 0) 1 1 okU8.1 rfl rfl rfl rfl rfl (by decide) _ _ _ rfl (hown.alloc _) ⟨w.heap.size, 0, none⟩ 2 2 [.int .u8 (192 + r / 64), .int .u8 (128 + r % 64)] rfl rfl ?c1 ?c2 ?c3 ?c4 ?c5 ?_))
  case c1 =>
    intro j u hj
    match j, hj with
    | 0, hj => simp at hj; subst hj; simp [Addr.add]
    | 1, hj => simp at hj; subst hj; simp [Addr.add]
    | (j + 2), hj => simp at hj
  case c2 => intro u hu; simp at hu; rcases hu with rfl | rfl <;> rfl
  case c3 => unfold maxLen; omega
  case c4 => omega
  case c5 => simp; omega
  intro v' w2 hown' hgrow _
  go_wp2
  go_ret
  exact ⟨_, rfl, hown', _, hgrow⟩
set_option maxRecDepth 100000 in
set_option maxHeartbeats 8000000 in
theorem ana_three (B : Nat) (v : Value) (n : Nat) (xs : List Value) (r : Int) (h0 : 2048 ≤ r) (h1 : r < 55296) (w : World) (hown : w.ownsRow B 5 1 v n xs) (hlen : n ≤ 1000000) (hBw : B ≤ w.heap.size) :
    Calls Tryd.prog 35 #[v, .int .i32 r] w fun e w' => ∃ v', e = .returned v' ∧ w'.ownsRow B 5 1 v' (n + 3) (xs ++ [.int .u8 (224 + r / 4096), .int .u8 (128 + r / 64 % 64), .int .u8 (128 + r % 64)]) ∧ ∃ o, (w.alloc o).grownBy w' v.ownBlock := by
  go_enter Tryd.func35, Tryd.ntmps35
  go_wp2_with (at_builtin; go_loud (refine wpList_append_own _ rfl _ _ 61 rfl B 5 _ (.int .u8 0) 1 1 okU8.1 rfl rfl rfl rfl rfl (by decide) _ _ _ rfl (hown.alloc _) ⟨w.heap.size, 0, none⟩ 3 3 [.int .u8 (224 + r / 4096), .int .u8 (128 + r / 64 % 64), .int .u8 (128 + r % 64)] rfl rfl ?c1 ?c2 ?c3 ?c4 ?c5 ?_))
  case c1 =>
    intro j u hj
    match j, hj with
    | 0, hj => simp at hj; subst hj; simp [Addr.add]
    | 1, hj => simp at hj; subst hj; simp [Addr.add]
    | 2, hj => simp at hj; subst hj; simp [Addr.add]
    | (j + 3), hj => simp at hj
  case c2 => intro u hu; simp at hu; rcases hu with rfl | rfl | rfl <;> rfl
  case c3 => unfold maxLen; omega
  case c4 => omega
  case c5 => simp; omega
  intro v' w2 hown' hgrow _
  go_wp2
  go_ret
  exact ⟨_, rfl, hown', _, hgrow⟩
set_option maxRecDepth 100000 in
set_option maxHeartbeats 8000000 in
theorem aRune_ok (B : Nat) (v : Value) (n : Nat) (xs : List Value) (r : Int) (h0 : 0 ≤ r) (h1 : r < 55296) (w : World) (hown : w.ownsRow B 5 1 v n xs) (hlen : n ≤ 1000000) (hBw : B ≤ w.heap.size) :
    Calls Tryd.prog 33 #[v, .int .i32 r] w fun e w' => ∃ v', e = .returned v' ∧ w'.ownsRow B 5 1 v' (n + (Lib.runeCells r).length) (xs ++ Lib.runeCells r) ∧ ∃ o, (w.alloc o).grownBy w' v.ownBlock := by
  by_cases c : r ≤ 127
  · rw [show Lib.runeCells r = [.int .u8 r] by simp [Lib.runeCells, Lib.encodeRuneZ_one h0 c]]
    go_enter Tryd.func33, Tryd.ntmps33
    go_wp2_with (at_builtin; go_loud (refine wpList_append_own _ rfl _ _ 61 rfl B 5 _ (.int .u8 0) 1 1 okU8.1 rfl rfl rfl rfl rfl (by decide) _ _ _ rfl (hown.alloc _) ⟨w.heap.size, 0, none⟩ 1 1 [.int .u8 r] rfl rfl ?c1 ?c2 ?c3 ?c4 ?c5 ?_))
    all_goals first
      | (intro v' w2 hown' hgrow _; go_wp2; go_ret; exact ⟨_, rfl, hown', _, hgrow⟩)
      | (unfold maxLen; omega)
      | omega
      | (simp; omega)
      | rfl
      | (intro u hu; simp at hu; subst hu; rfl)
      | (intro j u hj
         match j, hj with
         | 0, hj => simp at hj; subst hj; simp [Addr.add]
         | (j + 1), hj => simp at hj)
  · have HN : Calls Tryd.prog 35 #[v, .int .i32 r] w fun e w' => ∃ v', e = .returned v' ∧ w'.ownsRow B 5 1 v' (n + (Lib.runeCells r).length) (xs ++ Lib.runeCells r) ∧ ∃ o, (w.alloc o).grownBy w' v.ownBlock := by
      by_cases c2 : r ≤ 2047
      · rw [show Lib.runeCells r = [.int .u8 (192 + r / 64), .int .u8 (128 + r % 64)] by simp [Lib.runeCells, Lib.encodeRuneZ_two (show 128 ≤ r by omega) c2]]
        exact ana_two B v n xs r (by omega) c2 w hown hlen hBw
      · rw [show Lib.runeCells r = [.int .u8 (224 + r / 4096), .int .u8 (128 + r / 64 % 64), .int .u8 (128 + r % 64)] by simp [Lib.runeCells, Lib.encodeRuneZ_three (.inl ⟨show 2048 ≤ r by omega, h1⟩)]]
        exact ana_three B v n xs r (by omega) h1 w hown hlen hBw
    go_enter Tryd.func33, Tryd.ntmps33
    have HN := Lib.hid HN
    have hna : 128 ≤ r := by omega
    go_wp2_with (go_at_call 35; refine HN.out.mono ?_)
    rintro e w1 v' rfl h1 o h2
    go_wp2
    go_ret
    exact ⟨_, rfl, h1, o, h2⟩
set_option maxRecDepth 100000 in
set_option maxHeartbeats 8000000 in
theorem bld_rune (B b : Nat) (bs : List Value) (r : Int) (hr0 : 0 ≤ r) (hr1 : r < 55296) (w : World) (h : Lib.IsBuilder 63 5 B b bs w) (hlen : bs.length ≤ 1000000) (hBw : B ≤ w.heap.size) :
    Calls Tryd.prog 27 #[.pointer (some ⟨b, 0, none⟩), .int .i32 r] w fun e w' => e = .returned (.tuple #[.int .i64 (Lib.runeCells r).length, .nilIface]) ∧ (Lib.BuilderAt 63 5 B b (.pointer (some ⟨b, 0, none⟩)) (bs ++ Lib.runeCells r) w' ∧ Below B w w') := by
  have hk4 := Lib.runeCells_le r
  go_enter Tryd.func27, Tryd.ntmps27
  go_wp2_with (go_at_call 32; refine (bld_check B b bs _ h).mono ?_)
  rintro e w1 ⟨rfl, h1, hb1⟩
  obtain ⟨hB, v, hbk, hown, hne⟩ := h1
  obtain ⟨ao, cap, rfl⟩ : ∃ ao cap, v = .slice ao bs.length cap := by
    rcases hown.2 with ⟨hv, h0⟩ | ⟨g, cap, cur, hv, _⟩
    · exact ⟨none, 0, by rw [hv, h0]⟩
    · exact ⟨_, _, hv⟩
  have c0 : w1.cell? ⟨b, 0, none⟩ = some (.pointer (some ⟨b, 0, none⟩)) := by rw [Lib.cell_of_heap hbk]; rfl
  have c1 : w1.cell? ⟨b, 1, none⟩ = some (.slice ao bs.length cap) := by rw [Lib.cell_of_heap hbk]; rfl
  have hlt : b < w1.heap.size := (Array.getElem?_eq_some_iff.1 hbk).1
  go_wp2_with (go_at_call 33; refine (aRune_ok B _ bs.length bs r hr0 hr1 _ hown hlen (by have := hb1.size; omega)).mono ?_)
  rintro e w2 ⟨v', rfl, hown', o, hgrow⟩
  have hb2 : w2.heap[b]? = some (.cells #[.pointer (some ⟨b, 0, none⟩), .slice ao bs.length cap] 63 (0, 0)) := by
    rw [hgrow.block b (by simp; omega) (fun e => hne e.symm), Lib.alloc_old w1 _ b hlt]
    exact hbk
  have d0 : w2.cell? ⟨b, 0, none⟩ = some (.pointer (some ⟨b, 0, none⟩)) := by rw [Lib.cell_of_heap hb2]; rfl
  have d1 : w2.cell? ⟨b, 1, none⟩ = some (.slice ao bs.length cap) := by rw [Lib.cell_of_heap hb2]; rfl
  have f1 : w2.frozen? ⟨b, 1, none⟩ = false := Lib.frozen_of_heap hb2 1
  obtain ⟨ao', cap', rfl⟩ : ∃ ao' cap', v' = .slice ao' (bs.length + (Lib.runeCells r).length) cap' := by
    rcases hown'.2 with ⟨hv, h0⟩ | ⟨g, cap', cur, hv, _⟩
    · exact ⟨none, 0, by rw [hv, h0]⟩
    · exact ⟨_, _, hv⟩
  have hsub : IntKind.i64.wrap ((bs.length : Int) + ((Lib.runeCells r).length : Int) - (bs.length : Int)) = ((Lib.runeCells r).length : Int) := by rw [IntWalk.i64_in _ (by omega)]; omega
  go_wp2
  go_ret2
  refine ⟨?_, ?_, ?_⟩
  · have e : ((bs.length : Int) + ((Lib.runeCells r).length : Int) - (bs.length : Int)) = ((Lib.runeCells r).length : Int) := by omega
    simp [e]
  · exact Lib.BuilderAt.put (T := 63) (e := 5) hB hb2 (bs' := bs ++ Lib.runeCells r) (by simpa using hown') (by decide)
  · exact ((hb1.alloc (by have := hb1.size; omega) _).grown hgrow (by have := hb1.size; simp; omega) (fun k hk => (hown.lt k hk).1)).setCell (p := ⟨b, 1, none⟩) hB _
set_option maxRecDepth 100000 in
set_option maxHeartbeats 8000000 in
theorem bld_str (B b : Nat) (bs : List Value) (s : ByteArray) (w : World) (h : Lib.IsBuilder 63 5 B b bs w) (hlen : bs.length + s.size ≤ 1000000) (hBw : B ≤ w.heap.size) :
    Calls Tryd.prog 26 #[.pointer (some ⟨b, 0, none⟩), .string s] w fun e w' => e = .returned (.tuple #[.int .i64 s.size, .nilIface]) ∧ (Lib.BuilderAt 63 5 B b (.pointer (some ⟨b, 0, none⟩)) (bs ++ Lib.strCells s) w' ∧ Below B w w') := by
  go_enter Tryd.func26, Tryd.ntmps26
  go_wp2_with (go_at_call 32; refine (bld_check B b bs _ h).mono ?_)
  rintro e w1 ⟨rfl, h1, hb1⟩
  obtain ⟨hB, v, hbk, hown, hne⟩ := h1
  have c0 : w1.cell? ⟨b, 0, none⟩ = some (.pointer (some ⟨b, 0, none⟩)) := by rw [Lib.cell_of_heap hbk]; rfl
  have c1 : w1.cell? ⟨b, 1, none⟩ = some v := by rw [Lib.cell_of_heap hbk]; rfl
  have hlt : b < w1.heap.size := (Array.getElem?_eq_some_iff.1 hbk).1
  go_wp2_with (at_builtin; go_loud (refine Lib.wpList_append_own_string _ rfl _ _ 61 9 rfl B 5 _ okU8.1 Tryd.underlying9 rfl rfl rfl rfl _ _ _ rfl hown s rfl ?c3 ?c4 ?c5 ?_))
  case c3 => unfold maxLen; omega
  case c4 => omega
  case c5 => have := hb1.size; omega
  intro v' w2 hown' hgrow _
  have hb2 : w2.heap[b]? = some (.cells #[.pointer (some ⟨b, 0, none⟩), v] 63 (0, 0)) := by
    rw [hgrow.block b hlt (fun e => hne e.symm)]
    exact hbk
  have d0 : w2.cell? ⟨b, 0, none⟩ = some (.pointer (some ⟨b, 0, none⟩)) := by rw [Lib.cell_of_heap hb2]; rfl
  have d1 : w2.cell? ⟨b, 1, none⟩ = some v := by rw [Lib.cell_of_heap hb2]; rfl
  have f1 : w2.frozen? ⟨b, 1, none⟩ = false := Lib.frozen_of_heap hb2 1
  obtain ⟨ao, n', cap, rfl⟩ : ∃ ao n' cap, v' = .slice ao n' cap := by
    rcases hown'.2 with ⟨hv, _⟩ | ⟨g, cap, cur, hv, _⟩
    · exact ⟨_, _, _, hv⟩
    · exact ⟨_, _, _, hv⟩
  go_wp2
  go_ret2
  refine ⟨rfl, ?_, ?_⟩
  · exact Lib.BuilderAt.put (T := 63) (e := 5) hB hb2 (bs' := bs ++ Lib.strCells s) (by simpa [Lib.strCells_length] using hown') (by decide)
  · exact (hb1.grown hgrow (by have := hb1.size; omega) (fun k hk => (hown.lt k hk).1)).setCell (p := ⟨b, 1, none⟩) hB _
set_option maxRecDepth 100000 in
set_option maxHeartbeats 8000000 in
theorem bld_string (B b : Nat) (l : List UInt8) (w : World) (h : Lib.IsBuilder 63 5 B b (Lib.byteCells l) w) (h0 : l ≠ []) :
    Calls Tryd.prog 29 #[.pointer (some ⟨b, 0, none⟩)] w fun e w' => e = .returned (.string ⟨l.toArray⟩) ∧ Below B w w' := by
  obtain ⟨p, hB, v, hbk, hown, hne⟩ : ∃ p, Lib.BuilderAt 63 5 B b p (Lib.byteCells l) w := by
    rcases h with h | h
    · exact ⟨_, h⟩
    · exact ⟨_, h⟩
  have hl0 : l.length ≠ 0 := by simpa using h0
  rw [Lib.byteCells_length] at hown
  obtain ⟨g, cap, cur, rfl, hbg, hg, hnc, hcm, hcs, htake⟩ : ∃ g cap cur, v = .slice (some ⟨g, 0, none⟩) l.length cap ∧ B ≤ g ∧ w.heap[g]? = some (.cells cur 5 (0, 0)) ∧ l.length ≤ cap ∧ cap ≤ maxLen ∧ cur.size = cap * 1 ∧ cur.toList.take (l.length * 1) = Lib.byteCells l := by
    rcases hown.2 with ⟨_, hz⟩ | ⟨g, cap, cur, hv, r⟩
    · exact absurd hz hl0
    · exact ⟨g, cap, cur, hv, r⟩
  have c1 : w.cell? ⟨b, 1, none⟩ = some (.slice (some ⟨g, 0, none⟩) l.length cap) := by
    rw [Lib.cell_of_heap hbk]; rfl
  have lb : LtW b w := (Array.getElem?_eq_some_iff.1 hbk).1
  have hSD : ∀ W : World, (Builtin.unsafeSliceData_ #[61] 73 #[.slice (some ⟨g, 0, none⟩) l.length cap]).run Tryd.prog W = .ok (.pointer (some ⟨g, 0, none⟩)) W := fun W =>
    Lib.run_unsafeSliceData_row _ _ _ _ _ _ (by omega)
  have hUS : ∀ (E : Array Obj) (d : Nat), (Builtin.unsafeString_ #[73, 3] 9 #[.pointer (some ⟨g, 0, none⟩), .int .i64 l.length]).run Tryd.prog (extW w E d) = .ok (.string ⟨l.toArray⟩) ((extW w E d).freeze ⟨g, 0, none⟩ l.length) := fun E d => by
    have hg' : (extW w E d).heap[g]? = some (.cells cur 5 (0, 0)) := ((bExtW (Below.refl w.heap.size w) (Nat.le_refl _)).block g (Array.getElem?_eq_some_iff.1 hg).1).trans hg
    refine Lib.run_unsafeString_row (extW w E d) 73 3 9 5 Tryd.underlying73 rfl g cur.size (by simp [World.shape?, hg']) l h0 (by omega) (by unfold maxLen at hcm; omega) ?_
    intro j x hx
    have h1 := hown.cells (g := g) rfl j (.int .u8 x.toNat) (by simp [Lib.byteCells, hx])
    have h2 : (extW w E d).cell? ⟨g, j, none⟩ = w.cell? ⟨g, j, none⟩ := by unfold World.cell?; rw [hg', hg]
    rw [Addr.add_lit, Nat.zero_add] at h1
    rw [Addr.add_lit, Nat.zero_add]
    exact h2.trans h1
  clear h hown htake hcs hbk hne
  go_enter Tryd.func29, Tryd.ntmps29
  go_wp2_with fail
  (refine wp_region_ext_tail 10 (by kernel_rfl) (by kernel_rfl) ?_; simp only [List.take_succ_cons, List.take_zero, List.drop_succ_cons, List.drop_zero]; (repeat (first | ((with_reducible refine ext_step (fun K hK => ?_)); go_simp; first | (refine hK _ ?_; clear hK K) | (apply Exists.intro; refine ⟨fun _ _ => ?_, hK _ ?_⟩; fail; clear hK K)))); refine wpQuiet_nil ?_; intro E d)
  go_wp2
  go_ret
  have hBg : B ≤ w.heap.size := Nat.le_trans hB (Nat.le_of_lt lb)
  exact ⟨rfl, Lib.below_freeze (bExtW (Below.refl B w) hBg) (p := ⟨g, 0, none⟩) hbg _⟩
theorem sigS_bytes : ∀ c : Fin 62, (sigS c).data.toList = Lib.encodeRune (signK c) := by decide +kernel
end Go.Proofs.YtikdnpkcknocaaaDoor

namespace Go.Proofs.YtikdnpkcknocaaaDoor
open Go.RowKit
set_option linter.unusedVariables false
set_option linter.unusedSimpArgs false
set_option maxRecDepth 100000 in
set_option maxHeartbeats 8000000 in
theorem chPrint_bad (G W H : Int) (a : Option Addr) (n c : Nat) (cs : List Int) (w : World) (hI : IsInts w a n cs) (h0 : (-9223372036854775808 ≤ G ∧ G ≤ 9223372036854775807)) (h1 : (-9223372036854775808 ≤ W ∧ W ≤ 9223372036854775807)) (h2 : (-9223372036854775808 ≤ H ∧ H ≤ 9223372036854775807)) (h3 : n ≤ 9223372036854775807) (he : chE G W H n cs ≠ 0) :
    Calls Tryd.prog 15 #[.agg #[.int .i64 (G), .int .i64 (W), .int .i64 (H), .slice a n c]] w fun e w' => e = .returned (.tuple #[.string ⟨#[]⟩, .int .i64 (chE G W H n cs)]) ∧ Below w.heap.size w w' := by
  have hb : (chE G W H n cs != 0) = true := by simpa using he
  have HT := Lib.hid (fun w hI => chWrong_any G W H a n c cs w hI h0 h1 h2 h3)
  have HI := Lib.hid hI
  clear he hI
  generalize chE G W H n cs = q at *
  go_enter Tryd.func15, Tryd.ntmps15
  (go_wp2_with fail; refine (HT.out _ (HI.out.below (by repeat (first | exact Below.refl _ _ | refine Below.drew ?_ | refine below_drewN ?_ _ | refine Below.alloc ?_ (by first | exact Nat.le_refl _ | (simp; done) | (simp; omega) | omega) _ | refine Below.setCell ?_ (by first | exact Nat.le_refl _ | (simp; done) | (simp; omega) | omega) _ | refine bExtW ?_ (by first | exact Nat.le_refl _ | (simp; done) | (simp; omega) | omega) | refine Below.trans ?_ (Below.mono (by assumption) (by first | exact Nat.le_refl _ | (simp; done) | (simp; omega) | omega)))))).mono ?_; rintro r w1 ⟨rfl, hb⟩; obtain ⟨E, d, rfl⟩ := bExt hb; clear hb)
  go_wp2
  go_ret2
  exact ⟨rfl, (by repeat (first | exact Below.refl _ _ | refine Below.drew ?_ | refine below_drewN ?_ _ | refine Below.alloc ?_ (by first | exact Nat.le_refl _ | (simp; done) | (simp; omega) | omega) _ | refine Below.setCell ?_ (by first | exact Nat.le_refl _ | (simp; done) | (simp; omega) | omega) _ | refine bExtW ?_ (by first | exact Nat.le_refl _ | (simp; done) | (simp; omega) | omega) | refine Below.trans ?_ (Below.mono (by assumption) (by first | exact Nat.le_refl _ | (simp; done) | (simp; omega) | omega))))⟩
/-- Bytes of a row, as far as x. -/
def rowU (W : Nat) (cs : List Int) (y : Nat) : Nat → List UInt8
  | 0 => []
  | x + 1 => rowU W cs y x ++ Lib.encodeRune (signK (colK W cs y x))
/-- The rows from the k-th highest on up: what stands behind k rows. -/
def topL (W H : Nat) (cs : List Int) : Nat → List UInt8
  | 0 => []
  | k + 1 => topL W H cs k ++ rowU W cs (H - 1 - k) W ++ [10]
def hdL (G : Nat) : List UInt8 := if G = 4 then [226, 150, 161, 10] else [226, 150, 179, 10]
theorem rowB_L {W : Nat} {cs : List Int} {y : Nat} (h : ∀ x, x < W → colK W cs y x < 62) : ∀ x, x ≤ W → (rowB W cs y x).data.toList = rowU W cs y x
  | 0, _ => rfl
  | x + 1, hx => by
    have h1 := sigS_bytes ⟨_, h x (by omega)⟩
    simp only [rowB, rowU, ByteArray.data_append, Array.toList_append, rowB_L h x (by omega)]
    rw [h1]
theorem botB_L {W H : Nat} {cs : List Int} (h : ∀ y x, y < H → x < W → colK W cs y x < 62) : ∀ k, k ≤ H → topL W H cs k ++ (botB W cs (H - k)).data.toList = (botB W cs H).data.toList
  | 0, _ => by simp [topL]
  | k + 1, hk => by
    rw [← botB_L h k (by omega)]
    obtain ⟨m, hm⟩ : ∃ m, H - k = m + 1 := ⟨H - k - 1, by omega⟩
    rw [show H - (k + 1) = m by omega, hm]
    simp only [topL, botB, ByteArray.data_append, Array.toList_append, List.append_assoc]
    rw [show H - 1 - k = m by omega, rowB_L (h m · (by omega)) W (Nat.le_refl _)]
theorem print_L {G W H : Nat} {cs : List Int} (h : ∀ y x, y < H → x < W → colK W cs y x < 62) : (printB G W H cs).data.toList = hdL G ++ topL W H cs H := by
  have h1 := botB_L h H (Nat.le_refl _)
  rw [Nat.sub_self] at h1
  unfold printB hdL hdB
  rw [ByteArray.data_append, Array.toList_append, ← h1]
  split <;> simp [botB]
theorem rowU_len {W : Nat} {cs : List Int} {y : Nat} : ∀ x, (rowU W cs y x).length ≤ 4 * x
  | 0 => by simp [rowU]
  | x + 1 => by
    have h1 := rowU_len (W := W) (cs := cs) (y := y) x
    have h2 := Lib.runeCells_le (signK (colK W cs y x))
    rw [Lib.runeCells_length] at h2
    simp only [rowU, List.length_append]
    omega
theorem topL_len {W H : Nat} {cs : List Int} : ∀ k, (topL W H cs k).length ≤ (4 * W + 1) * k
  | 0 => by simp [topL]
  | k + 1 => by
    have h1 := topL_len (W := W) (H := H) (cs := cs) k
    have h2 := rowU_len (W := W) (cs := cs) (y := H - 1 - k) W
    simp only [topL, List.length_append, List.length_singleton]
    rw [Nat.mul_succ]; omega
theorem sign_lt {c : Nat} (h : c < 62) : signK c < 55296 := by
  unfold signK skipK
  split
  · omega
  · split
    · omega
    · split
      · omega
      · split
        · split <;> omega
        · omega
end Go.Proofs.YtikdnpkcknocaaaDoor
