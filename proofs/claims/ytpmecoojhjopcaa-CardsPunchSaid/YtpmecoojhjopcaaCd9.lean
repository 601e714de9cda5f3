/- Lemmas and contracts of functions (what each call returns, and that it changes nothing that was there) that the proof of a law of this seat uses; each lemma states its own conditions. -/
import Derived.Test.YtpmecoojhjopcaaCd8
namespace Go.Proofs.Ytpmecoojhjopcaa
open Go.RowKit
set_option linter.unusedVariables false
set_option linter.unusedSimpArgs false
open Lo
set_option maxRecDepth 100000 in
set_option maxHeartbeats 8000000 in
theorem rRows_gen (W H n : Nat) (hn4 : n ≤ 4096) (a : Option Addr) (c : Nat) (bs : List Bool) (y z : Nat) (w : World) (hI : IsBools w a n bs) (hW : W ≤ 64) (hy : (y + 1) * W ≤ n) (hz : (z + 1) * W ≤ n) (hy6 : y ≤ 64) (hz6 : z ≤ 64) :
    Calls Try.prog 25 #[.agg #[.int .i64 (W), .int .i64 (H), .slice a n c], .int .i64 (y), .int .i64 (z)] w fun e w' => e = .returned (.bool (decide (rowL bs W y = rowL bs W z))) ∧ Below w.heap.size w w' := by
  have hy2 : y * W + W ≤ n := by rw [Nat.add_mul, Nat.one_mul] at hy; exact hy
  have hz2 : z * W + W ≤ n := by rw [Nat.add_mul, Nat.one_mul] at hz; exact hz
  have HY2 := Lib.hid hy2; have HZ2 := Lib.hid hz2
  have HBIT := Lib.hid (fun w y x p h1 h2 h3 (h4 : x ≤ 64) (h5 : y ≤ 64) => rBit_ok W H n a c bs w h1 y x p h2 h3 hn4 (by omega) (by omega) (by omega))
  have HI := Lib.hid hI
  clear hI hy2 hz2 hy hz
  go_enter Try.func25, Try.ntmps25
  go_wp2_with fail
  go_loopw [7] (fun i wr => ∃ (x : Nat) (E : Array Obj) (d : Nat), x ≤ W ∧ i = .int .i64 x ∧ (∀ j, j < x → bs.getD (y * W + j) false = bs.getD (z * W + j) false) ∧ wr = extW (w.alloc (.cells #[.int .i64 (W), .int .i64 (H), .slice a n c] 24)) E d) (fun i _ => W - (intOf i).toNat)
  case atStart => exact ⟨0, #[], (w.alloc (.cells #[.int .i64 (W), .int .i64 (H), .slice a n c] 24)).drawn, by omega, rfl, fun j h => absurd h (by omega), extW_zero _⟩
  case round =>
    obtain ⟨x, E, d, hx, rfl, hrun, rfl⟩ := hrel
    have HRUN := Lib.hid hrun
    clear hrun
    by_cases hxW : x < W
    · obtain ⟨p1, hp1⟩ : ∃ p, y * W + x = p := ⟨_, rfl⟩
      have hlt1 : p1 < n := by have := HY2.out; omega
      obtain ⟨p2, hp2⟩ : ∃ p, z * W + x = p := ⟨_, rfl⟩
      have hlt2 : p2 < n := by have := HZ2.out; omega
      have HB1 := Lib.hid (fun wq h => HBIT.out wq y x p1 h hp1 hlt1 (by omega) (by omega))
      have HB2 := Lib.hid (fun wq h => HBIT.out wq z x p2 h hp2 hlt2 (by omega) (by omega))
      have HP1 := Lib.hid hp1
      have HP2 := Lib.hid hp2
      clear hp1 hp2
      obtain ⟨b1, hb1⟩ : ∃ b, bs.getD p1 false = b := ⟨_, rfl⟩
      obtain ⟨b2, hb2⟩ : ∃ b, bs.getD p2 false = b := ⟨_, rfl⟩
      rw [hb1] at HB1
      rw [hb2] at HB2
      have HE1 := Lib.hid hb1
      have HE2 := Lib.hid hb2
      clear hb1 hb2
      by_cases hbb : b1 = b2
      · have hbt : (b1 == b2) = true := by simpa using hbb
        have HBB := Lib.hid hbb
        clear hbb
        go_wp2_with fail
        (refine wp_region_ext (by kernel_rfl) (by kernel_rfl) ?_; (repeat (first | ((with_reducible refine ext_step (fun K hK => ?_)); go_simp; first | (refine hK _ ?_; clear hK K) | (apply Exists.intro; refine ⟨fun _ _ => ?_, hK _ ?_⟩; fail; clear hK K)))); ((with_reducible refine ext_step (fun K hK => ?_)); go_simp; (apply Exists.intro; refine ⟨fun _ _ => ?_, hK _ ?_⟩; (go_at_call 44; exact extOf (HB1.out _ (HI.out.below (by repeat (first | exact Below.refl _ _ | refine Below.drew ?_ | refine below_drewN ?_ _ | refine Below.alloc ?_ (by first | exact Nat.le_refl _ | (simp; done) | (simp; omega) | omega) _ | refine Below.setCell ?_ (by first | exact Nat.le_refl _ | (simp; done) | (simp; omega) | omega) _ | refine bExtW ?_ (by first | exact Nat.le_refl _ | (simp; done) | (simp; omega) | omega) | refine Below.trans ?_ (Below.mono (by assumption) (by first | exact Nat.le_refl _ | (simp; done) | (simp; omega) | omega))))))); clear hK K)); (repeat (first | ((with_reducible refine ext_step (fun K hK => ?_)); go_simp; first | (refine hK _ ?_; clear hK K) | (apply Exists.intro; refine ⟨fun _ _ => ?_, hK _ ?_⟩; fail; clear hK K)))); ((with_reducible refine ext_step (fun K hK => ?_)); go_simp; (apply Exists.intro; refine ⟨fun _ _ => ?_, hK _ ?_⟩; (go_at_call 44; exact extOf (HB2.out _ (HI.out.below (by repeat (first | exact Below.refl _ _ | refine Below.drew ?_ | refine below_drewN ?_ _ | refine Below.alloc ?_ (by first | exact Nat.le_refl _ | (simp; done) | (simp; omega) | omega) _ | refine Below.setCell ?_ (by first | exact Nat.le_refl _ | (simp; done) | (simp; omega) | omega) _ | refine bExtW ?_ (by first | exact Nat.le_refl _ | (simp; done) | (simp; omega) | omega) | refine Below.trans ?_ (Below.mono (by assumption) (by first | exact Nat.le_refl _ | (simp; done) | (simp; omega) | omega))))))); clear hK K)); (repeat (first | ((with_reducible refine ext_step (fun K hK => ?_)); go_simp; first | (refine hK _ ?_; clear hK K) | (apply Exists.intro; refine ⟨fun _ _ => ?_, hK _ ?_⟩; fail; clear hK K)))); refine wpQuiet_nil ?_; intro E d)
        go_wp2
        go_roundw
        case rel => exact ⟨x + 1, _, _, by omega, by go_num, fun j hj => by
          rcases Nat.lt_or_ge j x with h | h
          · exact HRUN.out j h
          · obtain rfl : j = x := by omega
            rw [HP1.out, HP2.out, HE1.out, HE2.out, HBB.out], by simp only [extW_extW]; rfl⟩
        case measure => simp [intOf]; omega
      · have hbt : (b1 == b2) = false := by simpa using hbb
        have hne : ¬ rowL bs W y = rowL bs W z := fun h => hbb (by
          have := rowL_eq.1 h x hxW
          rwa [HP1.out, HP2.out, HE1.out, HE2.out] at this)
        have HNE := Lib.hid hne
        clear hbb hne
        go_wp2_with fail
        (refine wp_region_ext (by kernel_rfl) (by kernel_rfl) ?_; (repeat (first | ((with_reducible refine ext_step (fun K hK => ?_)); go_simp; first | (refine hK _ ?_; clear hK K) | (apply Exists.intro; refine ⟨fun _ _ => ?_, hK _ ?_⟩; fail; clear hK K)))); ((with_reducible refine ext_step (fun K hK => ?_)); go_simp; (apply Exists.intro; refine ⟨fun _ _ => ?_, hK _ ?_⟩; (go_at_call 44; exact extOf (HB1.out _ (HI.out.below (by repeat (first | exact Below.refl _ _ | refine Below.drew ?_ | refine below_drewN ?_ _ | refine Below.alloc ?_ (by first | exact Nat.le_refl _ | (simp; done) | (simp; omega) | omega) _ | refine Below.setCell ?_ (by first | exact Nat.le_refl _ | (simp; done) | (simp; omega) | omega) _ | refine bExtW ?_ (by first | exact Nat.le_refl _ | (simp; done) | (simp; omega) | omega) | refine Below.trans ?_ (Below.mono (by assumption) (by first | exact Nat.le_refl _ | (simp; done) | (simp; omega) | omega))))))); clear hK K)); (repeat (first | ((with_reducible refine ext_step (fun K hK => ?_)); go_simp; first | (refine hK _ ?_; clear hK K) | (apply Exists.intro; refine ⟨fun _ _ => ?_, hK _ ?_⟩; fail; clear hK K)))); ((with_reducible refine ext_step (fun K hK => ?_)); go_simp; (apply Exists.intro; refine ⟨fun _ _ => ?_, hK _ ?_⟩; (go_at_call 44; exact extOf (HB2.out _ (HI.out.below (by repeat (first | exact Below.refl _ _ | refine Below.drew ?_ | refine below_drewN ?_ _ | refine Below.alloc ?_ (by first | exact Nat.le_refl _ | (simp; done) | (simp; omega) | omega) _ | refine Below.setCell ?_ (by first | exact Nat.le_refl _ | (simp; done) | (simp; omega) | omega) _ | refine bExtW ?_ (by first | exact Nat.le_refl _ | (simp; done) | (simp; omega) | omega) | refine Below.trans ?_ (Below.mono (by assumption) (by first | exact Nat.le_refl _ | (simp; done) | (simp; omega) | omega))))))); clear hK K)); (repeat (first | ((with_reducible refine ext_step (fun K hK => ?_)); go_simp; first | (refine hK _ ?_; clear hK K) | (apply Exists.intro; refine ⟨fun _ _ => ?_, hK _ ?_⟩; fail; clear hK K)))); refine wpQuiet_nil ?_; intro E d)
        go_wp2
        go_ret
        exact ⟨by rw [decide_eq_false HNE.out]; rfl, (by repeat (first | exact Below.refl _ _ | refine Below.drew ?_ | refine below_drewN ?_ _ | refine Below.alloc ?_ (by first | exact Nat.le_refl _ | (simp; done) | (simp; omega) | omega) _ | refine Below.setCell ?_ (by first | exact Nat.le_refl _ | (simp; done) | (simp; omega) | omega) _ | refine bExtW ?_ (by first | exact Nat.le_refl _ | (simp; done) | (simp; omega) | omega) | refine Below.trans ?_ (Below.mono (by assumption) (by first | exact Nat.le_refl _ | (simp; done) | (simp; omega) | omega))))⟩
    · obtain rfl : W = x := by omega
      go_wp2
      go_ret
      exact ⟨by rw [decide_eq_true (rowL_eq.2 HRUN.out)]; rfl, (by repeat (first | exact Below.refl _ _ | refine Below.drew ?_ | refine below_drewN ?_ _ | refine Below.alloc ?_ (by first | exact Nat.le_refl _ | (simp; done) | (simp; omega) | omega) _ | refine Below.setCell ?_ (by first | exact Nat.le_refl _ | (simp; done) | (simp; omega) | omega) _ | refine bExtW ?_ (by first | exact Nat.le_refl _ | (simp; done) | (simp; omega) | omega) | refine Below.trans ?_ (Below.mono (by assumption) (by first | exact Nat.le_refl _ | (simp; done) | (simp; omega) | omega))))⟩
/-- What lies in memory while a deck is read: the results, where we are, nothing else touched. -/
structure UI (q q1 q2 : Nat) (w0 : World) (p : Int) (w : World) : Prop where
  res : w.rowIs q 24 3 (tF 0 0 (.slice none 0 0))
  flt : w.rowIs q1 29 2 (fF 0 0)
  at_ : w.rowIs q2 3 1 (fun _ => .int .i64 p)
  bel : Below q w0 w
theorem UI.grow {q q1 q2 B : Nat} {w0 w w' : World} {p : Int} (h : UI q q1 q2 w0 p w) (hb : Below B w w') (hB : q2 < B) (h1 : q < q1) (h2 : q1 < q2) : UI q q1 q2 w0 p w' :=
  ⟨rowBelow h.res hb (by omega), rowBelow h.flt hb (by omega), rowBelow h.at_ hb (by omega), h.bel.trans (hb.mono (by omega))⟩
theorem UI.setAt {q q1 q2 : Nat} {w0 w : World} {p : Int} (h : UI q q1 q2 w0 p w) (h1 : q < q1) (h2 : q1 < q2) (p' : Int) : UI q q1 q2 w0 p' (w.setCell ⟨q2, 0, none⟩ (.int .i64 p')) :=
  ⟨h.res.of_block (Below.heap_setCell _ _ _ q (by simp; omega)), h.flt.of_block (Below.heap_setCell _ _ _ q1 (by simp; omega)), (h.at_.set 0 _).congr (fun i hi => by
    obtain rfl : i = 0 := by omega
    rfl), h.bel.setCell (by simp; omega) _⟩
theorem UI.setOther {q q1 q2 b i : Nat} {w0 w : World} {p : Int} {v : Value} (h : UI q q1 q2 w0 p w) (h1 : q < q1) (h2 : q1 < q2) (hb : q2 < b) : UI q q1 q2 w0 p (w.setCell ⟨b, i, none⟩ v) :=
  ⟨h.res.of_block (Below.heap_setCell _ _ _ q (by simp; omega)), h.flt.of_block (Below.heap_setCell _ _ _ q1 (by simp; omega)), h.at_.of_block (Below.heap_setCell _ _ _ q2 (by simp; omega)), h.bel.setCell (by simp; omega) _⟩
/-- The same, with the truth that is made. -/
structure UM (q q1 q2 mb base : Nat) (w0 : World) (p : Int) (W H : Nat) (acc : List Bool) (v : Value) (w : World) : Prop where
  ui : UI q q1 q2 w0 p w
  row : w.rowIs mb 24 3 (tF W H v)
  own : w.ownsRow base 4 1 v acc.length (acc.map Value.bool)
  siz : base ≤ w.heap.size
structure Ord (q q1 q2 mb base : Nat) : Prop where
  a : q < q1
  b : q1 < q2
  c : q2 < mb
  d : mb < base
theorem UM.grow {q q1 q2 mb base W H : Nat} {w0 w w' : World} {p : Int} {acc : List Bool} {v : Value} (h : UM q q1 q2 mb base w0 p W H acc v w) (o : Ord q q1 q2 mb base) (hb : Below w.heap.size w w') : UM q q1 q2 mb base w0 p W H acc v w' :=
  ⟨h.ui.grow hb (by have := h.siz; have := o.c; have := o.d; omega) o.a o.b, rowBelow h.row hb h.row.lt, ownBelow h.own hb, Nat.le_trans h.siz hb.size⟩
theorem UM.setAt {q q1 q2 mb base W H : Nat} {w0 w : World} {p : Int} {acc : List Bool} {v : Value} (h : UM q q1 q2 mb base w0 p W H acc v w) (o : Ord q q1 q2 mb base) (p' : Int) : UM q q1 q2 mb base w0 p' W H acc v (w.setCell ⟨q2, 0, none⟩ (.int .i64 p')) :=
  ⟨h.ui.setAt o.a o.b p', h.row.of_block (Below.heap_setCell _ _ _ mb (by have := o.c; simp; omega)), ownsRow_setCell_below h.own (a := ⟨q2, 0, none⟩) (by have := o.c; have := o.d; simp; omega) _, by rw [World.size_setCell]; exact h.siz⟩
theorem UM.app {q q1 q2 mb base W H : Nat} {w0 w w2 : World} {p : Int} {acc : List Bool} {v v' : Value} {x : Bool} (h : UM q q1 q2 mb base w0 p W H acc v w) (o : Ord q q1 q2 mb base) (hown : w2.ownsRow base 4 1 v' (acc.length + 1) (acc.map Value.bool ++ [Value.bool x])) (hb : Below base w w2) :
    UM q q1 q2 mb base w0 p W H (acc ++ [x]) v' (w2.setCell ⟨mb, 2, none⟩ v') := by
  refine ⟨(h.ui.grow hb (by have := o.c; have := o.d; omega) o.a o.b).setOther o.a o.b o.c, ?_, ?_, by rw [World.size_setCell]; exact Nat.le_trans h.siz hb.size⟩
  · refine ((rowBelow h.row hb o.d).set 2 _).congr fun i hi => ?_
    have hi3 : i = 0 ∨ i = 1 ∨ i = 2 := by omega
    rcases hi3 with rfl | rfl | rfl <;> rfl
  · rw [List.length_append, List.map_append]
    exact ownsRow_setCell_below hown (a := ⟨mb, 2, none⟩) o.d _
theorem rowL_app {acc l : List Bool} {W k : Nat} (h : (k + 1) * W ≤ acc.length) : rowL (acc ++ l) W k = rowL acc W k := by
  unfold rowL
  refine List.map_congr_left fun x hx => ?_
  rw [List.mem_range] at hx
  have h1 : (k + 1) * W = k * W + W := Nat.succ_mul k W
  rw [List.getD_eq_getElem?_getD, List.getElem?_append_left (by omega), ← List.getD_eq_getElem?_getD]
theorem rowL_rep {acc row : List Bool} {W y x i : Nat} (hl : acc.length = y * W) (hr : row.length = W) (hi : i < x) : rowL (acc ++ (List.replicate x row).flatten) W (y + i) = row := by
  refine eq_of_getB (n := W) (by simp [rowL]) hr fun j hj => ?_
  rw [rowL_get' hj, List.getD_eq_getElem?_getD, List.getElem?_append_right (by rw [hl, Nat.add_mul]; omega), hl, show (y + i) * W + j - y * W = i * W + j by rw [Nat.add_mul]; omega, ← List.getD_eq_getElem?_getD]
  exact rep_get hr x i j hi hj
theorem row_snoc {row : List Bool} {j : Nat} (h : j < row.length) : row.take (j + 1) = row.take j ++ [row.getD j false] := by
  rw [List.take_add_one, List.getElem?_eq_getElem h]; simp [List.getD, h]
theorem meas {w w' : World} {q2 k N : Nat} (h : w.cell? ⟨q2, 0, none⟩ = some (.int .i64 ((k : Int)))) (h' : w'.cell? ⟨q2, 0, none⟩ = some (.int .i64 ((k : Int) + 1))) (hk : k < N) : N - (cellInt w' q2 0).toNat < N - (cellInt w q2 0).toNat := by
  rw [cellInt_of h, cellInt_of h']; omega
theorem okT_setN {w : World} {a : Option Addr} {n c q i : Nat} {bs : List Bool} {v : Value} (h : OkT w a n c bs) (hm : ∀ b o, a = some ⟨b, o, none⟩ → b ≠ q) : OkT (w.setCell ⟨q, i, none⟩ v) a n c bs := okT_set h hm
set_option maxRecDepth 100000 in
set_option maxHeartbeats 0 in
theorem rUnpack_any (s : ByteArray) (w : World) (hs : s.size ≤ 9223372036854775807) : Calls Try.prog 10 #[.string s] w (UnpPost (unp (bytesOf s)) w) := by
  have hBL := bytesOf_len s
  have HLT := Lib.hid (bytesOf_lt s)
  have HIX : Hid (∀ k, k < (bytesOf s).length → ∀ w, (Instr.index 9 (.string s) (.int .i64 (k))).run Try.prog w = .ok (.int .u8 ((bytesOf s).getD k 0 : Nat)) w) := Lib.hid fun k h w => index_at s h w
  obtain ⟨B, hB⟩ : ∃ B, bytesOf s = B := ⟨_, rfl⟩
  have HBE := Lib.hid hB
  rw [hB] at hBL HLT HIX ⊢
  clear hB
  obtain ⟨N, hN⟩ : ∃ N, s.size = N := ⟨_, rfl⟩
  rw [hN] at hBL hs
  have HN := Lib.hid hBL
  rw [hBL] at HIX
  clear hBL
  go_enter Try.func10, Try.ntmps10
  go_wp2_with fail
  have hui0 : UI w.heap.size (w.heap.size + 1) (w.heap.size + 1 + 1) w 0 ((((w.alloc (.cells #[.int .i64 (0), .int .i64 (0), .slice none 0 0] 24)).alloc (.cells #[.int .i64 (0), .int .i64 (0)] 29)).alloc (.cells #[.int .i64 (0)] 3))) := by
    refine ⟨?_, ?_, ?_, ?_⟩
    · exact ((tF_alloc w 0 0 (.slice none 0 0) rfl).alloc _).alloc _
    · have := (fF_alloc (w.alloc (.cells #[.int .i64 (0), .int .i64 (0), .slice none 0 0] 24)) 0 0).alloc (.cells #[.int .i64 (0)] 3)
      rwa [World.size_alloc] at this
    · have := World.rowIs_alloc ((w.alloc (.cells #[.int .i64 (0), .int .i64 (0), .slice none 0 0] 24)).alloc (.cells #[.int .i64 (0), .int .i64 (0)] 29)) #[.int .i64 (0)] 3 (fun _ => .int .i64 (0)) (by
        intro i hi
        have hi1 : i = 0 := by simp at hi; exact hi
        subst hi1; rfl)
      simpa using this
    · exact (by repeat (first | exact Below.refl _ _ | refine Below.drew ?_ | refine below_drewN ?_ _ | refine Below.alloc ?_ (by first | exact Nat.le_refl _ | (simp; done) | (simp; omega) | omega) _ | refine Below.setCell ?_ (by first | exact Nat.le_refl _ | (simp; done) | (simp; omega) | omega) _ | refine bExtW ?_ (by first | exact Nat.le_refl _ | (simp; done) | (simp; omega) | omega) | refine Below.trans ?_ (Below.mono (by assumption) (by first | exact Nat.le_refl _ | (simp; done) | (simp; omega) | omega))))
  have hq1 : w.heap.size < w.heap.size + 1 := by omega
  have hq2 : w.heap.size + 1 < w.heap.size + 1 + 1 := by omega
  generalize (((w.alloc (.cells #[.int .i64 (0), .int .i64 (0), .slice none 0 0] 24)).alloc (.cells #[.int .i64 (0), .int .i64 (0)] 29)).alloc (.cells #[.int .i64 (0)] 3)) = W0 at *
  generalize w.heap.size + 1 + 1 = q2 at *
  generalize w.heap.size + 1 = q1 at *
  generalize hq : w.heap.size = q at *
  have HQE := Lib.hid hq
  have HUI0 := Lib.hid hui0
  clear hq hui0
  go_loopw [] (fun wr => ∃ (k : Nat), k ≤ 3 ∧ Hid (∀ j, j < k → j < N ∧ B.getD j 0 = [74, 81, 49].getD j 0) ∧ UI q q1 q2 w (k : Int) wr) (fun wr => 3 - (cellInt wr q2 0).toNat)
  case atStart => exact ⟨0, by omega, Lib.hid fun j h => absurd h (by omega), HUI0.out⟩
  case round =>
    obtain ⟨k, hk, HK, hui⟩ := hrel
    have HU1 := Lib.hid hui
    have a0 : (wr).cell? ⟨q2, 0, none⟩ = some (.int .i64 ((k : Int))) := (hui).at_.cell (i := 0) (by omega)
    have fa := (hui).at_.frozen 0
    have la : LtW q2 wr := (hui).at_.lt
    clear hui
    by_cases hk3 : k < 3
    · have hkN : k ≤ N := by
        rcases Nat.eq_zero_or_pos k with h | h
        · omega
        · have := (HK.out (k-1) (by omega)).1; omega
      have hmk := index_mark hk3
      by_cases he : k = N
      · have t1 : decide ((N : Int) ≤ (k : Int)) = true := by simp; omega
        have t2 : decide (N ≤ k) = true := by simp; omega
        have HU : Hid (unp B = (.bad k, 0, 0)) := Lib.hid (unp_mark hk3 (fun j h => by rw [HN.out]; exact HK.out j h) (.inl (by rw [HN.out]; exact he)))
        clear he
        go_wp2_with fail
        (refine wp_region_ext (by kernel_rfl) (by kernel_rfl) ?_; (repeat (first | ((with_reducible refine ext_step (fun K hK => ?_)); go_simp; first | (refine hK _ ?_; clear hK K) | (apply Exists.intro; refine ⟨fun _ _ => ?_, hK _ ?_⟩; fail; clear hK K)))); refine wpQuiet_nil ?_; intro E d)
        have HUI := Lib.hid (HU1.out.grow (bExtW (Below.refl _ _) (Nat.le_refl _) : Below wr.heap.size wr (extW wr E d)) HU1.out.at_.lt hq1 hq2)
        clear HU1 a0 fa la
        generalize extW wr E d = wx at *
        go_wp2_with fail
        refine (rbad_any q2 (k : Int) _ (HUI.out.at_.cell (i := 0) (by omega)) HUI.out.at_.lt).mono ?_
        rintro r w8 ⟨rfl, hb8⟩
        have hu8 := HUI.out.grow hb8 HUI.out.at_.lt hq1 hq2
        have r0 : w8.cell? ⟨q, 0, none⟩ = some (.int .i64 (0)) := hu8.res.cell (i := 0) (by omega)
        have r1 : w8.cell? ⟨q, 1, none⟩ = some (.int .i64 (0)) := hu8.res.cell (i := 1) (by omega)
        have r2 : w8.cell? ⟨q, 2, none⟩ = some (.slice none 0 0) := hu8.res.cell (i := 2) (by omega)
        have f0 := hu8.res.frozen 0; have f1 := hu8.res.frozen 1; have f2 := hu8.res.frozen 2
        have s0 : w8.cell? ⟨q1, 0, none⟩ = some (.int .i64 (0)) := hu8.flt.cell (i := 0) (by omega)
        have s1 : w8.cell? ⟨q1, 1, none⟩ = some (.int .i64 (0)) := hu8.flt.cell (i := 1) (by omega)
        have g0 := hu8.flt.frozen 0; have g1 := hu8.flt.frozen 1
        have lr : LtW q w8 := hu8.res.lt
        have lf : LtW q1 w8 := hu8.flt.lt
        have HBF := Lib.hid hu8.bel
        clear hb8 hu8 HUI
        go_wp2
        refine bodyPost_ret (v := .tuple #[.agg #[.int .i64 (0), .int .i64 (0), .slice none 0 0], .agg #[.int .i64 (2), .int .i64 ((k : Int))]]) (by simp [results, Try.results10, go_sem, r0, r1, r2, s0, s1]) rfl ?_
        unfold UnpPost
        rw [HU.out]
        refine ⟨rfl, ?_⟩
        rw [HQE.out]
        exact ((((HBF.out.setCell (by first | omega | (simp; done) | (simp; omega)) _).setCell (by first | omega | (simp; done) | (simp; omega)) _).setCell (by first | omega | (simp; done) | (simp; omega)) _).setCell (by first | omega | (simp; done) | (simp; omega)) _).setCell (by first | omega | (simp; done) | (simp; omega)) _
      · have t1 : decide ((N : Int) ≤ (k : Int)) = false := by simp; omega
        have t2 : decide (N ≤ k) = false := by simp; omega
        have hix := HIX.out k (by omega)
        obtain ⟨x, hx⟩ : ∃ x, B.getD k 0 = x := ⟨_, rfl⟩
        obtain ⟨m, hm⟩ : ∃ m, [74, 81, 49].getD k 0 = m := ⟨_, rfl⟩
        rw [hx] at hix
        rw [hm] at hmk
        by_cases hxm : x = m
        · subst hxm
          have t3 : ((x : Int) != (x : Int)) = false := by simp
          have t4 : (x != x) = false := by simp
          have HK2 : Hid (∀ j, j < k + 1 → j < N ∧ B.getD j 0 = [74, 81, 49].getD j 0) := Lib.hid fun j h => by
            by_cases e : j = k
            · subst e; exact ⟨by omega, by rw [hx, hm]⟩
            · exact HK.out j (by omega)
          clear he hx hm
          go_wp2_with fail
          (refine wp_region_ext (by kernel_rfl) (by kernel_rfl) ?_; (repeat (first | ((with_reducible refine ext_step (fun K hK => ?_)); go_simp; first | (refine hK _ ?_; clear hK K) | (apply Exists.intro; refine ⟨fun _ _ => ?_, hK _ ?_⟩; fail; clear hK K)))); refine wpQuiet_nil ?_; intro E d)
          clear hix hmk
          go_wp2
          go_roundw
          case rel => exact ⟨k + 1, by omega, HK2, (HU1.out.setAt hq1 hq2 _).grow (bExtW (Below.refl _ _) (Nat.le_refl _)) (HU1.out.setAt hq1 hq2 _).at_.lt hq1 hq2⟩
          case measure => exact meas a0 (((HU1.out.setAt hq1 hq2 _).grow (bExtW (Below.refl _ _) (Nat.le_refl _)) (HU1.out.setAt hq1 hq2 _).at_.lt hq1 hq2).at_.cell (i := 0) (by omega)) hk3
        · have t3 : ((x : Int) != (m : Int)) = true := by simp; omega
          have t4 : (x != m) = true := by simp; omega
          have HU : Hid (unp B = (.bad k, 0, 0)) := Lib.hid (unp_mark hk3 (fun j h => by rw [HN.out]; exact HK.out j h) (.inr (by rw [hx, hm]; exact hxm)))
          clear he hx hm hxm
          go_wp2_with fail
          (refine wp_region_ext (by kernel_rfl) (by kernel_rfl) ?_; (repeat (first | ((with_reducible refine ext_step (fun K hK => ?_)); go_simp; first | (refine hK _ ?_; clear hK K) | (apply Exists.intro; refine ⟨fun _ _ => ?_, hK _ ?_⟩; fail; clear hK K)))); refine wpQuiet_nil ?_; intro E d)
          clear hix hmk
          have HUI := Lib.hid (HU1.out.grow (bExtW (Below.refl _ _) (Nat.le_refl _) : Below wr.heap.size wr (extW wr E d)) HU1.out.at_.lt hq1 hq2)
          clear HU1 a0 fa la
          generalize extW wr E d = wx at *
          go_wp2_with fail
          refine (rbad_any q2 (k : Int) _ (HUI.out.at_.cell (i := 0) (by omega)) HUI.out.at_.lt).mono ?_
          rintro r w8 ⟨rfl, hb8⟩
          have hu8 := HUI.out.grow hb8 HUI.out.at_.lt hq1 hq2
          have r0 : w8.cell? ⟨q, 0, none⟩ = some (.int .i64 (0)) := hu8.res.cell (i := 0) (by omega)
          have r1 : w8.cell? ⟨q, 1, none⟩ = some (.int .i64 (0)) := hu8.res.cell (i := 1) (by omega)
          have r2 : w8.cell? ⟨q, 2, none⟩ = some (.slice none 0 0) := hu8.res.cell (i := 2) (by omega)
          have f0 := hu8.res.frozen 0; have f1 := hu8.res.frozen 1; have f2 := hu8.res.frozen 2
          have s0 : w8.cell? ⟨q1, 0, none⟩ = some (.int .i64 (0)) := hu8.flt.cell (i := 0) (by omega)
          have s1 : w8.cell? ⟨q1, 1, none⟩ = some (.int .i64 (0)) := hu8.flt.cell (i := 1) (by omega)
          have g0 := hu8.flt.frozen 0; have g1 := hu8.flt.frozen 1
          have lr : LtW q w8 := hu8.res.lt
          have lf : LtW q1 w8 := hu8.flt.lt
          have HBF := Lib.hid hu8.bel
          clear hb8 hu8 HUI
          go_wp2
          refine bodyPost_ret (v := .tuple #[.agg #[.int .i64 (0), .int .i64 (0), .slice none 0 0], .agg #[.int .i64 (2), .int .i64 ((k : Int))]]) (by simp [results, Try.results10, go_sem, r0, r1, r2, s0, s1]) rfl ?_
          unfold UnpPost
          rw [HU.out]
          refine ⟨rfl, ?_⟩
          rw [HQE.out]
          exact ((((HBF.out.setCell (by first | omega | (simp; done) | (simp; omega)) _).setCell (by first | omega | (simp; done) | (simp; omega)) _).setCell (by first | omega | (simp; done) | (simp; omega)) _).setCell (by first | omega | (simp; done) | (simp; omega)) _).setCell (by first | omega | (simp; done) | (simp; omega)) _
    · as_aux_lemma =>
      obtain rfl : k = 3 := by omega
      have HK3 : Hid (∀ j, j < 3 → j < N ∧ B.getD j 0 = [74, 81, 49].getD j 0) := HK
      have h3N : 3 ≤ N := by have := (HK.out 2 (by omega)).1; omega
      have HUR : Hid (unp B = if 3 = N ∨ 64 < B.getD 3 0 then (.bad 3, 0, 0)
        else if 4 = N ∨ 64 < B.getD 4 0 then (.bad 4, 0, 0)
        else (unF B (B.getD 3 0) (B.getD 4 0) (B.getD 4 0 + 1) 0 5 [] [], B.getD 3 0, B.getD 4 0)) := Lib.hid (by
          have := unp_rest (B := B) (fun j h => by rw [HN.out]; exact HK.out j h)
          rwa [HN.out] at this)
      clear HK
      go_wp2_with fail
      clear a0 fa la
      obtain ⟨wo, hwo⟩ : ∃ wo : World, wo = wr := ⟨_, rfl⟩
      subst hwo
      have HU3 := HU1
      clear HU1 HUI0
      go_loopw [] (fun wr => ∃ (k : Nat), k ≤ 2 ∧ Hid (∀ j, j < k → 3 + j < N ∧ B.getD (3 + j) 0 ≤ 64) ∧ UI q q1 q2 w ((3 + k : Nat) : Int) wr) (fun wr => 5 - (cellInt wr q2 0).toNat)
      case atStart => exact ⟨0, by omega, Lib.hid fun j h => absurd h (by omega), HU3.out⟩
      case round =>
        obtain ⟨k, hk, HK, hui⟩ := hrel
        have HU1 := Lib.hid hui
        have a0 : (wr).cell? ⟨q2, 0, none⟩ = some (.int .i64 (((3 + k : Nat) : Int))) := (hui).at_.cell (i := 0) (by omega)
        have fa := (hui).at_.frozen 0
        have la : LtW q2 wr := (hui).at_.lt
        clear hui HU3
        by_cases hk3 : k < 2
        · have hkN : 3 + k ≤ N := by
            rcases Nat.eq_zero_or_pos k with h | h
            · omega
            · have := (HK.out (k-1) (by omega)).1; omega
          have HU0 : Hid (3 + k = N ∨ 64 < B.getD (3 + k) 0 → unp B = (.bad (3 + k), 0, 0)) := Lib.hid (by
            intro h
            rw [HUR.out]
            have hk2 : k = 0 ∨ k = 1 := by omega
            rcases hk2 with rfl | rfl
            · rw [if_pos h]
            · have h0 : 3 < N ∧ B.getD 3 0 ≤ 64 := HK.out 0 (by omega)
              rw [if_neg (by rintro (e | e); omega; omega), if_pos h])
          obtain ⟨k3, hk3e⟩ : ∃ k3, 3 + k = k3 := ⟨_, rfl⟩
          rw [hk3e] at a0 hkN HU0
          have HU1' : Hid (UI q q1 q2 w (k3 : Int) wr) := by rw [← hk3e]; exact HU1
          clear HU1
          have HU1 := HU1'
          clear HU1'
          have HK3E := Lib.hid hk3e
          have hk5 : k3 ≤ 4 := by omega
          by_cases he : k3 = N
          · have t1 : decide ((N : Int) ≤ (k3 : Int)) = true := by simp; omega
            have t2 : decide (N ≤ k3) = true := by simp; omega
            have t0 : decide ((k3 : Int) < 5) = true := by simp; omega
            have t0' : decide (k3 < 5) = true := by simp; omega
            have HU : Hid (unp B = (.bad k3, 0, 0)) := Lib.hid (HU0.out (.inl he))
            clear he hk3e
            go_wp2_with fail
            have HUI := HU1
            clear HU1 a0 fa la
            generalize wr = wx at *
            go_wp2_with fail
            refine (rbad_any q2 (k3 : Int) _ (HUI.out.at_.cell (i := 0) (by omega)) HUI.out.at_.lt).mono ?_
            rintro r w8 ⟨rfl, hb8⟩
            have hu8 := HUI.out.grow hb8 HUI.out.at_.lt hq1 hq2
            have r0 : w8.cell? ⟨q, 0, none⟩ = some (.int .i64 (0)) := hu8.res.cell (i := 0) (by omega)
            have r1 : w8.cell? ⟨q, 1, none⟩ = some (.int .i64 (0)) := hu8.res.cell (i := 1) (by omega)
            have r2 : w8.cell? ⟨q, 2, none⟩ = some (.slice none 0 0) := hu8.res.cell (i := 2) (by omega)
            have f0 := hu8.res.frozen 0; have f1 := hu8.res.frozen 1; have f2 := hu8.res.frozen 2
            have s0 : w8.cell? ⟨q1, 0, none⟩ = some (.int .i64 (0)) := hu8.flt.cell (i := 0) (by omega)
            have s1 : w8.cell? ⟨q1, 1, none⟩ = some (.int .i64 (0)) := hu8.flt.cell (i := 1) (by omega)
            have g0 := hu8.flt.frozen 0; have g1 := hu8.flt.frozen 1
            have lr : LtW q w8 := hu8.res.lt
            have lf : LtW q1 w8 := hu8.flt.lt
            have HBF := Lib.hid hu8.bel
            clear hb8 hu8 HUI
            go_wp2
            refine bodyPost_ret (v := .tuple #[.agg #[.int .i64 (0), .int .i64 (0), .slice none 0 0], .agg #[.int .i64 (2), .int .i64 ((k3 : Int))]]) (by simp [results, Try.results10, go_sem, r0, r1, r2, s0, s1]) rfl ?_
            unfold UnpPost
            rw [HU.out]
            refine ⟨rfl, ?_⟩
            rw [HQE.out]
            exact ((((HBF.out.setCell (by first | omega | (simp; done) | (simp; omega)) _).setCell (by first | omega | (simp; done) | (simp; omega)) _).setCell (by first | omega | (simp; done) | (simp; omega)) _).setCell (by first | omega | (simp; done) | (simp; omega)) _).setCell (by first | omega | (simp; done) | (simp; omega)) _
          · as_aux_lemma =>
            have t1 : decide ((N : Int) ≤ (k3 : Int)) = false := by simp; omega
            have t2 : decide (N ≤ k3) = false := by simp; omega
            have t0 : decide ((k3 : Int) < 5) = true := by simp; omega
            have t0' : decide (k3 < 5) = true := by simp; omega
            have hix := HIX.out k3 (by omega)
            obtain ⟨x, hx⟩ : ∃ x, B.getD k3 0 = x := ⟨_, rfl⟩
            rw [hx] at hix HU0
            by_cases hxm : x ≤ 64
            · have t3 : decide ((64 : Int) < (x : Int)) = false := by simp; omega
              have t4 : decide (64 < x) = false := by simp; omega
              have HK2 : Hid (∀ j, j < k + 1 → 3 + j < N ∧ B.getD (3 + j) 0 ≤ 64) := Lib.hid fun j h => by
                by_cases e : j = k
                · subst e; rw [hk3e]; exact ⟨by omega, by rw [hx]; exact hxm⟩
                · exact HK.out j (by omega)
              clear he hx hxm hk3e
              go_wp2
              go_roundw
              case rel => exact ⟨k + 1, by omega, HK2, by
                have := HU1.out.setAt hq1 hq2 ((k3 : Int) + 1)
                rw [show ((3 + (k + 1) : Nat) : Int) = (k3 : Int) + 1 by have := HK3E.out; omega]
                exact this⟩
              case measure => exact meas a0 ((HU1.out.setAt hq1 hq2 _).at_.cell (i := 0) (by omega)) (by have := HK3E.out; omega)
            · have t3 : decide ((64 : Int) < (x : Int)) = true := by simp; omega
              have t4 : decide (64 < x) = true := by simp; omega
              have HU : Hid (unp B = (.bad k3, 0, 0)) := Lib.hid (HU0.out (.inr (by omega)))
              clear he hx hxm hk3e
              go_wp2_with fail
              have HUI := HU1
              clear HU1 a0 fa la hix
              generalize wr = wx at *
              go_wp2_with fail
              refine (rbad_any q2 (k3 : Int) _ (HUI.out.at_.cell (i := 0) (by omega)) HUI.out.at_.lt).mono ?_
              rintro r w8 ⟨rfl, hb8⟩
              have hu8 := HUI.out.grow hb8 HUI.out.at_.lt hq1 hq2
              have r0 : w8.cell? ⟨q, 0, none⟩ = some (.int .i64 (0)) := hu8.res.cell (i := 0) (by omega)
              have r1 : w8.cell? ⟨q, 1, none⟩ = some (.int .i64 (0)) := hu8.res.cell (i := 1) (by omega)
              have r2 : w8.cell? ⟨q, 2, none⟩ = some (.slice none 0 0) := hu8.res.cell (i := 2) (by omega)
              have f0 := hu8.res.frozen 0; have f1 := hu8.res.frozen 1; have f2 := hu8.res.frozen 2
              have s0 : w8.cell? ⟨q1, 0, none⟩ = some (.int .i64 (0)) := hu8.flt.cell (i := 0) (by omega)
              have s1 : w8.cell? ⟨q1, 1, none⟩ = some (.int .i64 (0)) := hu8.flt.cell (i := 1) (by omega)
              have g0 := hu8.flt.frozen 0; have g1 := hu8.flt.frozen 1
              have lr : LtW q w8 := hu8.res.lt
              have lf : LtW q1 w8 := hu8.flt.lt
              have HBF := Lib.hid hu8.bel
              clear hb8 hu8 HUI
              go_wp2
              refine bodyPost_ret (v := .tuple #[.agg #[.int .i64 (0), .int .i64 (0), .slice none 0 0], .agg #[.int .i64 (2), .int .i64 ((k3 : Int))]]) (by simp [results, Try.results10, go_sem, r0, r1, r2, s0, s1]) rfl ?_
              unfold UnpPost
              rw [HU.out]
              refine ⟨rfl, ?_⟩
              rw [HQE.out]
              exact ((((HBF.out.setCell (by first | omega | (simp; done) | (simp; omega)) _).setCell (by first | omega | (simp; done) | (simp; omega)) _).setCell (by first | omega | (simp; done) | (simp; omega)) _).setCell (by first | omega | (simp; done) | (simp; omega)) _).setCell (by first | omega | (simp; done) | (simp; omega)) _
        · as_aux_lemma =>
          obtain rfl : k = 2 := by omega
          have h3 : 3 < N ∧ B.getD 3 0 ≤ 64 := HK.out 0 (by omega)
          have h4 : 4 < N ∧ B.getD 4 0 ≤ 64 := HK.out 1 (by omega)
          have HUN : Hid (unp B = (unF B (B.getD 3 0) (B.getD 4 0) (B.getD 4 0 + 1) 0 5 [] [], B.getD 3 0, B.getD 4 0)) := Lib.hid (by
            rw [HUR.out, if_neg (by omega), if_neg (by omega)])
          have hi3 := HIX.out 3 (by omega)
          have hi4 := HIX.out 4 (by omega)
          obtain ⟨W, hW⟩ : ∃ W, B.getD 3 0 = W := ⟨_, rfl⟩
          obtain ⟨H, hH⟩ : ∃ H, B.getD 4 0 = H := ⟨_, rfl⟩
          rw [hW, hH] at HUN
          rw [hW] at hi3 h3
          rw [hH] at hi4 h4
          have hi3' : ∀ w, (Instr.index 9 (.string s) (.int .i64 (3 : Int))).run Try.prog w = .ok (.int .u8 (W : Nat)) w := hi3
          have hi4' : ∀ w, (Instr.index 9 (.string s) (.int .i64 (4 : Int))).run Try.prog w = .ok (.int .u8 (H : Nat)) w := hi4
          have x1 : IntKind.i64.wrap (W : Int) = (W : Int) := IntWalk.i64_in _ (by omega)
          have x2 : IntKind.i64.wrap (H : Int) = (H : Int) := IntWalk.i64_in _ (by omega)
          clear hi3 hi4 hW hH HK HK3 HUR
          go_wp2_with fail
          (refine wp_region_ext_alloc 7 24 (some 6) _ (by kernel_rfl) (by kernel_rfl) rfl allocTru ?_; simp only [List.take_succ_cons, List.take_zero, List.drop_succ_cons, List.drop_zero]; (repeat (first | ((with_reducible refine wpV_step (fun K hK => ?_)); go_simp; first | (refine hK _ ?_; clear hK K) | (apply Exists.intro; refine ⟨fun _ _ => ?_, hK _ ?_⟩; fail; clear hK K)))); refine wpV_nil ?_; intro E d E' d'; go_simp)
          go_wp2_with fail
          have hsm : (extW wr E d).heap.size = wr.heap.size + E.size := by simp
          have hmu : q2 < wr.heap.size := HU1.out.at_.lt
          have hb3 : Below wr.heap.size wr (extW ((extW wr E d).alloc (.cells #[.int .i64 (W), .int .i64 (H), .slice none 0 0] 24)) E' d') := (by repeat (first | exact Below.refl _ _ | refine Below.drew ?_ | refine below_drewN ?_ _ | refine Below.alloc ?_ (by first | exact Nat.le_refl _ | (simp; done) | (simp; omega) | omega) _ | refine Below.setCell ?_ (by first | exact Nat.le_refl _ | (simp; done) | (simp; omega) | omega) _ | refine bExtW ?_ (by first | exact Nat.le_refl _ | (simp; done) | (simp; omega) | omega) | refine Below.trans ?_ (Below.mono (by assumption) (by first | exact Nat.le_refl _ | (simp; done) | (simp; omega) | omega))))
          have hm3 := rowBelow (tF_alloc (extW wr E d) W H (.slice none 0 0) rfl) (bExtW (Below.refl _ _) (Nat.le_refl _) : Below _ _ (extW ((extW wr E d).alloc (.cells #[.int .i64 (W), .int .i64 (H), .slice none 0 0] 24)) E' d')) (by simp)
          have hui3 := HU1.out.grow hb3 hmu hq1 hq2
          rw [hsm] at hm3
          clear HU1 a0 fa la hi3' hi4' hb3
          generalize extW ((extW wr E d).alloc (.cells #[.int .i64 (W), .int .i64 (H), .slice none 0 0] 24)) E' d' = W3 at *
          obtain ⟨mb, hmb⟩ : ∃ mb, wr.heap.size + E.size = mb := ⟨_, rfl⟩
          rw [hmb] at hm3 ⊢
          obtain ⟨base, hbase⟩ : ∃ base, base = W3.heap.size := ⟨_, rfl⟩
          have hord : Ord q q1 q2 mb base := ⟨hq1, hq2, by omega, by rw [hbase]; exact hm3.lt⟩
          have hum : UM q q1 q2 mb base w 5 W H [] (.slice none 0 0) W3 := ⟨hui3, hm3, World.ownsRow_nil _ _ _ _, by omega⟩
          have HO := Lib.hid hord; have HUM0 := Lib.hid hum
          have hmq : q2 < mb := hord.c
          have m0 : W3.cell? ⟨mb, 0, none⟩ = some (.int .i64 (W)) := hm3.cell (i := 0) (by omega)
          have lm : LtW mb W3 := hm3.lt
          clear hmb hbase hord hum hm3 hui3 hsm hmu
          obtain ⟨LG, hLG⟩ : ∃ LG, (W + 7) / 8 = LG := ⟨_, rfl⟩
          have HLG := Lib.hid hLG
          have hLG8 : LG ≤ 8 := by omega
          clear hLG
          clear m0 lm
          go_loopw [7] (fun lv wr => ∃ (k : Nat), k ≤ LG ∧ lv = .int .i64 k ∧ UM q q1 q2 mb base w 5 W H [] (.slice none 0 0) wr) (fun lv _ => 10 - (intOf lv).toNat)
          case atStart => exact ⟨0, by omega, rfl, HUM0.out⟩
          case round =>
            obtain ⟨k, hkl, rfl, hum⟩ := hrel
            have m0 : wr.cell? ⟨mb, 0, none⟩ = some (.int .i64 (W)) := hum.row.cell (i := 0) (by omega)
            have lm : LtW mb wr := hum.row.lt
            have HUM := Lib.hid hum
            clear hum
            by_cases hkW : k * 8 < W
            · have hk2 : k + 1 ≤ LG := by have := HLG.out; omega
              have t1 : decide ((k : Int) * 8 < (W : Int)) = true := by simp; omega
              go_wp2
              go_roundw
              case rel => exact ⟨k + 1, hk2, by go_num, HUM.out⟩
              case measure => simp [intOf]; omega
            · as_aux_lemma =>
              have hkL : LG = k := by have := HLG.out; omega
              subst hkL
              have t1 : decide ((LG : Int) * 8 < (W : Int)) = false := by simp; omega
              obtain ⟨RES, hRES⟩ : ∃ RES, unF B W H (H + 1) 0 5 [] [] = RES := ⟨_, rfl⟩
              have HRES := Lib.hid hRES
              rw [hRES] at HUN
              clear hRES
              go_upto_region 15 with fail
              clear m0 lm t1 HUM0
              have HUMI := HUM
              clear HUM
              obtain ⟨wo, hwo⟩ : ∃ wo : World, wo = wr := ⟨_, rfl⟩
              subst hwo
              have hN5 : 5 ≤ N := by omega
              go_loopw [] (fun wr => ∃ (y p f : Nat) (v : Value) (last acc : List Bool), y ≤ H ∧ 5 ≤ p ∧ p ≤ N ∧ p ≤ 5 + 9 * y ∧ H < y + f ∧ Hid (unF B W H f y p last acc = RES) ∧ UM q q1 q2 mb base w (p : Int) W H acc v wr ∧ Hid (acc.length = y * W) ∧ Hid (0 < y → rowL acc W (y - 1) = last) ∧ Hid (W = 0 → p = 5 ∧ v = .slice none 0 0 ∧ y = 0)) (fun wr => N + 1 - (cellInt wr q2 0).toNat)
              case atStart => exact ⟨0, 5, H + 1, _, [], [], by omega, by omega, by omega, by omega, by omega, HRES, HUMI.out, Lib.hid (by simp), Lib.hid fun h => absurd h (by omega), Lib.hid fun _ => ⟨rfl, rfl, rfl⟩⟩
              case round =>
                obtain ⟨y, p, f, v, last, acc, hy, h5p, hpN, hp9, hf, hres, hum, HACC, HLAST, HW0⟩ := hrel
                obtain ⟨f, rfl⟩ : ∃ f', f = f' + 1 := ⟨f - 1, by omega⟩
                clear HUMI
                obtain ⟨A, cp, rfl⟩ := own_form hum.own
                have a0 : (wr).cell? ⟨q2, 0, none⟩ = some (.int .i64 ((p : Int))) := (hum).ui.at_.cell (i := 0) (by omega)
                have fa := (hum).ui.at_.frozen 0
                have la : LtW q2 wr := (hum).ui.at_.lt
                have m0 : (wr).cell? ⟨mb, 0, none⟩ = some (.int .i64 (W)) := (hum).row.cell (i := 0) (by omega)
                have m1 : (wr).cell? ⟨mb, 1, none⟩ = some (.int .i64 (H)) := (hum).row.cell (i := 1) (by omega)
                have m2 : (wr).cell? ⟨mb, 2, none⟩ = some ((.slice A acc.length cp)) := (hum).row.cell (i := 2) (by omega)
                have fm := (hum).row.frozen 2
                have lm : LtW mb wr := (hum).row.lt
                have HUM := Lib.hid hum
                clear hum
                obtain ⟨MW, hMW⟩ : ∃ MW, W * H = MW := ⟨_, rfl⟩
                have hMWi : (W : Int) * (H : Int) = (MW : Int) := by rw [← hMW]; push_cast; rfl
                have hMW4 : MW ≤ 4096 := by rw [← hMW]; exact Nat.le_trans (Nat.mul_le_mul (show W ≤ 64 by omega) (show H ≤ 64 by omega)) (by decide)
                have HMW := Lib.hid hMW
                clear hMW
                have HA0P := Lib.hid a0
                by_cases hyH : y < H
                · by_cases hW0 : W = 0
                  · obtain ⟨e5, ev, _⟩ := HW0.out hW0
                    injection ev with ev1 ev2 ev3
                    subst e5 ev1 ev3
                    subst hW0
                    have HFL := Lib.hid (fun w' => flat_any s H w' (by rw [hN]; exact hs) (by rw [hN]; exact hN5) (by omega) (by omega))
                    rw [HBE.out, HRES.out] at HFL
                    have hal : acc.length = 0 := by rw [HACC.out, Nat.mul_zero]
                    have hacc0 : acc = [] := List.length_eq_zero_iff.1 hal
                    subst hacc0
                    clear hal
                    have hMW0 : MW = 0 := by rw [← HMW.out, Nat.zero_mul]
                    subst hMW0
                    have tH : decide ((0 : Int) < (H : Int)) = true := by simp; omega
                    have tH' : decide (0 < H) = true := by simp; omega
                    clear hres hMWi HMW
                    go_wp2_with fail
                    refine (HFL.out wr).mono ?_
                    rintro r w9 hr9
                    unfold UnpPost at hr9
                    have HUNW := HUN
                    cases RES with
                    | bad p9 =>
                      obtain ⟨rfl, hb9⟩ := hr9
                      have hu8 := HUM.out.ui.grow hb9 HUM.out.ui.at_.lt hq1 hq2
                      have r0 : w9.cell? ⟨q, 0, none⟩ = some (.int .i64 (0)) := hu8.res.cell (i := 0) (by omega)
                      have r1 : w9.cell? ⟨q, 1, none⟩ = some (.int .i64 (0)) := hu8.res.cell (i := 1) (by omega)
                      have r2 : w9.cell? ⟨q, 2, none⟩ = some (.slice none 0 0) := hu8.res.cell (i := 2) (by omega)
                      have f0 := hu8.res.frozen 0; have f1 := hu8.res.frozen 1; have f2 := hu8.res.frozen 2
                      have s0 : w9.cell? ⟨q1, 0, none⟩ = some (.int .i64 (0)) := hu8.flt.cell (i := 0) (by omega)
                      have s1 : w9.cell? ⟨q1, 1, none⟩ = some (.int .i64 (0)) := hu8.flt.cell (i := 1) (by omega)
                      have g0 := hu8.flt.frozen 0; have g1 := hu8.flt.frozen 1
                      have lr : LtW q w9 := hu8.res.lt
                      have lf : LtW q1 w9 := hu8.flt.lt
                      have HBF := Lib.hid hu8.bel
                      clear hb9 hu8 HUM a0 fa la m0 m1 m2 fm lm
                      go_wp2
                      refine bodyPost_ret (v := .tuple #[.agg #[.int .i64 (0), .int .i64 (0), .slice none 0 0], .agg #[.int .i64 (2), .int .i64 ((p9 : Int))]]) (by simp [results, Try.results10, go_sem, r0, r1, r2, s0, s1]) rfl ?_
                      unfold UnpPost
                      rw [HUN.out]
                      refine ⟨rfl, ?_⟩
                      rw [HQE.out]
                      exact ((((HBF.out.setCell (by first | omega | (simp; done) | (simp; omega)) _).setCell (by first | omega | (simp; done) | (simp; omega)) _).setCell (by first | omega | (simp; done) | (simp; omega)) _).setCell (by first | omega | (simp; done) | (simp; omega)) _).setCell (by first | omega | (simp; done) | (simp; omega)) _
                    | ok bits =>
                      obtain ⟨⟨A9, C9, rfl, hT9⟩, hb9⟩ := hr9
                      have hbits : bits = [] := by
                        have h := HRES.out
                        rw [unF_flat (by omega) (by rw [HN.out]; exact hN5)] at h
                        split at h
                        · cases h
                        · split at h
                          · cases h
                          · split at h
                            · cases h
                            · split at h
                              · cases h
                              · injection h with h; exact h.symm
                      subst hbits
                      have hcap := hT9.cap; have hlim := hT9.lim
                      clear hT9
                      have hu8 := HUM.out.ui.grow hb9 HUM.out.ui.at_.lt hq1 hq2
                      have r0 : w9.cell? ⟨q, 0, none⟩ = some (.int .i64 (0)) := hu8.res.cell (i := 0) (by omega)
                      have r1 : w9.cell? ⟨q, 1, none⟩ = some (.int .i64 (0)) := hu8.res.cell (i := 1) (by omega)
                      have r2 : w9.cell? ⟨q, 2, none⟩ = some (.slice none 0 0) := hu8.res.cell (i := 2) (by omega)
                      have f0 := hu8.res.frozen 0; have f1 := hu8.res.frozen 1; have f2 := hu8.res.frozen 2
                      have s0 : w9.cell? ⟨q1, 0, none⟩ = some (.int .i64 (0)) := hu8.flt.cell (i := 0) (by omega)
                      have s1 : w9.cell? ⟨q1, 1, none⟩ = some (.int .i64 (0)) := hu8.flt.cell (i := 1) (by omega)
                      have g0 := hu8.flt.frozen 0; have g1 := hu8.flt.frozen 1
                      have lr : LtW q w9 := hu8.res.lt
                      have lf : LtW q1 w9 := hu8.flt.lt
                      have HBF := Lib.hid hu8.bel
                      clear hb9 hu8 HUM a0 fa la m0 m1 m2 fm lm
                      go_wp2
                      refine bodyPost_ret (v := .tuple #[.agg #[.int .i64 (0), .int .i64 (H), .slice A9 0 C9], .agg #[.int .i64 (0), .int .i64 (0)]]) (by simp [results, Try.results10, go_sem, r0, r1, r2, s0, s1]) rfl ?_
                      unfold UnpPost
                      rw [HUN.out]
                      refine ⟨⟨A9, C9, rfl, ⟨⟨rfl, fun h => absurd h (Nat.lt_irrefl 0)⟩, hcap, hlim⟩⟩, ?_⟩
                      rw [HQE.out]
                      exact ((((HBF.out.setCell (by first | omega | (simp; done) | (simp; omega)) _).setCell (by first | omega | (simp; done) | (simp; omega)) _).setCell (by first | omega | (simp; done) | (simp; omega)) _).setCell (by first | omega | (simp; done) | (simp; omega)) _).setCell (by first | omega | (simp; done) | (simp; omega)) _
                  · as_aux_lemma =>
                    have HALN : Hid (acc.length ≤ 4096) := Lib.hid (by rw [HACC.out]; exact Nat.le_trans (Nat.mul_le_mul hy (Nat.le_refl W)) (Nat.mul_le_mul (show H ≤ 64 by omega) (show W ≤ 64 by omega)))
                    have haln := HALN.out
                    have hlt : acc.length < MW := by
                      rw [HACC.out, ← HMW.out, Nat.mul_comm W H]
                      exact (Nat.mul_lt_mul_right (by omega)).2 hyH
                    have d1 : (acc.length : Int).tdiv (W : Int) = (y : Int) := by
                      rw [HACC.out, Int.tdiv_eq_ediv_of_nonneg (by omega), Int.natCast_mul, Int.mul_ediv_cancel _ (by omega)]
                    have d2 : (acc.length : Int) / (W : Int) = (y : Int) := by
                      rw [HACC.out, Int.natCast_mul, Int.mul_ediv_cancel _ (by omega)]
                    have d3 : IntKind.i64.wrap (y : Int) = (y : Int) := IntWalk.i64_in _ (by omega)
                    have e7 : ((W : Int) == 0) = false := by simp; omega
                    have e8 : (W : Int) ≠ 0 := by omega
                    have e9 : ¬ W = 0 := by omega
                    have tL : decide ((acc.length : Int) < (MW : Int)) = true := by simp; omega
                    have tL' : decide (acc.length < MW) = true := by simp; omega
                    by_cases hpe : p = N
                    · have t1 : decide ((N : Int) ≤ (p : Int)) = true := by simp; omega
                      have t2 : decide (N ≤ p) = true := by simp; omega
                      have HU : Hid (unp B = (.bad p, W, H)) := Lib.hid (by
                        rw [HUN.out, ← hres.out]
                        unfold unF
                        rw [if_pos hyH, if_pos (.inl (by rw [HN.out]; exact hpe))])
                      clear hpe hres
                      go_wp2_with fail
                      (refine wp_region_ext (by kernel_rfl) (by kernel_rfl) ?_; (repeat (first | ((with_reducible refine ext_step (fun K hK => ?_)); go_simp; first | (refine hK _ ?_; clear hK K) | (apply Exists.intro; refine ⟨fun _ _ => ?_, hK _ ?_⟩; fail; clear hK K)))); refine wpQuiet_nil ?_; intro E d)
                      have HUI := Lib.hid (HUM.out.ui.grow (bExtW (Below.refl _ _) (Nat.le_refl _) : Below wr.heap.size wr (extW wr E d)) HUM.out.ui.at_.lt hq1 hq2)
                      clear HUM a0 fa la m0 m1 m2 fm lm
                      generalize extW wr E d = wx at *
                      go_wp2_with fail
                      refine (rbad_any q2 (p : Int) _ (HUI.out.at_.cell (i := 0) (by omega)) HUI.out.at_.lt).mono ?_
                      rintro r w8 ⟨rfl, hb8⟩
                      have hu8 := HUI.out.grow hb8 HUI.out.at_.lt hq1 hq2
                      have r0 : w8.cell? ⟨q, 0, none⟩ = some (.int .i64 (0)) := hu8.res.cell (i := 0) (by omega)
                      have r1 : w8.cell? ⟨q, 1, none⟩ = some (.int .i64 (0)) := hu8.res.cell (i := 1) (by omega)
                      have r2 : w8.cell? ⟨q, 2, none⟩ = some (.slice none 0 0) := hu8.res.cell (i := 2) (by omega)
                      have f0 := hu8.res.frozen 0; have f1 := hu8.res.frozen 1; have f2 := hu8.res.frozen 2
                      have s0 : w8.cell? ⟨q1, 0, none⟩ = some (.int .i64 (0)) := hu8.flt.cell (i := 0) (by omega)
                      have s1 : w8.cell? ⟨q1, 1, none⟩ = some (.int .i64 (0)) := hu8.flt.cell (i := 1) (by omega)
                      have g0 := hu8.flt.frozen 0; have g1 := hu8.flt.frozen 1
                      have lr : LtW q w8 := hu8.res.lt
                      have lf : LtW q1 w8 := hu8.flt.lt
                      have HBF := Lib.hid hu8.bel
                      clear hb8 hu8 HUI
                      go_wp2
                      refine bodyPost_ret (v := .tuple #[.agg #[.int .i64 (0), .int .i64 (0), .slice none 0 0], .agg #[.int .i64 (2), .int .i64 ((p : Int))]]) (by simp [results, Try.results10, go_sem, r0, r1, r2, s0, s1]) rfl ?_
                      unfold UnpPost
                      rw [HU.out]
                      refine ⟨rfl, ?_⟩
                      rw [HQE.out]
                      exact ((((HBF.out.setCell (by first | omega | (simp; done) | (simp; omega)) _).setCell (by first | omega | (simp; done) | (simp; omega)) _).setCell (by first | omega | (simp; done) | (simp; omega)) _).setCell (by first | omega | (simp; done) | (simp; omega)) _).setCell (by first | omega | (simp; done) | (simp; omega)) _
                    · as_aux_lemma =>
                      have t1 : decide ((N : Int) ≤ (p : Int)) = false := by simp; omega
                      have t2 : decide (N ≤ p) = false := by simp; omega
                      have hix := HIX.out p (by omega)
                      obtain ⟨x, hx⟩ : ∃ x, B.getD p 0 = x := ⟨_, rfl⟩
                      have hx256 : x < 256 := by rw [← hx]; exact HLT.out _ (getD_memN (by rw [HN.out]; omega))
                      rw [hx] at hix
                      have HU0 : Hid (x = 0 ∨ H - y < x → RES = .bad p) := Lib.hid (by
                        intro h
                        rw [← hres.out]
                        unfold unF
                        rw [hx, if_pos hyH, if_pos (.inr h)])
                      have HU1 : Hid (¬ (x = 0 ∨ H - y < x) → RES = if N < p + 1 + LG then .bad N
                          else if punchL (readRow W fun j => B.getD (p + 1 + j) 0) ≠ (B.drop (p + 1)).take LG ∨ (0 < y ∧ readRow W (fun j => B.getD (p + 1 + j) 0) = last) then .bad p
                          else unF B W H f (y + x) (p + 1 + LG) (readRow W fun j => B.getD (p + 1 + j) 0) (acc ++ (List.replicate x (readRow W fun j => B.getD (p + 1 + j) 0)).flatten)) := Lib.hid (by
                        intro h
                        rw [← hres.out]
                        conv => lhs; unfold unF
                        rw [hx, HN.out, HLG.out, if_pos hyH, if_neg (by rintro (e | e); exact hpe e; exact h e)])
                      have x3 : IntKind.i64.wrap (x : Int) = (x : Int) := IntWalk.i64_in _ (by omega)
                      have x4 : IntKind.i64.wrap ((H : Int) - (y : Int)) = (H : Int) - (y : Int) := IntWalk.i64_in _ (by omega)
                      have HPE := Lib.hid hpe
                      clear hx hres hpe
                      by_cases hx0 : x = 0
                      · have t3 : decide ((x : Int) < 1) = true := by simp; omega
                        have t4 : decide (x < 1) = true := by simp; omega
                        have HU : Hid (unp B = (.bad p, W, H)) := Lib.hid (by rw [HUN.out, HU0.out (.inl hx0)])
                        clear hx0
                        go_wp2_with fail
                        (refine wp_region_ext (by kernel_rfl) (by kernel_rfl) ?_; (repeat (first | ((with_reducible refine ext_step (fun K hK => ?_)); go_simp; first | (refine hK _ ?_; clear hK K) | (apply Exists.intro; refine ⟨fun _ _ => ?_, hK _ ?_⟩; fail; clear hK K)))); refine wpQuiet_nil ?_; intro E d)
                        clear hix
                        have HUI := Lib.hid (HUM.out.ui.grow (bExtW (Below.refl _ _) (Nat.le_refl _) : Below wr.heap.size wr (extW wr E d)) HUM.out.ui.at_.lt hq1 hq2)
                        clear HUM a0 fa la m0 m1 m2 fm lm
                        generalize extW wr E d = wx at *
                        go_wp2_with fail
                        refine (rbad_any q2 (p : Int) _ (HUI.out.at_.cell (i := 0) (by omega)) HUI.out.at_.lt).mono ?_
                        rintro r w8 ⟨rfl, hb8⟩
                        have hu8 := HUI.out.grow hb8 HUI.out.at_.lt hq1 hq2
                        have r0 : w8.cell? ⟨q, 0, none⟩ = some (.int .i64 (0)) := hu8.res.cell (i := 0) (by omega)
                        have r1 : w8.cell? ⟨q, 1, none⟩ = some (.int .i64 (0)) := hu8.res.cell (i := 1) (by omega)
                        have r2 : w8.cell? ⟨q, 2, none⟩ = some (.slice none 0 0) := hu8.res.cell (i := 2) (by omega)
                        have f0 := hu8.res.frozen 0; have f1 := hu8.res.frozen 1; have f2 := hu8.res.frozen 2
                        have s0 : w8.cell? ⟨q1, 0, none⟩ = some (.int .i64 (0)) := hu8.flt.cell (i := 0) (by omega)
                        have s1 : w8.cell? ⟨q1, 1, none⟩ = some (.int .i64 (0)) := hu8.flt.cell (i := 1) (by omega)
                        have g0 := hu8.flt.frozen 0; have g1 := hu8.flt.frozen 1
                        have lr : LtW q w8 := hu8.res.lt
                        have lf : LtW q1 w8 := hu8.flt.lt
                        have HBF := Lib.hid hu8.bel
                        clear hb8 hu8 HUI
                        go_wp2
                        refine bodyPost_ret (v := .tuple #[.agg #[.int .i64 (0), .int .i64 (0), .slice none 0 0], .agg #[.int .i64 (2), .int .i64 ((p : Int))]]) (by simp [results, Try.results10, go_sem, r0, r1, r2, s0, s1]) rfl ?_
                        unfold UnpPost
                        rw [HU.out]
                        refine ⟨rfl, ?_⟩
                        rw [HQE.out]
                        exact ((((HBF.out.setCell (by first | omega | (simp; done) | (simp; omega)) _).setCell (by first | omega | (simp; done) | (simp; omega)) _).setCell (by first | omega | (simp; done) | (simp; omega)) _).setCell (by first | omega | (simp; done) | (simp; omega)) _).setCell (by first | omega | (simp; done) | (simp; omega)) _
                      · as_aux_lemma =>
                        have t3 : decide ((x : Int) < 1) = false := by simp; omega
                        have t4 : decide (x < 1) = false := by simp; omega
                        by_cases hxb : H - y < x
                        · have t5 : decide ((H : Int) - (y : Int) < (x : Int)) = true := by simp; omega
                          have HU : Hid (unp B = (.bad p, W, H)) := Lib.hid (by rw [HUN.out, HU0.out (.inr hxb)])
                          go_wp2_with fail
                          (refine wp_region_ext (by kernel_rfl) (by kernel_rfl) ?_; (repeat (first | ((with_reducible refine ext_step (fun K hK => ?_)); go_simp; first | (refine hK _ ?_; clear hK K) | (apply Exists.intro; refine ⟨fun _ _ => ?_, hK _ ?_⟩; fail; clear hK K)))); refine wpQuiet_nil ?_; intro E d)
                          clear hix
                          have HUI := Lib.hid (HUM.out.ui.grow (bExtW (Below.refl _ _) (Nat.le_refl _) : Below wr.heap.size wr (extW wr E d)) HUM.out.ui.at_.lt hq1 hq2)
                          clear HUM a0 fa la m0 m1 m2 fm lm
                          generalize extW wr E d = wx at *
                          go_wp2_with fail
                          refine (rbad_any q2 (p : Int) _ (HUI.out.at_.cell (i := 0) (by omega)) HUI.out.at_.lt).mono ?_
                          rintro r w8 ⟨rfl, hb8⟩
                          have hu8 := HUI.out.grow hb8 HUI.out.at_.lt hq1 hq2
                          have r0 : w8.cell? ⟨q, 0, none⟩ = some (.int .i64 (0)) := hu8.res.cell (i := 0) (by omega)
                          have r1 : w8.cell? ⟨q, 1, none⟩ = some (.int .i64 (0)) := hu8.res.cell (i := 1) (by omega)
                          have r2 : w8.cell? ⟨q, 2, none⟩ = some (.slice none 0 0) := hu8.res.cell (i := 2) (by omega)
                          have f0 := hu8.res.frozen 0; have f1 := hu8.res.frozen 1; have f2 := hu8.res.frozen 2
                          have s0 : w8.cell? ⟨q1, 0, none⟩ = some (.int .i64 (0)) := hu8.flt.cell (i := 0) (by omega)
                          have s1 : w8.cell? ⟨q1, 1, none⟩ = some (.int .i64 (0)) := hu8.flt.cell (i := 1) (by omega)
                          have g0 := hu8.flt.frozen 0; have g1 := hu8.flt.frozen 1
                          have lr : LtW q w8 := hu8.res.lt
                          have lf : LtW q1 w8 := hu8.flt.lt
                          have HBF := Lib.hid hu8.bel
                          clear hb8 hu8 HUI
                          go_wp2
                          refine bodyPost_ret (v := .tuple #[.agg #[.int .i64 (0), .int .i64 (0), .slice none 0 0], .agg #[.int .i64 (2), .int .i64 ((p : Int))]]) (by simp [results, Try.results10, go_sem, r0, r1, r2, s0, s1]) rfl ?_
                          unfold UnpPost
                          rw [HU.out]
                          refine ⟨rfl, ?_⟩
                          rw [HQE.out]
                          exact ((((HBF.out.setCell (by first | omega | (simp; done) | (simp; omega)) _).setCell (by first | omega | (simp; done) | (simp; omega)) _).setCell (by first | omega | (simp; done) | (simp; omega)) _).setCell (by first | omega | (simp; done) | (simp; omega)) _).setCell (by first | omega | (simp; done) | (simp; omega)) _
                        · as_aux_lemma =>
                          have t5 : decide ((H : Int) - (y : Int) < (x : Int)) = false := by simp; omega
                          have HU2 := Lib.hid (HU1.out (by omega))
                          clear HU0 HU1
                          go_wp2_with fail
                          (refine wp_region_ext (by kernel_rfl) (by kernel_rfl) ?_; (repeat (first | ((with_reducible refine ext_step (fun K hK => ?_)); go_simp; first | (refine hK _ ?_; clear hK K) | (apply Exists.intro; refine ⟨fun _ _ => ?_, hK _ ?_⟩; fail; clear hK K)))); refine wpQuiet_nil ?_; intro E d)
                          have hbz : Below wr.heap.size wr (extW wr E d) := bExtW (Below.refl _ _) (Nat.le_refl _)
                          have hum := HUM.out.grow HO.out hbz
                          clear HUM a0 fa la m0 m1 m2 fm lm hbz
                          generalize extW wr E d = wz at *
                          have a0 : (wz).cell? ⟨q2, 0, none⟩ = some (.int .i64 ((p : Int))) := (hum).ui.at_.cell (i := 0) (by omega)
                          have fa := (hum).ui.at_.frozen 0
                          have la : LtW q2 wz := (hum).ui.at_.lt
                          have m0 : (wz).cell? ⟨mb, 0, none⟩ = some (.int .i64 (W)) := (hum).row.cell (i := 0) (by omega)
                          have m1 : (wz).cell? ⟨mb, 1, none⟩ = some (.int .i64 (H)) := (hum).row.cell (i := 1) (by omega)
                          have m2 : (wz).cell? ⟨mb, 2, none⟩ = some ((.slice A acc.length cp)) := (hum).row.cell (i := 2) (by omega)
                          have fm := (hum).row.frozen 2
                          have lm : LtW mb wz := (hum).row.lt
                          have HUM := Lib.hid hum
                          clear hum
                          by_cases hNL : N ≤ p + LG
                          · have t6 : decide ((N : Int) ≤ (p : Int) + (LG : Int)) = true := by simp; omega
                            have HU : Hid (unp B = (.bad N, W, H)) := Lib.hid (by rw [HUN.out, HU2.out, if_pos (by omega)])
                            go_upto_region 23 with fail
                            have HUI := Lib.hid (HUM.out.ui.setAt hq1 hq2 (N : Int))
                            clear HUM a0 fa la m0 m1 m2 fm lm hix
                            generalize wz.setCell ⟨q2, 0, none⟩ (.int .i64 (N : Int)) = wx at *
                            go_wp2_with fail
                            refine (rbad_any q2 (N : Int) _ (HUI.out.at_.cell (i := 0) (by omega)) HUI.out.at_.lt).mono ?_
                            rintro r w8 ⟨rfl, hb8⟩
                            have hu8 := HUI.out.grow hb8 HUI.out.at_.lt hq1 hq2
                            have r0 : w8.cell? ⟨q, 0, none⟩ = some (.int .i64 (0)) := hu8.res.cell (i := 0) (by omega)
                            have r1 : w8.cell? ⟨q, 1, none⟩ = some (.int .i64 (0)) := hu8.res.cell (i := 1) (by omega)
                            have r2 : w8.cell? ⟨q, 2, none⟩ = some (.slice none 0 0) := hu8.res.cell (i := 2) (by omega)
                            have f0 := hu8.res.frozen 0; have f1 := hu8.res.frozen 1; have f2 := hu8.res.frozen 2
                            have s0 : w8.cell? ⟨q1, 0, none⟩ = some (.int .i64 (0)) := hu8.flt.cell (i := 0) (by omega)
                            have s1 : w8.cell? ⟨q1, 1, none⟩ = some (.int .i64 (0)) := hu8.flt.cell (i := 1) (by omega)
                            have g0 := hu8.flt.frozen 0; have g1 := hu8.flt.frozen 1
                            have lr : LtW q w8 := hu8.res.lt
                            have lf : LtW q1 w8 := hu8.flt.lt
                            have HBF := Lib.hid hu8.bel
                            clear hb8 hu8 HUI
                            go_wp2
                            refine bodyPost_ret (v := .tuple #[.agg #[.int .i64 (0), .int .i64 (0), .slice none 0 0], .agg #[.int .i64 (2), .int .i64 ((N : Int))]]) (by simp [results, Try.results10, go_sem, r0, r1, r2, s0, s1]) rfl ?_
                            unfold UnpPost
                            rw [HU.out]
                            refine ⟨rfl, ?_⟩
                            rw [HQE.out]
                            exact ((((HBF.out.setCell (by first | omega | (simp; done) | (simp; omega)) _).setCell (by first | omega | (simp; done) | (simp; omega)) _).setCell (by first | omega | (simp; done) | (simp; omega)) _).setCell (by first | omega | (simp; done) | (simp; omega)) _).setCell (by first | omega | (simp; done) | (simp; omega)) _
                          · as_aux_lemma =>
                            have t6 : decide ((N : Int) ≤ (p : Int) + (LG : Int)) = false := by simp; omega
                            have HU3 := Lib.hid (HU2.out.trans (if_neg (by omega)))
                            clear HU2
                            go_upto_region 25 with fail
                            clear t1 t2 t3 t4 t5 t6 tL tL' d1 d2 d3 a0 fa la m0 m1 m2 fm lm
                            obtain ⟨row, hrow⟩ : ∃ row, readRow W (fun j => B.getD (p + 1 + j) 0) = row := ⟨_, rfl⟩
                            have HRW : Hid (∀ j, j < W → row.getD j false = bitAt (B.getD (p + 1 + j / 8) 0) (j % 8)) := Lib.hid fun j hj => by rw [← hrow]; exact readRow_get hj
                            rw [hrow] at HU3
                            have HRL : Hid (row.length = W) := Lib.hid (by rw [← hrow, readRow_len])
                            clear hrow
                            go_loopw [9] (fun iv wr => ∃ (i : Nat) (v : Value), i ≤ x ∧ iv = .int .i64 i ∧ UM q q1 q2 mb base w (p : Int) W H (acc ++ (List.replicate i row).flatten) v wr) (fun iv _ => x - (intOf iv).toNat)
                            case atStart => exact ⟨0, _, by omega, rfl, by simpa using HUM.out⟩
                            case round =>
                              obtain ⟨i, v, hi, rfl, hum⟩ := hrel
                              clear HUM
                              obtain ⟨A5, cp5, rfl⟩ := own_form hum.own
                              have a0 : (wr).cell? ⟨q2, 0, none⟩ = some (.int .i64 ((p : Int))) := (hum).ui.at_.cell (i := 0) (by omega)
                              have fa := (hum).ui.at_.frozen 0
                              have la : LtW q2 wr := (hum).ui.at_.lt
                              have m0 : (wr).cell? ⟨mb, 0, none⟩ = some (.int .i64 (W)) := (hum).row.cell (i := 0) (by omega)
                              have m1 : (wr).cell? ⟨mb, 1, none⟩ = some (.int .i64 (H)) := (hum).row.cell (i := 1) (by omega)
                              have m2 : (wr).cell? ⟨mb, 2, none⟩ = some ((.slice A5 (acc ++ (List.replicate i row).flatten).length cp5)) := (hum).row.cell (i := 2) (by omega)
                              have fm := (hum).row.frozen 2
                              have lm : LtW mb wr := (hum).row.lt
                              have HUM := Lib.hid hum
                              clear hum
                              have HLI : Hid ((acc ++ (List.replicate i row).flatten).length = (y + i) * W) := Lib.hid (by rw [List.length_append, HACC.out, rep_len HRL.out, Nat.add_mul])
                              by_cases hixx : i < x
                              · have t1 : decide ((i : Int) < (x : Int)) = true := by simp; omega
                                go_upto_region 28 with fail
                                obtain ⟨wo, hwo⟩ : ∃ wo : World, wo = wr := ⟨_, rfl⟩
                                subst hwo
                                have HREP := Lib.hid (rep_succ acc row i)
                                clear a0 fa la m0 m1 m2 fm lm t1
                                obtain ⟨accI, hai⟩ : ∃ accI, acc ++ (List.replicate i row).flatten = accI := ⟨_, rfl⟩
                                rw [hai] at HLI HREP
                                have HAI := Lib.hid hai
                                have HUMO : Hid (UM q q1 q2 mb base w (p : Int) W H accI (.slice A5 accI.length cp5) wo) := by rw [← hai]; exact HUM
                                clear HUM hai
                                have hacl : accI.length ≤ 4096 := by
                                  rw [HLI.out]
                                  exact Nat.mul_le_mul (show y + i ≤ 64 by omega) (show W ≤ 64 by omega)
                                have HACL := Lib.hid hacl
                                clear hacl
                                go_loopw [10] (fun jv wr => ∃ (j : Nat) (v : Value), j ≤ W ∧ jv = .int .i64 j ∧ UM q q1 q2 mb base w (p : Int) W H (accI ++ row.take j) v wr) (fun jv _ => W - (intOf jv).toNat)
                                case atStart => exact ⟨0, _, by omega, rfl, by simpa using HUMO.out⟩
                                case round =>
                                  obtain ⟨j, v, hj, rfl, hum⟩ := hrel
                                  clear HUMO
                                  obtain ⟨A6, cp6, rfl⟩ := own_form hum.own
                                  have HLJ : Hid ((accI ++ row.take j).length = accI.length + j) := Lib.hid (by rw [List.length_append, List.length_take, HRL.out, Nat.min_eq_left hj])
                                  rw [HLJ.out] at hum
                                  have a0 : (wr).cell? ⟨q2, 0, none⟩ = some (.int .i64 ((p : Int))) := (hum).ui.at_.cell (i := 0) (by omega)
                                  have fa := (hum).ui.at_.frozen 0
                                  have la : LtW q2 wr := (hum).ui.at_.lt
                                  have m0 : (wr).cell? ⟨mb, 0, none⟩ = some (.int .i64 (W)) := (hum).row.cell (i := 0) (by omega)
                                  have m1 : (wr).cell? ⟨mb, 1, none⟩ = some (.int .i64 (H)) := (hum).row.cell (i := 1) (by omega)
                                  have m2 : (wr).cell? ⟨mb, 2, none⟩ = some ((.slice A6 (accI.length + j) cp6)) := (hum).row.cell (i := 2) (by omega)
                                  have fm := (hum).row.frozen 2
                                  have lm : LtW mb wr := (hum).row.lt
                                  have HUM := Lib.hid hum
                                  clear hum
                                  by_cases hjW : j < W
                                  · obtain ⟨qj, hqj⟩ : ∃ qj, j / 8 = qj := ⟨_, rfl⟩
                                    obtain ⟨rj, hrj⟩ : ∃ rj, j % 8 = rj := ⟨_, rfl⟩
                                    have hrj8 : rj < 8 := by rw [← hrj]; exact Nat.mod_lt _ (by omega)
                                    have hqL : qj < LG := by have := HLG.out; omega
                                    obtain ⟨tt, htt⟩ : ∃ tt, 7 - rj = tt := ⟨_, rfl⟩
                                    have b1 : (j : Int).tdiv 8 = (qj : Int) := by rw [Int.tdiv_eq_ediv_of_nonneg (by omega)]; omega
                                    have b2 : (j : Int) / 8 = (qj : Int) := by omega
                                    have b3 : (j : Int).tmod 8 = (rj : Int) := by rw [Int.tmod_eq_emod_of_nonneg (by omega)]; omega
                                    have b4 : (j : Int) % 8 = (rj : Int) := by omega
                                    have b5 : (7 : Int) - (rj : Int) = (tt : Int) := by omega
                                    have b6 : IntKind.i64.wrap (qj : Int) = (qj : Int) := IntWalk.i64_in _ (by omega)
                                    have b7 : IntKind.i64.wrap (rj : Int) = (rj : Int) := IntWalk.i64_in _ (by omega)
                                    have b8 : IntKind.i64.wrap ((p : Int) + 1 + (qj : Int)) = (p : Int) + 1 + (qj : Int) := IntWalk.i64_in _ (by omega)
                                    have b9 : IntKind.i64.wrap ((p : Int) + 1) = (p : Int) + 1 := IntWalk.i64_in _ (by omega)
                                    obtain ⟨z, hz⟩ : ∃ z, B.getD (p + 1 + qj) 0 = z := ⟨_, rfl⟩
                                    have hz256 : z < 256 := by rw [← hz]; exact HLT.out _ (getD_memN (by rw [HN.out]; omega))
                                    have hixz0 := HIX.out (p + 1 + qj) (by omega)
                                    rw [hz] at hixz0
                                    have hixz : ∀ w, (Instr.index 9 (.string s) (.int .i64 ((p : Int) + 1 + (qj : Int)))).run Try.prog w = .ok (.int .u8 (z : Nat)) w := hixz0
                                    have z1 : IntKind.i64.wrap (z : Int) = (z : Int) := IntWalk.i64_in _ (by omega)
                                    have HBIT : Hid (row.getD j false = decide ((z / 2 ^ tt) % 2 = 1)) := Lib.hid (by rw [HRW.out j hjW, hqj, hrj, hz]; unfold bitAt; rw [htt])
                                    have HSN := Lib.hid (row_snoc (row := row) (j := j) (by rw [HRL.out]; exact hjW))
                                    have htt7 : tt ≤ 7 := by omega
                                    have t1 : decide ((j : Int) < (W : Int)) = true := by simp; omega
                                    clear hqj hrj htt hz hixz0
                                    go_upto_region 32 with fail
                                    obtain ⟨wo2, hwo2⟩ : ∃ wo2 : World, wo2 = wr := ⟨_, rfl⟩
                                    subst hwo2
                                    have HUM2 := HUM
                                    clear HUM a0 fa la m0 m1 m2 fm lm t1 b1 b2 b3 b4 b5 b6 b7 b8 b9 hixz
                                    go_loopw [11, 13] (fun bv kv wr => ∃ (k : Nat), k ≤ tt ∧ bv = .int .i64 ((z / 2 ^ k : Nat)) ∧ kv = .int .i64 k ∧ UM q q1 q2 mb base w (p : Int) W H (accI ++ row.take j) (.slice A6 (accI.length + j) cp6) wr) (fun _ kv _ => 8 - (intOf kv).toNat)
                                    case atStart => exact ⟨0, by omega, by simp, rfl, HUM2.out⟩
                                    case round =>
                                      obtain ⟨k, hk, rfl, rfl, hum⟩ := hrel
                                      clear HUM2
                                      have a0 : (wr).cell? ⟨q2, 0, none⟩ = some (.int .i64 ((p : Int))) := (hum).ui.at_.cell (i := 0) (by omega)
                                      have fa := (hum).ui.at_.frozen 0
                                      have la : LtW q2 wr := (hum).ui.at_.lt
                                      have m0 : (wr).cell? ⟨mb, 0, none⟩ = some (.int .i64 (W)) := (hum).row.cell (i := 0) (by omega)
                                      have m1 : (wr).cell? ⟨mb, 1, none⟩ = some (.int .i64 (H)) := (hum).row.cell (i := 1) (by omega)
                                      have m2 : (wr).cell? ⟨mb, 2, none⟩ = some ((.slice A6 (accI.length + j) cp6)) := (hum).row.cell (i := 2) (by omega)
                                      have fm := (hum).row.frozen 2
                                      have lm : LtW mb wr := (hum).row.lt
                                      have HUM := Lib.hid hum
                                      clear hum
                                      have hzk : z / 2 ^ k < 256 := Nat.lt_of_le_of_lt (Nat.div_le_self _ _) hz256
                                      have HZS : Hid (z / 2 ^ (k + 1) = z / 2 ^ k / 2) := Lib.hid (by rw [Nat.pow_succ, Nat.div_div_eq_div_mul])
                                      have HZ2 : Hid (k = tt → row.getD j false = decide ((z / 2 ^ k) % 2 = 1)) := Lib.hid fun e => by rw [e]; exact HBIT.out
                                      obtain ⟨zk, hzke⟩ : ∃ zk, z / 2 ^ k = zk := ⟨_, rfl⟩
                                      rw [hzke] at hzk HZS HZ2 ⊢
                                      clear hzke
                                      by_cases hkt : k < tt
                                      · obtain ⟨zh, hzh⟩ : ∃ zh, zk / 2 = zh := ⟨_, rfl⟩
                                        have c1 : (zk : Int).tdiv 2 = (zh : Int) := by rw [Int.tdiv_eq_ediv_of_nonneg (by omega)]; omega
                                        have c2 : (zk : Int) / 2 = (zh : Int) := by omega
                                        have c3 : IntKind.i64.wrap (zh : Int) = (zh : Int) := IntWalk.i64_in _ (by omega)
                                        have t1 : decide ((k : Int) < (tt : Int)) = true := by simp; omega
                                        rw [hzh] at HZS
                                        clear hzh
                                        go_wp2
                                        go_roundw
                                        case rel => exact ⟨k + 1, by omega, by rw [HZS.out], by go_num, HUM.out⟩
                                        case measure => simp [intOf]; omega
                                      · have hke : k = tt := by omega
                                        have t1 : decide ((k : Int) < (tt : Int)) = false := by simp; omega
                                        have HB2 := Lib.hid (HZ2.out hke)
                                        obtain ⟨mm, hmm⟩ : ∃ mm, zk % 2 = mm := ⟨_, rfl⟩
                                        have c1 : (zk : Int).tmod 2 = (mm : Int) := by rw [Int.tmod_eq_emod_of_nonneg (by omega)]; omega
                                        have c2 : (zk : Int) % 2 = (mm : Int) := by omega
                                        have c3 : IntKind.i64.wrap (mm : Int) = (mm : Int) := IntWalk.i64_in _ (by omega)
                                        rw [hmm] at HB2
                                        have hmm2 : mm < 2 := by rw [← hmm]; exact Nat.mod_lt _ (by omega)
                                        obtain ⟨bt, hbt⟩ : ∃ bt, row.getD j false = bt := ⟨_, rfl⟩
                                        rw [hbt] at HB2 HSN
                                        have c4 : ((mm : Int) == 1) = bt := by
                                          rw [HB2.out]
                                          by_cases e : mm = 1
                                          · subst e; rfl
                                          · have e0 : mm = 0 := by omega
                                            subst e0; rfl
                                        have c5 : (mm == 1) = bt := by
                                          rw [HB2.out]
                                          by_cases e : mm = 1
                                          · subst e; rfl
                                          · have e0 : mm = 0 := by omega
                                            subst e0; rfl
                                        clear hmm hbt hke
                                        have haL := HACL.out
                                        have hsw := HUM.out.siz
                                        have HOA := Lib.hid (ownBelow HUM.out.own (Below.alloc (Below.refl _ _) (Nat.le_refl _) (.cells #[.bool bt] 4)))
                                        rw [HLJ.out] at HOA
                                        go_wp2_with (at_builtin; go_loud (refine wpAppV okBools rfl (.tmp 173) (.tmp 177) rfl base _ (accI.length + j) ((accI ++ row.take j).map Value.bool) (some ⟨wr.heap.size, 0, none⟩) 1 1 [.bool bt] rfl HOA.out rfl (fun e => by cases e) rfl (fun _ => ⟨wr.heap.size, 0, rfl, fun j2 u hju => ?_⟩) (fun u hu => by simp at hu; subst hu; rfl) (by omega) (by omega) (by have := World.size_alloc wr (.cells #[.bool bt] 4); omega) ?_))
                                        · have hj0 : j2 = 0 := by
                                            have := (List.getElem?_eq_some_iff.1 hju).1
                                            simpa using this
                                          subst hj0
                                          simp at hju
                                          subst hju
                                          simp
                                        intro v' w2 hown2 hg2 hat2
                                        have hba : Below base wr (wr.alloc (.cells #[.bool bt] 4)) := (Below.refl _ _).alloc hsw _
                                        have hb2 : Below base wr w2 := hba.trans (belowGrown hg2 (Nat.le_trans hsw hba.size) (fun k hk => (HOA.out.lt k hk).1))
                                        have c6 : w2.cell? ⟨mb, 2, none⟩ = some (.slice A6 (accI.length + j) cp6) := (hb2.cell (p := ⟨mb, 2, none⟩) HO.out.d).trans m2
                                        have f6 : w2.frozen? ⟨mb, 2, none⟩ = false := (hb2.frozen (p := ⟨mb, 2, none⟩) HO.out.d).trans fm
                                        have l6 : LtW mb w2 := Nat.lt_of_lt_of_le lm hb2.size
                                        obtain ⟨A7, cp7, rfl⟩ := own_form hown2
                                        have HNB := Lib.hid (HUM.out.app (x := bt) HO.out (by rw [HLJ.out]; simpa using hown2) hb2)
                                        clear hown2 hg2 hat2 hb2 hba HOA a0 fa la m0 m1 m2 fm lm
                                        go_wp2
                                        go_roundw
                                        case rel => exact ⟨j + 1, _, by omega, by go_num, by rw [HSN.out, ← List.append_assoc]; exact HNB.out⟩
                                        case measure => simp [intOf]; omega
                                  · obtain rfl : W = j := by omega
                                    have HTW : Hid (accI ++ row.take W = accI ++ row) := Lib.hid (by rw [List.take_of_length_le (by rw [HRL.out]; exact Nat.le_refl _)])
                                    have t1 : decide ((W : Int) < (W : Int)) = false := by simp
                                    go_wp2
                                    go_roundw
                                    case rel => exact ⟨i + 1, _, by omega, by go_num, by rw [HREP.out, ← HTW.out]; exact HUM.out⟩
                                    case measure => simp [intOf]; omega
                              · obtain rfl : x = i := by omega
                                go_upto_region 36 with fail
                                obtain ⟨acc2, ha2⟩ : ∃ acc2, acc ++ (List.replicate x row).flatten = acc2 := ⟨_, rfl⟩
                                have HR0 : Hid (rowL acc2 W y = row) := Lib.hid (by
                                  have := rowL_rep (y := y) (x := x) (i := 0) HACC.out HRL.out (by omega)
                                  rwa [ha2, Nat.add_zero] at this)
                                have HRX : Hid (rowL acc2 W (y + x - 1) = row) := Lib.hid (by
                                  have := rowL_rep (y := y) (x := x) (i := x - 1) HACC.out HRL.out (by omega)
                                  rwa [ha2, show y + (x - 1) = y + x - 1 by omega] at this)
                                have HRP : Hid (0 < y → rowL acc2 W (y - 1) = last) := Lib.hid fun h => by
                                  rw [← ha2, rowL_app (by rw [HACC.out, show y - 1 + 1 = y by omega]; exact Nat.le_refl _)]
                                  exact HLAST.out h
                                rw [ha2] at HLI HU3
                                have HUM2 : Hid (UM q q1 q2 mb base w (p : Int) W H acc2 (.slice A5 acc2.length cp5) wr) := by rw [← ha2]; exact HUM
                                rw [ha2] at m2
                                clear HUM ha2
                                have HUM := HUM2
                                clear HUM2
                                have hn4 : acc2.length ≤ 4096 := by
                                  rw [HLI.out]
                                  exact Nat.mul_le_mul (show y + x ≤ 64 by omega) (show W ≤ 64 by omega)
                                have HN4 := Lib.hid hn4
                                have HRB : Hid (∀ k, k + 1 ≤ y + x → (k + 1) * W ≤ acc2.length) := Lib.hid fun k hk => by
                                  rw [HLI.out]; exact Nat.mul_le_mul_right W hk
                                obtain ⟨a9, c9, e9, hT9, hg9⟩ := OkT.of_owns HUM.out.own
                                injection e9 with e91 _ e92
                                subst e91 e92
                                have HT9 := Lib.hid hT9
                                have hpl := punchL_len row
                                rw [HRL.out, HLG.out] at hpl
                                have HHO : Hid (∀ w', OkT w' A5 acc2.length cp5 acc2 → Calls Try.prog 26 #[.agg #[.int .i64 (W), .int .i64 ((y : Int) + 1), .slice A5 acc2.length cp5], .int .i64 (y)] w' (B8Post (punchL row) w')) := Lib.hid fun w' h => by
                                  have := rHoles_any W (y + 1) acc2.length y A5 cp5 acc2 w' h.bits (by omega) (by omega) (HRB.out y (by omega)) hn4
                                  rw [HR0.out] at this
                                  exact this
                                obtain ⟨PL, hPL⟩ : ∃ PL, punchL row = PL := ⟨_, rfl⟩
                                have HPL := Lib.hid hPL
                                have HPLT : Hid (∀ x ∈ PL, x < 256) := Lib.hid (by rw [← hPL]; exact punchL_lt row)
                                rw [hPL] at HHO hpl
                                have HPLL := Lib.hid hpl
                                clear hPL hT9 hg9 hpl hn4
                                go_wp2_with fail
                                refine (HHO.out wr HT9.out).mono ?_
                                rintro r w8 ⟨A8, C8, rfl, hI8, hz8, hb8, hg8⟩
                                have hLG1 : 1 ≤ LG := by have := HLG.out; omega
                                obtain ⟨b8, o8, e8, _, hc8⟩ := hI8.2 (by rw [HPLL.out]; exact hLG1)
                                subst e8
                                obtain ⟨S1, hS1⟩ : ∃ S1, strOf PL = S1 := ⟨_, rfl⟩
                                have HS1 : Hid (bytesOf S1 = PL) := Lib.hid (by rw [← hS1, bytesOf_str HPLT.out])
                                have hcv : ∀ E d, (convert 46 9 (.slice (some ⟨b8, o8, none⟩) PL.length C8)).run Try.prog (extW w8 E d) = .ok (.string S1) (extW w8 E d) := fun E d => by
                                  rw [← hS1]
                                  have hI := hI8.below (bExtW (Below.refl _ _) (Nat.le_refl _) : Below _ w8 (extW w8 E d))
                                  refine conv_str HPLT.out fun j hj => ?_
                                  obtain ⟨b, o, e, _, hc⟩ := hI.2 (by omega)
                                  cases e
                                  exact hc j hj
                                have hum := HUM.out.grow HO.out hb8
                                have HT8 := Lib.hid (HT9.out.below hb8)
                                clear HUM a0 fa la m0 m1 m2 fm lm HT9 hI8 hz8 hb8 hg8 hc8 hS1
                                have a0 : (w8).cell? ⟨q2, 0, none⟩ = some (.int .i64 ((p : Int))) := (hum).ui.at_.cell (i := 0) (by omega)
                                have fa := (hum).ui.at_.frozen 0
                                have la : LtW q2 w8 := (hum).ui.at_.lt
                                have m0 : (w8).cell? ⟨mb, 0, none⟩ = some (.int .i64 (W)) := (hum).row.cell (i := 0) (by omega)
                                have m1 : (w8).cell? ⟨mb, 1, none⟩ = some (.int .i64 (H)) := (hum).row.cell (i := 1) (by omega)
                                have m2 : (w8).cell? ⟨mb, 2, none⟩ = some ((.slice A5 acc2.length cp5)) := (hum).row.cell (i := 2) (by omega)
                                have fm := (hum).row.frozen 2
                                have lm : LtW mb w8 := (hum).row.lt
                                have HUM := Lib.hid hum
                                clear hum
                                obtain ⟨S2, hS2⟩ : ∃ S2, s.extract (p + 1) (p + 1 + LG) = S2 := ⟨_, rfl⟩
                                have hsl : ∀ w, (Instr.slice 9 (.string s) (some (.int .i64 ((p : Int) + 1))) (some (.int .i64 ((p : Int) + 1 + (LG : Int)))) none).run Try.prog w = .ok (.string S2) w := fun w => by
                                  rw [← hS2]; exact slice_str s (p + 1) (p + 1 + LG) (by omega) (by rw [hN]; omega) w
                                have HS2 : Hid (bytesOf S2 = (B.drop (p + 1)).take LG) := Lib.hid (by rw [← hS2, ← HBE.out]; exact bytesOf_extract s (p + 1) LG (by rw [hN]; omega))
                                clear hS2
                                have y1 : IntKind.i64.wrap ((p : Int) + 1) = (p : Int) + 1 := IntWalk.i64_in _ (by omega)
                                have y2 : IntKind.i64.wrap ((p : Int) + 1 + (LG : Int)) = (p : Int) + 1 + (LG : Int) := IntWalk.i64_in _ (by omega)
                                by_cases hSS : S1 = S2
                                · subst hSS
                                  have HEQP : Hid (punchL row = (B.drop (p + 1)).take LG) := Lib.hid (by rw [HPL.out, ← HS1.out, HS2.out])
                                  by_cases hy0 : 0 < y
                                  · have b3 : decide ((0 : Int) < (y : Int)) = true := by simp; omega
                                    have b4 : decide (0 < y) = true := by simp; omega
                                    obtain ⟨yz, hyz⟩ : ∃ yz, y - 1 = yz := ⟨_, rfl⟩
                                    have b5 : (y : Int) - 1 = (yz : Int) := by omega
                                    have b6 : IntKind.i64.wrap (yz : Int) = (yz : Int) := IntWalk.i64_in _ (by omega)
                                    have HRS : Hid (∀ w', IsBools w' A5 acc2.length acc2 → Calls Try.prog 25 #[.agg #[.int .i64 (W), .int .i64 (H), .slice A5 acc2.length cp5], .int .i64 (y), .int .i64 (yz)] w' fun e w'' => e = .returned (.bool (decide (row = last))) ∧ Below w'.heap.size w' w'') := Lib.hid fun w' h => by
                                      have := rRows_gen W H acc2.length HN4.out A5 cp5 acc2 y yz w' h (by omega) (HRB.out y (by omega)) (HRB.out yz (by omega)) (by omega) (by omega)
                                      rw [HR0.out, ← hyz, HRP.out hy0, hyz] at this
                                      exact this
                                    clear hyz
                                    by_cases hrl : row = last
                                    · rw [decide_eq_true hrl] at HRS
                                      have HU : Hid (unp B = (.bad p, W, H)) := Lib.hid (by rw [HUN.out, HU3.out, if_pos (.inr ⟨hy0, hrl⟩)])
                                      clear hrl
                                      go_wp2_with fail
                                      refine wp_region_E (by kernel_rfl) ?_
                                      (refine wpE_take (i := 0) rfl (by kernel_rfl) (fun _ _ _ _ h => h) (fun K hK => ?_); go_simp; first | (refine hK _ ?_; clear hK K) | (apply Exists.intro; refine ⟨fun _ _ => ?_, hK _ ?_⟩; fail; clear hK K)); (refine wpE_take (i := 1) rfl (by kernel_rfl) (fun _ _ _ _ h => h) (fun K hK => ?_); go_simp; first | (refine hK _ ?_; clear hK K) | (apply Exists.intro; refine ⟨fun _ _ => ?_, hK _ ?_⟩; fail; clear hK K)); (refine wpE_take (i := 2) rfl (by kernel_rfl) (fun _ _ _ _ h => h) (fun K hK => ?_); go_simp; first | (refine hK _ ?_; clear hK K) | (apply Exists.intro; refine ⟨fun _ _ => ?_, hK _ ?_⟩; fail; clear hK K)); (refine wpE_take (i := 3) rfl (by kernel_rfl) (fun _ _ _ _ h => h) (fun K hK => ?_); go_simp; first | (refine hK _ ?_; clear hK K) | (apply Exists.intro; refine ⟨fun _ _ => ?_, hK _ ?_⟩; fail; clear hK K)); (refine wpE_take (i := 4) rfl (by kernel_rfl) (fun _ _ _ _ h => h) (fun K hK => ?_); go_simp; first | (refine hK _ ?_; clear hK K) | (apply Exists.intro; refine ⟨fun _ _ => ?_, hK _ ?_⟩; fail; clear hK K)); (refine wpE_take (i := 5) rfl (by kernel_rfl) (fun _ _ _ _ h => h) (fun K hK => ?_); go_simp; first | (refine hK _ ?_; clear hK K) | (apply Exists.intro; refine ⟨fun _ _ => ?_, hK _ ?_⟩; fail; clear hK K)); (refine wpE_take (i := 6) rfl (by kernel_rfl) (fun _ _ _ _ h => h) (fun K hK => ?_); go_simp; first | (refine hK _ ?_; clear hK K) | (apply Exists.intro; refine ⟨fun _ _ => ?_, hK _ ?_⟩; fail; clear hK K)); (refine wpE_take (i := 7) rfl (by kernel_rfl) (fun _ _ _ _ h => h) (fun K hK => ?_); go_simp; first | (refine hK _ ?_; clear hK K) | (apply Exists.intro; refine ⟨fun _ _ => ?_, hK _ ?_⟩; fail; clear hK K)); (refine wpE_take (i := 8) rfl (by kernel_rfl) (fun _ _ _ _ h => h) (fun K hK => ?_); go_simp; first | (refine hK _ ?_; clear hK K) | (apply Exists.intro; refine ⟨fun _ _ => ?_, hK _ ?_⟩; fail; clear hK K)); (refine wpE_take (i := 9) rfl (by kernel_rfl) (fun _ _ _ _ h => h) (fun K hK => ?_); go_simp; first | (refine hK _ ?_; clear hK K) | (apply Exists.intro; refine ⟨fun _ _ => ?_, hK _ ?_⟩; fail; clear hK K)); (refine wpE_take (i := 10) rfl (by kernel_rfl) (fun _ _ _ _ h => h) (fun K hK => ?_); go_simp; first | (refine hK _ ?_; clear hK K) | (apply Exists.intro; refine ⟨fun _ _ => ?_, hK _ ?_⟩; fail; clear hK K)); (refine wpE_take (i := 11) rfl (by kernel_rfl) (fun _ _ _ _ h => h) (fun K hK => ?_); go_simp; first | (refine hK _ ?_; clear hK K) | (apply Exists.intro; refine ⟨fun _ _ => ?_, hK _ ?_⟩; fail; clear hK K)); (refine wpE_take (i := 12) rfl (by kernel_rfl) (fun _ _ _ _ h => h) (fun K hK => ?_); go_simp; first | (refine hK _ ?_; clear hK K) | (apply Exists.intro; refine ⟨fun _ _ => ?_, hK _ ?_⟩; fail; clear hK K)); (refine wpE_take (i := 13) rfl (by kernel_rfl) (fun _ _ _ _ h => h) (fun K hK => ?_); go_simp; first | (refine hK _ ?_; clear hK K) | (apply Exists.intro; refine ⟨fun _ _ => ?_, hK _ ?_⟩; fail; clear hK K)); (refine wpE_take (i := 14) rfl (by kernel_rfl) (fun _ _ _ _ h => h) (fun K hK => ?_); go_simp; first | (refine hK _ ?_; clear hK K) | (apply Exists.intro; refine ⟨fun _ _ => ?_, hK _ ?_⟩; fail; clear hK K)); (refine wpE_take (i := 15) rfl (by kernel_rfl) (fun _ _ _ _ h => h) (fun K hK => ?_); go_simp; first | (refine hK _ ?_; clear hK K) | (apply Exists.intro; refine ⟨fun _ _ => ?_, hK _ ?_⟩; fail; clear hK K)); (refine wpE_take (i := 16) rfl (by kernel_rfl) (fun _ _ _ _ h => h) (fun K hK => ?_); go_simp; first | (refine hK _ ?_; clear hK K) | (apply Exists.intro; refine ⟨fun _ _ => ?_, hK _ ?_⟩; fail; clear hK K)); (refine wpE_take (i := 17) rfl (by kernel_rfl) (fun _ _ _ _ h => h) (fun K hK => ?_); go_simp; first | (refine hK _ ?_; clear hK K) | (apply Exists.intro; refine ⟨fun _ _ => ?_, hK _ ?_⟩; fail; clear hK K)); (refine wpE_take (i := 18) rfl (by kernel_rfl) (fun _ _ _ _ h => h) (fun K hK => ?_); go_simp; first | (refine hK _ ?_; clear hK K) | (apply Exists.intro; refine ⟨fun _ _ => ?_, hK _ ?_⟩; fail; clear hK K))
                                      (refine wpE_take (i := 19) rfl (by kernel_rfl) (fun _ _ _ _ h => h) (fun K hK => ?_); go_simp; first | (refine hK _ ?_; clear hK K) | (apply Exists.intro; refine ⟨fun _ _ => ?_, hK _ ?_⟩; (go_at_call 25; exact vOf (HRS.out _ (HT8.out.bits.below (bExtW (Below.refl _ _) (Nat.le_refl _))))); clear hK K))
                                      (refine wpE_take (i := 20) rfl (by kernel_rfl) (fun _ _ _ _ h => h) (fun K hK => ?_); go_simp; first | (refine hK _ ?_; clear hK K) | (apply Exists.intro; refine ⟨fun _ _ => ?_, hK _ ?_⟩; fail; clear hK K)); (refine wpE_take (i := 21) rfl (by kernel_rfl) (fun _ _ _ _ h => h) (fun K hK => ?_); go_simp; first | (refine hK _ ?_; clear hK K) | (apply Exists.intro; refine ⟨fun _ _ => ?_, hK _ ?_⟩; fail; clear hK K))
                                      refine wpE_done (by kernel_rfl) (fun E d => ?_)
                                      clear hcv hsl
                                      have HUI := Lib.hid (HUM.out.ui.grow ((bExtW (Below.refl _ _) (Nat.le_refl _) : Below w8.heap.size w8 (extW w8 E d))) HUM.out.ui.at_.lt hq1 hq2)
                                      clear HUM a0 fa la m0 m1 m2 fm lm
                                      generalize extW w8 E d = wx at *
                                      go_wp2_with fail
                                      refine (rbad_any q2 (p : Int) _ (HUI.out.at_.cell (i := 0) (by omega)) HUI.out.at_.lt).mono ?_
                                      rintro r w8 ⟨rfl, hb8⟩
                                      have hu8 := HUI.out.grow hb8 HUI.out.at_.lt hq1 hq2
                                      have r0 : w8.cell? ⟨q, 0, none⟩ = some (.int .i64 (0)) := hu8.res.cell (i := 0) (by omega)
                                      have r1 : w8.cell? ⟨q, 1, none⟩ = some (.int .i64 (0)) := hu8.res.cell (i := 1) (by omega)
                                      have r2 : w8.cell? ⟨q, 2, none⟩ = some (.slice none 0 0) := hu8.res.cell (i := 2) (by omega)
                                      have f0 := hu8.res.frozen 0; have f1 := hu8.res.frozen 1; have f2 := hu8.res.frozen 2
                                      have s0 : w8.cell? ⟨q1, 0, none⟩ = some (.int .i64 (0)) := hu8.flt.cell (i := 0) (by omega)
                                      have s1 : w8.cell? ⟨q1, 1, none⟩ = some (.int .i64 (0)) := hu8.flt.cell (i := 1) (by omega)
                                      have g0 := hu8.flt.frozen 0; have g1 := hu8.flt.frozen 1
                                      have lr : LtW q w8 := hu8.res.lt
                                      have lf : LtW q1 w8 := hu8.flt.lt
                                      have HBF := Lib.hid hu8.bel
                                      clear hb8 hu8 HUI
                                      go_wp2
                                      refine bodyPost_ret (v := .tuple #[.agg #[.int .i64 (0), .int .i64 (0), .slice none 0 0], .agg #[.int .i64 (2), .int .i64 ((p : Int))]]) (by simp [results, Try.results10, go_sem, r0, r1, r2, s0, s1]) rfl ?_
                                      unfold UnpPost
                                      rw [HU.out]
                                      refine ⟨rfl, ?_⟩
                                      rw [HQE.out]
                                      exact ((((HBF.out.setCell (by first | omega | (simp; done) | (simp; omega)) _).setCell (by first | omega | (simp; done) | (simp; omega)) _).setCell (by first | omega | (simp; done) | (simp; omega)) _).setCell (by first | omega | (simp; done) | (simp; omega)) _).setCell (by first | omega | (simp; done) | (simp; omega)) _
                                    · rw [decide_eq_false hrl] at HRS
                                      have HNX : Hid (unF B W H f (y + x) (p + 1 + LG) row acc2 = RES) := Lib.hid (HU3.out.trans (if_neg (by rintro (e | e); exact e HEQP.out; exact hrl e.2))).symm
                                      clear hrl
                                      go_wp2_with fail
                                      refine wp_region_E (by kernel_rfl) ?_
                                      (refine wpE_take (i := 0) rfl (by kernel_rfl) (fun _ _ _ _ h => h) (fun K hK => ?_); go_simp; first | (refine hK _ ?_; clear hK K) | (apply Exists.intro; refine ⟨fun _ _ => ?_, hK _ ?_⟩; fail; clear hK K)); (refine wpE_take (i := 1) rfl (by kernel_rfl) (fun _ _ _ _ h => h) (fun K hK => ?_); go_simp; first | (refine hK _ ?_; clear hK K) | (apply Exists.intro; refine ⟨fun _ _ => ?_, hK _ ?_⟩; fail; clear hK K)); (refine wpE_take (i := 2) rfl (by kernel_rfl) (fun _ _ _ _ h => h) (fun K hK => ?_); go_simp; first | (refine hK _ ?_; clear hK K) | (apply Exists.intro; refine ⟨fun _ _ => ?_, hK _ ?_⟩; fail; clear hK K)); (refine wpE_take (i := 3) rfl (by kernel_rfl) (fun _ _ _ _ h => h) (fun K hK => ?_); go_simp; first | (refine hK _ ?_; clear hK K) | (apply Exists.intro; refine ⟨fun _ _ => ?_, hK _ ?_⟩; fail; clear hK K)); (refine wpE_take (i := 4) rfl (by kernel_rfl) (fun _ _ _ _ h => h) (fun K hK => ?_); go_simp; first | (refine hK _ ?_; clear hK K) | (apply Exists.intro; refine ⟨fun _ _ => ?_, hK _ ?_⟩; fail; clear hK K)); (refine wpE_take (i := 5) rfl (by kernel_rfl) (fun _ _ _ _ h => h) (fun K hK => ?_); go_simp; first | (refine hK _ ?_; clear hK K) | (apply Exists.intro; refine ⟨fun _ _ => ?_, hK _ ?_⟩; fail; clear hK K)); (refine wpE_take (i := 6) rfl (by kernel_rfl) (fun _ _ _ _ h => h) (fun K hK => ?_); go_simp; first | (refine hK _ ?_; clear hK K) | (apply Exists.intro; refine ⟨fun _ _ => ?_, hK _ ?_⟩; fail; clear hK K)); (refine wpE_take (i := 7) rfl (by kernel_rfl) (fun _ _ _ _ h => h) (fun K hK => ?_); go_simp; first | (refine hK _ ?_; clear hK K) | (apply Exists.intro; refine ⟨fun _ _ => ?_, hK _ ?_⟩; fail; clear hK K)); (refine wpE_take (i := 8) rfl (by kernel_rfl) (fun _ _ _ _ h => h) (fun K hK => ?_); go_simp; first | (refine hK _ ?_; clear hK K) | (apply Exists.intro; refine ⟨fun _ _ => ?_, hK _ ?_⟩; fail; clear hK K)); (refine wpE_take (i := 9) rfl (by kernel_rfl) (fun _ _ _ _ h => h) (fun K hK => ?_); go_simp; first | (refine hK _ ?_; clear hK K) | (apply Exists.intro; refine ⟨fun _ _ => ?_, hK _ ?_⟩; fail; clear hK K)); (refine wpE_take (i := 10) rfl (by kernel_rfl) (fun _ _ _ _ h => h) (fun K hK => ?_); go_simp; first | (refine hK _ ?_; clear hK K) | (apply Exists.intro; refine ⟨fun _ _ => ?_, hK _ ?_⟩; fail; clear hK K)); (refine wpE_take (i := 11) rfl (by kernel_rfl) (fun _ _ _ _ h => h) (fun K hK => ?_); go_simp; first | (refine hK _ ?_; clear hK K) | (apply Exists.intro; refine ⟨fun _ _ => ?_, hK _ ?_⟩; fail; clear hK K)); (refine wpE_take (i := 12) rfl (by kernel_rfl) (fun _ _ _ _ h => h) (fun K hK => ?_); go_simp; first | (refine hK _ ?_; clear hK K) | (apply Exists.intro; refine ⟨fun _ _ => ?_, hK _ ?_⟩; fail; clear hK K)); (refine wpE_take (i := 13) rfl (by kernel_rfl) (fun _ _ _ _ h => h) (fun K hK => ?_); go_simp; first | (refine hK _ ?_; clear hK K) | (apply Exists.intro; refine ⟨fun _ _ => ?_, hK _ ?_⟩; fail; clear hK K)); (refine wpE_take (i := 14) rfl (by kernel_rfl) (fun _ _ _ _ h => h) (fun K hK => ?_); go_simp; first | (refine hK _ ?_; clear hK K) | (apply Exists.intro; refine ⟨fun _ _ => ?_, hK _ ?_⟩; fail; clear hK K)); (refine wpE_take (i := 15) rfl (by kernel_rfl) (fun _ _ _ _ h => h) (fun K hK => ?_); go_simp; first | (refine hK _ ?_; clear hK K) | (apply Exists.intro; refine ⟨fun _ _ => ?_, hK _ ?_⟩; fail; clear hK K)); (refine wpE_take (i := 16) rfl (by kernel_rfl) (fun _ _ _ _ h => h) (fun K hK => ?_); go_simp; first | (refine hK _ ?_; clear hK K) | (apply Exists.intro; refine ⟨fun _ _ => ?_, hK _ ?_⟩; fail; clear hK K)); (refine wpE_take (i := 17) rfl (by kernel_rfl) (fun _ _ _ _ h => h) (fun K hK => ?_); go_simp; first | (refine hK _ ?_; clear hK K) | (apply Exists.intro; refine ⟨fun _ _ => ?_, hK _ ?_⟩; fail; clear hK K)); (refine wpE_take (i := 18) rfl (by kernel_rfl) (fun _ _ _ _ h => h) (fun K hK => ?_); go_simp; first | (refine hK _ ?_; clear hK K) | (apply Exists.intro; refine ⟨fun _ _ => ?_, hK _ ?_⟩; fail; clear hK K))
                                      (refine wpE_take (i := 19) rfl (by kernel_rfl) (fun _ _ _ _ h => h) (fun K hK => ?_); go_simp; first | (refine hK _ ?_; clear hK K) | (apply Exists.intro; refine ⟨fun _ _ => ?_, hK _ ?_⟩; (go_at_call 25; exact vOf (HRS.out _ (HT8.out.bits.below (bExtW (Below.refl _ _) (Nat.le_refl _))))); clear hK K))
                                      (refine wpE_take (i := 20) rfl (by kernel_rfl) (fun _ _ _ _ h => h) (fun K hK => ?_); go_simp; first | (refine hK _ ?_; clear hK K) | (apply Exists.intro; refine ⟨fun _ _ => ?_, hK _ ?_⟩; fail; clear hK K)); (refine wpE_take (i := 21) rfl (by kernel_rfl) (fun _ _ _ _ h => h) (fun K hK => ?_); go_simp; first | (refine hK _ ?_; clear hK K) | (apply Exists.intro; refine ⟨fun _ _ => ?_, hK _ ?_⟩; fail; clear hK K))
                                      refine wpE_done (by kernel_rfl) (fun E d => ?_)
                                      clear hcv hsl
                                      have HUMS := Lib.hid ((HUM.out.setAt HO.out (((p + 1 + LG : Nat)) : Int)).grow HO.out (bExtW (Below.refl _ _) (Nat.le_refl _) : Below _ _ (extW (w8.setCell ⟨q2, 0, none⟩ (.int .i64 (((p + 1 + LG : Nat)) : Int))) E d)))
                                      go_wp2
                                      go_roundw
                                      case rel => exact ⟨y + x, p + 1 + LG, f, _, row, acc2, by omega, by omega, by omega, by omega, by omega, HNX, HUMS.out, HLI, Lib.hid fun _ => HRX.out, Lib.hid fun e => absurd e (by omega)⟩
                                      case measure =>
                                        have h9 := cellInt_of (HUMS.out.ui.at_.cell (i := 0) (by omega))
                                        have h8 := cellInt_of HA0P.out
                                        have h7 : (((p + 1 + LG : Nat)) : Int).toNat = p + 1 + LG := by omega
                                        have h6 : ((p : Int)).toNat = p := by omega
                                        rw [h8]
                                        refine Nat.lt_of_le_of_lt (Nat.le_of_eq (congrArg (fun x => N + 1 - Int.toNat x) h9)) ?_
                                        show N + 1 - (((p + 1 + LG : Nat)) : Int).toNat < N + 1 - ((p : Int)).toNat
                                        rw [h7, h6]; omega
                                  · have b3 : decide ((0 : Int) < (y : Int)) = false := by simp; omega
                                    have b4 : decide (0 < y) = false := by simp; omega
                                    have HNX : Hid (unF B W H f (y + x) (p + 1 + LG) row acc2 = RES) := Lib.hid (HU3.out.trans (if_neg (by rintro (e | e); exact e HEQP.out; exact hy0 e.1))).symm
                                    go_wp2_with fail
                                    (refine wp_region_ext (by kernel_rfl) (by kernel_rfl) ?_; (repeat (first | ((with_reducible refine ext_step (fun K hK => ?_)); go_simp; first | (refine hK _ ?_; clear hK K) | (apply Exists.intro; refine ⟨fun _ _ => ?_, hK _ ?_⟩; fail; clear hK K)))); refine wpQuiet_nil ?_; intro E d)
                                    clear hcv hsl
                                    have HUMS := Lib.hid ((HUM.out.setAt HO.out (((p + 1 + LG : Nat)) : Int)).grow HO.out (bExtW (Below.refl _ _) (Nat.le_refl _) : Below _ _ (extW (w8.setCell ⟨q2, 0, none⟩ (.int .i64 (((p + 1 + LG : Nat)) : Int))) E d)))
                                    go_wp2
                                    go_roundw
                                    case rel => exact ⟨y + x, p + 1 + LG, f, _, row, acc2, by omega, by omega, by omega, by omega, by omega, HNX, HUMS.out, HLI, Lib.hid fun _ => HRX.out, Lib.hid fun e => absurd e (by omega)⟩
                                    case measure =>
                                      have h9 := cellInt_of (HUMS.out.ui.at_.cell (i := 0) (by omega))
                                      have h8 := cellInt_of HA0P.out
                                      have h7 : (((p + 1 + LG : Nat)) : Int).toNat = p + 1 + LG := by omega
                                      have h6 : ((p : Int)).toNat = p := by omega
                                      rw [h8]
                                      refine Nat.lt_of_le_of_lt (Nat.le_of_eq (congrArg (fun x => N + 1 - Int.toNat x) h9)) ?_
                                      show N + 1 - (((p + 1 + LG : Nat)) : Int).toNat < N + 1 - ((p : Int)).toNat
                                      rw [h7, h6]; omega
                                · have b1 : (S1.toList == S2.toList) = false := str_ne hSS
                                  have HU : Hid (unp B = (.bad p, W, H)) := Lib.hid (by
                                    rw [HUN.out, HU3.out, if_pos (.inl fun e => hSS (by
                                      apply bytesOf_inj; rw [HS1.out, HS2.out, ← HPL.out]; exact e))])
                                  go_wp2_with fail
                                  (refine wp_region_ext (by kernel_rfl) (by kernel_rfl) ?_; (repeat (first | ((with_reducible refine ext_step (fun K hK => ?_)); go_simp; first | (refine hK _ ?_; clear hK K) | (apply Exists.intro; refine ⟨fun _ _ => ?_, hK _ ?_⟩; fail; clear hK K)))); refine wpQuiet_nil ?_; intro E d)
                                  clear hcv hsl
                                  have HUI := Lib.hid (HUM.out.ui.grow ((bExtW (Below.refl _ _) (Nat.le_refl _) : Below w8.heap.size w8 (extW w8 E d))) HUM.out.ui.at_.lt hq1 hq2)
                                  clear HUM a0 fa la m0 m1 m2 fm lm
                                  generalize extW w8 E d = wx at *
                                  go_wp2_with fail
                                  refine (rbad_any q2 (p : Int) _ (HUI.out.at_.cell (i := 0) (by omega)) HUI.out.at_.lt).mono ?_
                                  rintro r w8 ⟨rfl, hb8⟩
                                  have hu8 := HUI.out.grow hb8 HUI.out.at_.lt hq1 hq2
                                  have r0 : w8.cell? ⟨q, 0, none⟩ = some (.int .i64 (0)) := hu8.res.cell (i := 0) (by omega)
                                  have r1 : w8.cell? ⟨q, 1, none⟩ = some (.int .i64 (0)) := hu8.res.cell (i := 1) (by omega)
                                  have r2 : w8.cell? ⟨q, 2, none⟩ = some (.slice none 0 0) := hu8.res.cell (i := 2) (by omega)
                                  have f0 := hu8.res.frozen 0; have f1 := hu8.res.frozen 1; have f2 := hu8.res.frozen 2
                                  have s0 : w8.cell? ⟨q1, 0, none⟩ = some (.int .i64 (0)) := hu8.flt.cell (i := 0) (by omega)
                                  have s1 : w8.cell? ⟨q1, 1, none⟩ = some (.int .i64 (0)) := hu8.flt.cell (i := 1) (by omega)
                                  have g0 := hu8.flt.frozen 0; have g1 := hu8.flt.frozen 1
                                  have lr : LtW q w8 := hu8.res.lt
                                  have lf : LtW q1 w8 := hu8.flt.lt
                                  have HBF := Lib.hid hu8.bel
                                  clear hb8 hu8 HUI
                                  go_wp2
                                  refine bodyPost_ret (v := .tuple #[.agg #[.int .i64 (0), .int .i64 (0), .slice none 0 0], .agg #[.int .i64 (2), .int .i64 ((p : Int))]]) (by simp [results, Try.results10, go_sem, r0, r1, r2, s0, s1]) rfl ?_
                                  unfold UnpPost
                                  rw [HU.out]
                                  refine ⟨rfl, ?_⟩
                                  rw [HQE.out]
                                  exact ((((HBF.out.setCell (by first | omega | (simp; done) | (simp; omega)) _).setCell (by first | omega | (simp; done) | (simp; omega)) _).setCell (by first | omega | (simp; done) | (simp; omega)) _).setCell (by first | omega | (simp; done) | (simp; omega)) _).setCell (by first | omega | (simp; done) | (simp; omega)) _
                · obtain rfl : H = y := by omega
                  have hRES : RES = if p = N ∨ B.getD p 0 ≠ chk (B.take p) then .bad p else if p + 1 < N then .bad (p + 1) else .ok acc := by
                    rw [← hres.out]
                    unfold unF
                    rw [if_neg hyH, HN.out]
                  have HRS := Lib.hid hRES
                  have halM : acc.length = MW := by rw [HACC.out, ← HMW.out, Nat.mul_comm]
                  have haln : acc.length ≤ 4096 := by omega
                  have tL : decide ((acc.length : Int) < (MW : Int)) = false := by simp; omega
                  have tL' : decide (acc.length < MW) = false := by simp; omega
                  have HALM := Lib.hid halM
                  clear hRES hres halM
                  by_cases hW0 : W = 0
                  · have hH0 := (HW0.out hW0).2.2
                    have e7 : ((W : Int) == 0) = true := by simp; omega
                    have e7' : (W == 0) = true := by simp; omega
                    have e8 : decide ((0 : Int) < (H : Int)) = false := by simp; omega
                    have e8' : decide (0 < H) = false := by simp; omega
                    clear hW0 hH0
                    by_cases he : p = N
                    · have t1 : decide ((N : Int) ≤ (p : Int)) = true := by simp; omega
                      have t2 : decide (N ≤ p) = true := by simp; omega
                      have HU : Hid (unp B = (.bad p, W, H)) := Lib.hid (by rw [HUN.out, HRS.out, if_pos (.inl he)])
                      clear he
                      go_wp2_with fail
                      (refine wp_region_ext (by kernel_rfl) (by kernel_rfl) ?_; (repeat (first | ((with_reducible refine ext_step (fun K hK => ?_)); go_simp; first | (refine hK _ ?_; clear hK K) | (apply Exists.intro; refine ⟨fun _ _ => ?_, hK _ ?_⟩; fail; clear hK K)))); refine wpQuiet_nil ?_; intro E d)
                      have HUI := Lib.hid (HUM.out.ui.grow (bExtW (Below.refl _ _) (Nat.le_refl _) : Below wr.heap.size wr (extW wr E d)) HUM.out.ui.at_.lt hq1 hq2)
                      clear HUM a0 fa la m0 m1 m2 fm lm
                      generalize extW wr E d = wx at *
                      go_wp2_with fail
                      refine (rbad_any q2 (p : Int) _ (HUI.out.at_.cell (i := 0) (by omega)) HUI.out.at_.lt).mono ?_
                      rintro r w8 ⟨rfl, hb8⟩
                      have hu8 := HUI.out.grow hb8 HUI.out.at_.lt hq1 hq2
                      have r0 : w8.cell? ⟨q, 0, none⟩ = some (.int .i64 (0)) := hu8.res.cell (i := 0) (by omega)
                      have r1 : w8.cell? ⟨q, 1, none⟩ = some (.int .i64 (0)) := hu8.res.cell (i := 1) (by omega)
                      have r2 : w8.cell? ⟨q, 2, none⟩ = some (.slice none 0 0) := hu8.res.cell (i := 2) (by omega)
                      have f0 := hu8.res.frozen 0; have f1 := hu8.res.frozen 1; have f2 := hu8.res.frozen 2
                      have s0 : w8.cell? ⟨q1, 0, none⟩ = some (.int .i64 (0)) := hu8.flt.cell (i := 0) (by omega)
                      have s1 : w8.cell? ⟨q1, 1, none⟩ = some (.int .i64 (0)) := hu8.flt.cell (i := 1) (by omega)
                      have g0 := hu8.flt.frozen 0; have g1 := hu8.flt.frozen 1
                      have lr : LtW q w8 := hu8.res.lt
                      have lf : LtW q1 w8 := hu8.flt.lt
                      have HBF := Lib.hid hu8.bel
                      clear hb8 hu8 HUI
                      go_wp2
                      refine bodyPost_ret (v := .tuple #[.agg #[.int .i64 (0), .int .i64 (0), .slice none 0 0], .agg #[.int .i64 (2), .int .i64 ((p : Int))]]) (by simp [results, Try.results10, go_sem, r0, r1, r2, s0, s1]) rfl ?_
                      unfold UnpPost
                      rw [HU.out]
                      refine ⟨rfl, ?_⟩
                      rw [HQE.out]
                      exact ((((HBF.out.setCell (by first | omega | (simp; done) | (simp; omega)) _).setCell (by first | omega | (simp; done) | (simp; omega)) _).setCell (by first | omega | (simp; done) | (simp; omega)) _).setCell (by first | omega | (simp; done) | (simp; omega)) _).setCell (by first | omega | (simp; done) | (simp; omega)) _
                    · as_aux_lemma =>
                      have t1 : decide ((N : Int) ≤ (p : Int)) = false := by simp; omega
                      have t2 : decide (N ≤ p) = false := by simp; omega
                      have hix := HIX.out p (by omega)
                      obtain ⟨x, hx⟩ : ∃ x, B.getD p 0 = x := ⟨_, rfl⟩
                      have hx256 : x < 256 := by rw [← hx]; exact HLT.out _ (getD_memN (by rw [HN.out]; omega))
                      rw [hx] at hix HRS
                      obtain ⟨S2, hS2⟩ : ∃ S2, s.extract 0 p = S2 := ⟨_, rfl⟩
                      have hsl : ∀ w, (Instr.slice 9 (.string s) none (some (.int .i64 (p : Int))) none).run Try.prog w = .ok (.string S2) w := fun w => by
                        rw [← hS2]; exact slice_to s p (by rw [hN]; omega) w
                      have HS2 : Hid (bytesOf S2 = B.take p) := Lib.hid (by
                        have h1 := bytesOf_extract s 0 p (by rw [hN]; omega)
                        rw [Nat.zero_add, List.drop_zero, HBE.out] at h1
                        rw [← hS2, h1])
                      have hSz : S2.size = p := by
                        have h1 := congrArg List.length HS2.out
                        rw [bytesOf_len, List.length_take, HN.out] at h1
                        omega
                      have HLTP : Hid (∀ x ∈ B.take p, x < 256) := Lib.hid fun x hx => HLT.out x (List.mem_of_mem_take hx)
                      obtain ⟨capF, bwF, hcb, hcp⟩ := strBytes S2
                      rw [HS2.out, hSz] at hcp
                      rw [hSz] at hcb
                      have HCB := Lib.hid hcp
                      obtain ⟨ck, hck⟩ : ∃ ck, chk (B.take p) = ck := ⟨_, rfl⟩
                      have hcl : ck < 256 := by rw [← hck]; exact chk_lt _
                      have HCK := Lib.hid hck
                      rw [hck] at HRS
                      have HNE := Lib.hid he
                      clear hS2 hSz hcp hck hx he
                      go_wp2_with fail
                      refine wp_region_E (by kernel_rfl) ?_
                      (refine wpE_take (i := 0) rfl (by kernel_rfl) (fun _ _ _ _ h => h) (fun K hK => ?_); go_simp; first | (refine hK _ ?_; clear hK K) | (apply Exists.intro; refine ⟨fun _ _ => ?_, hK _ ?_⟩; fail; clear hK K)); (refine wpE_take (i := 1) rfl (by kernel_rfl) (fun _ _ _ _ h => h) (fun K hK => ?_); go_simp; first | (refine hK _ ?_; clear hK K) | (apply Exists.intro; refine ⟨fun _ _ => ?_, hK _ ?_⟩; fail; clear hK K)); (refine wpE_take (i := 2) rfl (by kernel_rfl) (fun _ _ _ _ h => h) (fun K hK => ?_); go_simp; first | (refine hK _ ?_; clear hK K) | (apply Exists.intro; refine ⟨fun _ _ => ?_, hK _ ?_⟩; fail; clear hK K)); (refine wpE_take (i := 3) rfl (by kernel_rfl) (fun _ _ _ _ h => h) (fun K hK => ?_); go_simp; first | (refine hK _ ?_; clear hK K) | (apply Exists.intro; refine ⟨fun _ _ => ?_, hK _ ?_⟩; fail; clear hK K)); (refine wpE_take (i := 4) rfl (by kernel_rfl) (fun _ _ _ _ h => h) (fun K hK => ?_); go_simp; first | (refine hK _ ?_; clear hK K) | (apply Exists.intro; refine ⟨fun _ _ => ?_, hK _ ?_⟩; fail; clear hK K)); (refine wpE_take (i := 5) rfl (by kernel_rfl) (fun _ _ _ _ h => h) (fun K hK => ?_); go_simp; first | (refine hK _ ?_; clear hK K) | (apply Exists.intro; refine ⟨fun _ _ => ?_, hK _ ?_⟩; fail; clear hK K)); (refine wpE_take (i := 6) rfl (by kernel_rfl) (fun _ _ _ _ h => h) (fun K hK => ?_); go_simp; first | (refine hK _ ?_; clear hK K) | (apply Exists.intro; refine ⟨fun _ _ => ?_, hK _ ?_⟩; fail; clear hK K)); (refine wpE_take (i := 7) rfl (by kernel_rfl) (fun _ _ _ _ h => h) (fun K hK => ?_); go_simp; first | (refine hK _ ?_; clear hK K) | (apply Exists.intro; refine ⟨fun _ _ => ?_, hK _ ?_⟩; fail; clear hK K)); (refine wpE_take (i := 8) rfl (by kernel_rfl) (fun _ _ _ _ h => h) (fun K hK => ?_); go_simp; first | (refine hK _ ?_; clear hK K) | (apply Exists.intro; refine ⟨fun _ _ => ?_, hK _ ?_⟩; fail; clear hK K)); (refine wpE_take (i := 9) rfl (by kernel_rfl) (fun _ _ _ _ h => h) (fun K hK => ?_); go_simp; first | (refine hK _ ?_; clear hK K) | (apply Exists.intro; refine ⟨fun _ _ => ?_, hK _ ?_⟩; fail; clear hK K)); (refine wpE_take (i := 10) rfl (by kernel_rfl) (fun _ _ _ _ h => h) (fun K hK => ?_); go_simp; first | (refine hK _ ?_; clear hK K) | (apply Exists.intro; refine ⟨fun _ _ => ?_, hK _ ?_⟩; fail; clear hK K))
                      (refine wpE_step (i := 11) rfl (by kernel_rfl) (fun E d K hK => ?_)); go_simp
                      refine hK _ _ (bExt (HCB.out _).1) ?_
                      clear hK K
                      obtain ⟨hbz, hIz⟩ := HCB.out (extW wr E d)
                      have hbz2 : Below wr.heap.size wr (bwF (extW wr E d)) := Below.trans (bExtW (Below.refl _ _) (Nat.le_refl _)) (hbz.mono (by simp))
                      generalize capF (extW wr E d) = cz at *
                      generalize bwF (extW wr E d) = wz at *
                      rw [show (extW wr E d).heap.size = wr.heap.size + E.size by simp] at hIz hbz
                      generalize wr.heap.size + E.size = gz at *
                      (refine wpE_take (i := 12) rfl (by kernel_rfl) (fun _ _ _ _ h => h) (fun K hK => ?_); go_simp; first | (refine hK _ ?_; clear hK K) | (apply Exists.intro; refine ⟨fun _ _ => ?_, hK _ ?_⟩; (go_at_call 27; exact vOf (rCheck_any _ _ _ _ _ (hIz.below (bExtW (Below.refl _ _) (Nat.le_refl _))) (by omega) HLTP.out)); clear hK K))
                      rw [HCK.out]
                      by_cases hxc : x = ck
                      · have t3 : ((x : Int) != (ck : Int)) = false := by simp; omega
                        have t4 : (x != ck) = false := by simp; omega
                        have HRS2 : Hid (RES = if p + 1 < N then .bad (p + 1) else .ok acc) := Lib.hid (by rw [HRS.out, if_neg (by rintro (e | e); exact HNE.out e; exact e hxc)])
                        clear hxc HRS
                        (refine wpE_take (i := 13) rfl (by kernel_rfl) (fun _ _ _ _ h => h) (fun K hK => ?_); go_simp; first | (refine hK _ ?_; clear hK K) | (apply Exists.intro; refine ⟨fun _ _ => ?_, hK _ ?_⟩; fail; clear hK K)); (refine wpE_take (i := 14) rfl (by kernel_rfl) (fun _ _ _ _ h => h) (fun K hK => ?_); go_simp; first | (refine hK _ ?_; clear hK K) | (apply Exists.intro; refine ⟨fun _ _ => ?_, hK _ ?_⟩; fail; clear hK K))
                        refine wpE_done (by kernel_rfl) (fun E d => ?_)
                        have hb9 : Below wr.heap.size wr (extW wz E d) := bExtW hbz2 hbz2.size
                        have hum := HUM.out.grow HO.out hb9
                        clear hcb HCB hsl hix hbz hIz hbz2 HUM a0 fa la m0 m1 m2 fm lm hb9
                        generalize extW wz E d = wy at *
                        have a0 : (wy).cell? ⟨q2, 0, none⟩ = some (.int .i64 ((p : Int))) := (hum).ui.at_.cell (i := 0) (by omega)
                        have fa := (hum).ui.at_.frozen 0
                        have la : LtW q2 wy := (hum).ui.at_.lt
                        have m0 : (wy).cell? ⟨mb, 0, none⟩ = some (.int .i64 (W)) := (hum).row.cell (i := 0) (by omega)
                        have m1 : (wy).cell? ⟨mb, 1, none⟩ = some (.int .i64 (H)) := (hum).row.cell (i := 1) (by omega)
                        have m2 : (wy).cell? ⟨mb, 2, none⟩ = some ((.slice A acc.length cp)) := (hum).row.cell (i := 2) (by omega)
                        have fm := (hum).row.frozen 2
                        have lm : LtW mb wy := (hum).row.lt
                        go_upto_region 43 with fail
                        have HUM := Lib.hid (hum.setAt HO.out ((p : Int) + 1))
                        clear hum a0 fa la m0 m1 m2 fm lm
                        generalize wy.setCell ⟨q2, 0, none⟩ (.int .i64 ((p : Int) + 1)) = wr at *
                        have hum := HUM.out
                        have a0 : (wr).cell? ⟨q2, 0, none⟩ = some (.int .i64 (((p : Int) + 1))) := (hum).ui.at_.cell (i := 0) (by omega)
                        have fa := (hum).ui.at_.frozen 0
                        have la : LtW q2 wr := (hum).ui.at_.lt
                        have m0 : (wr).cell? ⟨mb, 0, none⟩ = some (.int .i64 (W)) := (hum).row.cell (i := 0) (by omega)
                        have m1 : (wr).cell? ⟨mb, 1, none⟩ = some (.int .i64 (H)) := (hum).row.cell (i := 1) (by omega)
                        have m2 : (wr).cell? ⟨mb, 2, none⟩ = some ((.slice A acc.length cp)) := (hum).row.cell (i := 2) (by omega)
                        have fm := (hum).row.frozen 2
                        have lm : LtW mb wr := (hum).row.lt
                        clear hum
                        by_cases hpN : p + 1 < N
                        · as_aux_lemma =>
                          have t5 : decide ((p : Int) + 1 < (N : Int)) = true := by simp; omega
                          have t6 : decide (p + 1 < N) = true := by simp; omega
                          have HU : Hid (unp B = (.bad (p + 1), W, H)) := Lib.hid (by rw [HUN.out, HRS2.out, if_pos hpN])
                          go_upto_region 44 with fail
                          have HUI := Lib.hid HUM.out.ui
                          clear HUM a0 fa la m0 m1 m2 fm lm
                          generalize wr = wx at *
                          go_wp2_with fail
                          refine (rbad_any q2 ((p : Int) + 1) _ (HUI.out.at_.cell (i := 0) (by omega)) HUI.out.at_.lt).mono ?_
                          rintro r w8 ⟨rfl, hb8⟩
                          have hu8 := HUI.out.grow hb8 HUI.out.at_.lt hq1 hq2
                          have r0 : w8.cell? ⟨q, 0, none⟩ = some (.int .i64 (0)) := hu8.res.cell (i := 0) (by omega)
                          have r1 : w8.cell? ⟨q, 1, none⟩ = some (.int .i64 (0)) := hu8.res.cell (i := 1) (by omega)
                          have r2 : w8.cell? ⟨q, 2, none⟩ = some (.slice none 0 0) := hu8.res.cell (i := 2) (by omega)
                          have f0 := hu8.res.frozen 0; have f1 := hu8.res.frozen 1; have f2 := hu8.res.frozen 2
                          have s0 : w8.cell? ⟨q1, 0, none⟩ = some (.int .i64 (0)) := hu8.flt.cell (i := 0) (by omega)
                          have s1 : w8.cell? ⟨q1, 1, none⟩ = some (.int .i64 (0)) := hu8.flt.cell (i := 1) (by omega)
                          have g0 := hu8.flt.frozen 0; have g1 := hu8.flt.frozen 1
                          have lr : LtW q w8 := hu8.res.lt
                          have lf : LtW q1 w8 := hu8.flt.lt
                          have HBF := Lib.hid hu8.bel
                          clear hb8 hu8 HUI
                          go_wp2
                          refine bodyPost_ret (v := .tuple #[.agg #[.int .i64 (0), .int .i64 (0), .slice none 0 0], .agg #[.int .i64 (2), .int .i64 (((p : Int) + 1))]]) (by simp [results, Try.results10, go_sem, r0, r1, r2, s0, s1]) rfl ?_
                          unfold UnpPost
                          rw [HU.out]
                          refine ⟨rfl, ?_⟩
                          rw [HQE.out]
                          exact ((((HBF.out.setCell (by first | omega | (simp; done) | (simp; omega)) _).setCell (by first | omega | (simp; done) | (simp; omega)) _).setCell (by first | omega | (simp; done) | (simp; omega)) _).setCell (by first | omega | (simp; done) | (simp; omega)) _).setCell (by first | omega | (simp; done) | (simp; omega)) _
                        · as_aux_lemma =>
                          have t5 : decide ((p : Int) + 1 < (N : Int)) = false := by simp; omega
                          have t6 : decide (p + 1 < N) = false := by simp; omega
                          have HU : Hid (unp B = (.ok acc, W, H)) := Lib.hid (by rw [HUN.out, HRS2.out, if_neg hpN])
                          obtain ⟨a9, c9, e9, hT9, hg9⟩ := OkT.of_owns HUM.out.own
                          injection e9 with e91 _ e92
                          subst e91 e92
                          have HT9 := Lib.hid hT9; have HG9 := Lib.hid hg9
                          have hu8 := HUM.out.ui
                          have r0 : wr.cell? ⟨q, 0, none⟩ = some (.int .i64 (0)) := hu8.res.cell (i := 0) (by omega)
                          have r1 : wr.cell? ⟨q, 1, none⟩ = some (.int .i64 (0)) := hu8.res.cell (i := 1) (by omega)
                          have r2 : wr.cell? ⟨q, 2, none⟩ = some (.slice none 0 0) := hu8.res.cell (i := 2) (by omega)
                          have f0 := hu8.res.frozen 0; have f1 := hu8.res.frozen 1; have f2 := hu8.res.frozen 2
                          have s0 : wr.cell? ⟨q1, 0, none⟩ = some (.int .i64 (0)) := hu8.flt.cell (i := 0) (by omega)
                          have s1 : wr.cell? ⟨q1, 1, none⟩ = some (.int .i64 (0)) := hu8.flt.cell (i := 1) (by omega)
                          have g0 := hu8.flt.frozen 0; have g1 := hu8.flt.frozen 1
                          have lr : LtW q wr := hu8.res.lt
                          have lf : LtW q1 wr := hu8.flt.lt
                          have HBF := Lib.hid hu8.bel
                          clear hT9 hg9 hu8 HUM fm
                          go_wp2
                          refine bodyPost_ret (v := .tuple #[.agg #[.int .i64 (W), .int .i64 (H), .slice A acc.length cp], .agg #[.int .i64 (0), .int .i64 (0)]]) (by simp [results, Try.results10, go_sem, r0, r1, r2, s0, s1]) rfl ?_
                          unfold UnpPost
                          rw [HU.out]
                          have ho := HO.out; have hoa := ho.a; have hob := ho.b; have hoc := ho.c; have hod := ho.d
                          refine ⟨⟨A, cp, rfl, ?_⟩, ?_⟩
                          · exact okT_set (okT_set (okT_set (okT_set (okT_set HT9.out fun b o e => by have := HG9.out b o e; omega) fun b o e => by have := HG9.out b o e; omega) fun b o e => by have := HG9.out b o e; omega) fun b o e => by have := HG9.out b o e; omega) fun b o e => by have := HG9.out b o e; omega
                          · rw [HQE.out]
                            exact ((((HBF.out.setCell (by first | omega | (simp; done) | (simp; omega)) _).setCell (by first | omega | (simp; done) | (simp; omega)) _).setCell (by first | omega | (simp; done) | (simp; omega)) _).setCell (by first | omega | (simp; done) | (simp; omega)) _).setCell (by first | omega | (simp; done) | (simp; omega)) _
                      · as_aux_lemma =>
                        have t3 : ((x : Int) != (ck : Int)) = true := by simp; omega
                        have t4 : (x != ck) = true := by simp; omega
                        have HU : Hid (unp B = (.bad p, W, H)) := Lib.hid (by rw [HUN.out, HRS.out, if_pos (.inr hxc)])
                        clear hxc HRS
                        (refine wpE_take (i := 13) rfl (by kernel_rfl) (fun _ _ _ _ h => h) (fun K hK => ?_); go_simp; first | (refine hK _ ?_; clear hK K) | (apply Exists.intro; refine ⟨fun _ _ => ?_, hK _ ?_⟩; fail; clear hK K)); (refine wpE_take (i := 14) rfl (by kernel_rfl) (fun _ _ _ _ h => h) (fun K hK => ?_); go_simp; first | (refine hK _ ?_; clear hK K) | (apply Exists.intro; refine ⟨fun _ _ => ?_, hK _ ?_⟩; fail; clear hK K))
                        refine wpE_done (by kernel_rfl) (fun E d => ?_)
                        have hb9 : Below wr.heap.size wr (extW wz E d) := bExtW hbz2 hbz2.size
                        clear hcb HCB hsl hix hbz hIz hbz2
                        have HUI := Lib.hid (HUM.out.ui.grow (hb9) HUM.out.ui.at_.lt hq1 hq2)
                        clear HUM a0 fa la m0 m1 m2 fm lm
                        generalize extW wz E d = wx at *
                        clear hb9
                        go_wp2_with fail
                        refine (rbad_any q2 (p : Int) _ (HUI.out.at_.cell (i := 0) (by omega)) HUI.out.at_.lt).mono ?_
                        rintro r w8 ⟨rfl, hb8⟩
                        have hu8 := HUI.out.grow hb8 HUI.out.at_.lt hq1 hq2
                        have r0 : w8.cell? ⟨q, 0, none⟩ = some (.int .i64 (0)) := hu8.res.cell (i := 0) (by omega)
                        have r1 : w8.cell? ⟨q, 1, none⟩ = some (.int .i64 (0)) := hu8.res.cell (i := 1) (by omega)
                        have r2 : w8.cell? ⟨q, 2, none⟩ = some (.slice none 0 0) := hu8.res.cell (i := 2) (by omega)
                        have f0 := hu8.res.frozen 0; have f1 := hu8.res.frozen 1; have f2 := hu8.res.frozen 2
                        have s0 : w8.cell? ⟨q1, 0, none⟩ = some (.int .i64 (0)) := hu8.flt.cell (i := 0) (by omega)
                        have s1 : w8.cell? ⟨q1, 1, none⟩ = some (.int .i64 (0)) := hu8.flt.cell (i := 1) (by omega)
                        have g0 := hu8.flt.frozen 0; have g1 := hu8.flt.frozen 1
                        have lr : LtW q w8 := hu8.res.lt
                        have lf : LtW q1 w8 := hu8.flt.lt
                        have HBF := Lib.hid hu8.bel
                        clear hb8 hu8 HUI
                        go_wp2
                        refine bodyPost_ret (v := .tuple #[.agg #[.int .i64 (0), .int .i64 (0), .slice none 0 0], .agg #[.int .i64 (2), .int .i64 ((p : Int))]]) (by simp [results, Try.results10, go_sem, r0, r1, r2, s0, s1]) rfl ?_
                        unfold UnpPost
                        rw [HU.out]
                        refine ⟨rfl, ?_⟩
                        rw [HQE.out]
                        exact ((((HBF.out.setCell (by first | omega | (simp; done) | (simp; omega)) _).setCell (by first | omega | (simp; done) | (simp; omega)) _).setCell (by first | omega | (simp; done) | (simp; omega)) _).setCell (by first | omega | (simp; done) | (simp; omega)) _).setCell (by first | omega | (simp; done) | (simp; omega)) _
                  · have e7 : ((W : Int) == 0) = false := by simp; omega
                    have e7' : (W == 0) = false := by simp; omega
                    by_cases he : p = N
                    · have t1 : decide ((N : Int) ≤ (p : Int)) = true := by simp; omega
                      have t2 : decide (N ≤ p) = true := by simp; omega
                      have HU : Hid (unp B = (.bad p, W, H)) := Lib.hid (by rw [HUN.out, HRS.out, if_pos (.inl he)])
                      clear he
                      go_wp2_with fail
                      (refine wp_region_ext (by kernel_rfl) (by kernel_rfl) ?_; (repeat (first | ((with_reducible refine ext_step (fun K hK => ?_)); go_simp; first | (refine hK _ ?_; clear hK K) | (apply Exists.intro; refine ⟨fun _ _ => ?_, hK _ ?_⟩; fail; clear hK K)))); refine wpQuiet_nil ?_; intro E d)
                      have HUI := Lib.hid (HUM.out.ui.grow (bExtW (Below.refl _ _) (Nat.le_refl _) : Below wr.heap.size wr (extW wr E d)) HUM.out.ui.at_.lt hq1 hq2)
                      clear HUM a0 fa la m0 m1 m2 fm lm
                      generalize extW wr E d = wx at *
                      go_wp2_with fail
                      refine (rbad_any q2 (p : Int) _ (HUI.out.at_.cell (i := 0) (by omega)) HUI.out.at_.lt).mono ?_
                      rintro r w8 ⟨rfl, hb8⟩
                      have hu8 := HUI.out.grow hb8 HUI.out.at_.lt hq1 hq2
                      have r0 : w8.cell? ⟨q, 0, none⟩ = some (.int .i64 (0)) := hu8.res.cell (i := 0) (by omega)
                      have r1 : w8.cell? ⟨q, 1, none⟩ = some (.int .i64 (0)) := hu8.res.cell (i := 1) (by omega)
                      have r2 : w8.cell? ⟨q, 2, none⟩ = some (.slice none 0 0) := hu8.res.cell (i := 2) (by omega)
                      have f0 := hu8.res.frozen 0; have f1 := hu8.res.frozen 1; have f2 := hu8.res.frozen 2
                      have s0 : w8.cell? ⟨q1, 0, none⟩ = some (.int .i64 (0)) := hu8.flt.cell (i := 0) (by omega)
                      have s1 : w8.cell? ⟨q1, 1, none⟩ = some (.int .i64 (0)) := hu8.flt.cell (i := 1) (by omega)
                      have g0 := hu8.flt.frozen 0; have g1 := hu8.flt.frozen 1
                      have lr : LtW q w8 := hu8.res.lt
                      have lf : LtW q1 w8 := hu8.flt.lt
                      have HBF := Lib.hid hu8.bel
                      clear hb8 hu8 HUI
                      go_wp2
                      refine bodyPost_ret (v := .tuple #[.agg #[.int .i64 (0), .int .i64 (0), .slice none 0 0], .agg #[.int .i64 (2), .int .i64 ((p : Int))]]) (by simp [results, Try.results10, go_sem, r0, r1, r2, s0, s1]) rfl ?_
                      unfold UnpPost
                      rw [HU.out]
                      refine ⟨rfl, ?_⟩
                      rw [HQE.out]
                      exact ((((HBF.out.setCell (by first | omega | (simp; done) | (simp; omega)) _).setCell (by first | omega | (simp; done) | (simp; omega)) _).setCell (by first | omega | (simp; done) | (simp; omega)) _).setCell (by first | omega | (simp; done) | (simp; omega)) _).setCell (by first | omega | (simp; done) | (simp; omega)) _
                    · as_aux_lemma =>
                      have t1 : decide ((N : Int) ≤ (p : Int)) = false := by simp; omega
                      have t2 : decide (N ≤ p) = false := by simp; omega
                      have hix := HIX.out p (by omega)
                      obtain ⟨x, hx⟩ : ∃ x, B.getD p 0 = x := ⟨_, rfl⟩
                      have hx256 : x < 256 := by rw [← hx]; exact HLT.out _ (getD_memN (by rw [HN.out]; omega))
                      rw [hx] at hix HRS
                      obtain ⟨S2, hS2⟩ : ∃ S2, s.extract 0 p = S2 := ⟨_, rfl⟩
                      have hsl : ∀ w, (Instr.slice 9 (.string s) none (some (.int .i64 (p : Int))) none).run Try.prog w = .ok (.string S2) w := fun w => by
                        rw [← hS2]; exact slice_to s p (by rw [hN]; omega) w
                      have HS2 : Hid (bytesOf S2 = B.take p) := Lib.hid (by
                        have h1 := bytesOf_extract s 0 p (by rw [hN]; omega)
                        rw [Nat.zero_add, List.drop_zero, HBE.out] at h1
                        rw [← hS2, h1])
                      have hSz : S2.size = p := by
                        have h1 := congrArg List.length HS2.out
                        rw [bytesOf_len, List.length_take, HN.out] at h1
                        omega
                      have HLTP : Hid (∀ x ∈ B.take p, x < 256) := Lib.hid fun x hx => HLT.out x (List.mem_of_mem_take hx)
                      obtain ⟨capF, bwF, hcb, hcp⟩ := strBytes S2
                      rw [HS2.out, hSz] at hcp
                      rw [hSz] at hcb
                      have HCB := Lib.hid hcp
                      obtain ⟨ck, hck⟩ : ∃ ck, chk (B.take p) = ck := ⟨_, rfl⟩
                      have hcl : ck < 256 := by rw [← hck]; exact chk_lt _
                      have HCK := Lib.hid hck
                      rw [hck] at HRS
                      have HNE := Lib.hid he
                      clear hS2 hSz hcp hck hx he
                      go_wp2_with fail
                      refine wp_region_E (by kernel_rfl) ?_
                      (refine wpE_take (i := 0) rfl (by kernel_rfl) (fun _ _ _ _ h => h) (fun K hK => ?_); go_simp; first | (refine hK _ ?_; clear hK K) | (apply Exists.intro; refine ⟨fun _ _ => ?_, hK _ ?_⟩; fail; clear hK K)); (refine wpE_take (i := 1) rfl (by kernel_rfl) (fun _ _ _ _ h => h) (fun K hK => ?_); go_simp; first | (refine hK _ ?_; clear hK K) | (apply Exists.intro; refine ⟨fun _ _ => ?_, hK _ ?_⟩; fail; clear hK K)); (refine wpE_take (i := 2) rfl (by kernel_rfl) (fun _ _ _ _ h => h) (fun K hK => ?_); go_simp; first | (refine hK _ ?_; clear hK K) | (apply Exists.intro; refine ⟨fun _ _ => ?_, hK _ ?_⟩; fail; clear hK K)); (refine wpE_take (i := 3) rfl (by kernel_rfl) (fun _ _ _ _ h => h) (fun K hK => ?_); go_simp; first | (refine hK _ ?_; clear hK K) | (apply Exists.intro; refine ⟨fun _ _ => ?_, hK _ ?_⟩; fail; clear hK K)); (refine wpE_take (i := 4) rfl (by kernel_rfl) (fun _ _ _ _ h => h) (fun K hK => ?_); go_simp; first | (refine hK _ ?_; clear hK K) | (apply Exists.intro; refine ⟨fun _ _ => ?_, hK _ ?_⟩; fail; clear hK K)); (refine wpE_take (i := 5) rfl (by kernel_rfl) (fun _ _ _ _ h => h) (fun K hK => ?_); go_simp; first | (refine hK _ ?_; clear hK K) | (apply Exists.intro; refine ⟨fun _ _ => ?_, hK _ ?_⟩; fail; clear hK K)); (refine wpE_take (i := 6) rfl (by kernel_rfl) (fun _ _ _ _ h => h) (fun K hK => ?_); go_simp; first | (refine hK _ ?_; clear hK K) | (apply Exists.intro; refine ⟨fun _ _ => ?_, hK _ ?_⟩; fail; clear hK K)); (refine wpE_take (i := 7) rfl (by kernel_rfl) (fun _ _ _ _ h => h) (fun K hK => ?_); go_simp; first | (refine hK _ ?_; clear hK K) | (apply Exists.intro; refine ⟨fun _ _ => ?_, hK _ ?_⟩; fail; clear hK K)); (refine wpE_take (i := 8) rfl (by kernel_rfl) (fun _ _ _ _ h => h) (fun K hK => ?_); go_simp; first | (refine hK _ ?_; clear hK K) | (apply Exists.intro; refine ⟨fun _ _ => ?_, hK _ ?_⟩; fail; clear hK K)); (refine wpE_take (i := 9) rfl (by kernel_rfl) (fun _ _ _ _ h => h) (fun K hK => ?_); go_simp; first | (refine hK _ ?_; clear hK K) | (apply Exists.intro; refine ⟨fun _ _ => ?_, hK _ ?_⟩; fail; clear hK K)); (refine wpE_take (i := 10) rfl (by kernel_rfl) (fun _ _ _ _ h => h) (fun K hK => ?_); go_simp; first | (refine hK _ ?_; clear hK K) | (apply Exists.intro; refine ⟨fun _ _ => ?_, hK _ ?_⟩; fail; clear hK K))
                      (refine wpE_step (i := 11) rfl (by kernel_rfl) (fun E d K hK => ?_)); go_simp
                      refine hK _ _ (bExt (HCB.out _).1) ?_
                      clear hK K
                      obtain ⟨hbz, hIz⟩ := HCB.out (extW wr E d)
                      have hbz2 : Below wr.heap.size wr (bwF (extW wr E d)) := Below.trans (bExtW (Below.refl _ _) (Nat.le_refl _)) (hbz.mono (by simp))
                      generalize capF (extW wr E d) = cz at *
                      generalize bwF (extW wr E d) = wz at *
                      rw [show (extW wr E d).heap.size = wr.heap.size + E.size by simp] at hIz hbz
                      generalize wr.heap.size + E.size = gz at *
                      (refine wpE_take (i := 12) rfl (by kernel_rfl) (fun _ _ _ _ h => h) (fun K hK => ?_); go_simp; first | (refine hK _ ?_; clear hK K) | (apply Exists.intro; refine ⟨fun _ _ => ?_, hK _ ?_⟩; (go_at_call 27; exact vOf (rCheck_any _ _ _ _ _ (hIz.below (bExtW (Below.refl _ _) (Nat.le_refl _))) (by omega) HLTP.out)); clear hK K))
                      rw [HCK.out]
                      by_cases hxc : x = ck
                      · have t3 : ((x : Int) != (ck : Int)) = false := by simp; omega
                        have t4 : (x != ck) = false := by simp; omega
                        have HRS2 : Hid (RES = if p + 1 < N then .bad (p + 1) else .ok acc) := Lib.hid (by rw [HRS.out, if_neg (by rintro (e | e); exact HNE.out e; exact e hxc)])
                        clear hxc HRS
                        (refine wpE_take (i := 13) rfl (by kernel_rfl) (fun _ _ _ _ h => h) (fun K hK => ?_); go_simp; first | (refine hK _ ?_; clear hK K) | (apply Exists.intro; refine ⟨fun _ _ => ?_, hK _ ?_⟩; fail; clear hK K)); (refine wpE_take (i := 14) rfl (by kernel_rfl) (fun _ _ _ _ h => h) (fun K hK => ?_); go_simp; first | (refine hK _ ?_; clear hK K) | (apply Exists.intro; refine ⟨fun _ _ => ?_, hK _ ?_⟩; fail; clear hK K))
                        refine wpE_done (by kernel_rfl) (fun E d => ?_)
                        have hb9 : Below wr.heap.size wr (extW wz E d) := bExtW hbz2 hbz2.size
                        have hum := HUM.out.grow HO.out hb9
                        clear hcb HCB hsl hix hbz hIz hbz2 HUM a0 fa la m0 m1 m2 fm lm hb9
                        generalize extW wz E d = wy at *
                        have a0 : (wy).cell? ⟨q2, 0, none⟩ = some (.int .i64 ((p : Int))) := (hum).ui.at_.cell (i := 0) (by omega)
                        have fa := (hum).ui.at_.frozen 0
                        have la : LtW q2 wy := (hum).ui.at_.lt
                        have m0 : (wy).cell? ⟨mb, 0, none⟩ = some (.int .i64 (W)) := (hum).row.cell (i := 0) (by omega)
                        have m1 : (wy).cell? ⟨mb, 1, none⟩ = some (.int .i64 (H)) := (hum).row.cell (i := 1) (by omega)
                        have m2 : (wy).cell? ⟨mb, 2, none⟩ = some ((.slice A acc.length cp)) := (hum).row.cell (i := 2) (by omega)
                        have fm := (hum).row.frozen 2
                        have lm : LtW mb wy := (hum).row.lt
                        go_upto_region 43 with fail
                        have HUM := Lib.hid (hum.setAt HO.out ((p : Int) + 1))
                        clear hum a0 fa la m0 m1 m2 fm lm
                        generalize wy.setCell ⟨q2, 0, none⟩ (.int .i64 ((p : Int) + 1)) = wr at *
                        have hum := HUM.out
                        have a0 : (wr).cell? ⟨q2, 0, none⟩ = some (.int .i64 (((p : Int) + 1))) := (hum).ui.at_.cell (i := 0) (by omega)
                        have fa := (hum).ui.at_.frozen 0
                        have la : LtW q2 wr := (hum).ui.at_.lt
                        have m0 : (wr).cell? ⟨mb, 0, none⟩ = some (.int .i64 (W)) := (hum).row.cell (i := 0) (by omega)
                        have m1 : (wr).cell? ⟨mb, 1, none⟩ = some (.int .i64 (H)) := (hum).row.cell (i := 1) (by omega)
                        have m2 : (wr).cell? ⟨mb, 2, none⟩ = some ((.slice A acc.length cp)) := (hum).row.cell (i := 2) (by omega)
                        have fm := (hum).row.frozen 2
                        have lm : LtW mb wr := (hum).row.lt
                        clear hum
                        by_cases hpN : p + 1 < N
                        · as_aux_lemma =>
                          have t5 : decide ((p : Int) + 1 < (N : Int)) = true := by simp; omega
                          have t6 : decide (p + 1 < N) = true := by simp; omega
                          have HU : Hid (unp B = (.bad (p + 1), W, H)) := Lib.hid (by rw [HUN.out, HRS2.out, if_pos hpN])
                          go_upto_region 44 with fail
                          have HUI := Lib.hid HUM.out.ui
                          clear HUM a0 fa la m0 m1 m2 fm lm
                          generalize wr = wx at *
                          go_wp2_with fail
                          refine (rbad_any q2 ((p : Int) + 1) _ (HUI.out.at_.cell (i := 0) (by omega)) HUI.out.at_.lt).mono ?_
                          rintro r w8 ⟨rfl, hb8⟩
                          have hu8 := HUI.out.grow hb8 HUI.out.at_.lt hq1 hq2
                          have r0 : w8.cell? ⟨q, 0, none⟩ = some (.int .i64 (0)) := hu8.res.cell (i := 0) (by omega)
                          have r1 : w8.cell? ⟨q, 1, none⟩ = some (.int .i64 (0)) := hu8.res.cell (i := 1) (by omega)
                          have r2 : w8.cell? ⟨q, 2, none⟩ = some (.slice none 0 0) := hu8.res.cell (i := 2) (by omega)
                          have f0 := hu8.res.frozen 0; have f1 := hu8.res.frozen 1; have f2 := hu8.res.frozen 2
                          have s0 : w8.cell? ⟨q1, 0, none⟩ = some (.int .i64 (0)) := hu8.flt.cell (i := 0) (by omega)
                          have s1 : w8.cell? ⟨q1, 1, none⟩ = some (.int .i64 (0)) := hu8.flt.cell (i := 1) (by omega)
                          have g0 := hu8.flt.frozen 0; have g1 := hu8.flt.frozen 1
                          have lr : LtW q w8 := hu8.res.lt
                          have lf : LtW q1 w8 := hu8.flt.lt
                          have HBF := Lib.hid hu8.bel
                          clear hb8 hu8 HUI
                          go_wp2
                          refine bodyPost_ret (v := .tuple #[.agg #[.int .i64 (0), .int .i64 (0), .slice none 0 0], .agg #[.int .i64 (2), .int .i64 (((p : Int) + 1))]]) (by simp [results, Try.results10, go_sem, r0, r1, r2, s0, s1]) rfl ?_
                          unfold UnpPost
                          rw [HU.out]
                          refine ⟨rfl, ?_⟩
                          rw [HQE.out]
                          exact ((((HBF.out.setCell (by first | omega | (simp; done) | (simp; omega)) _).setCell (by first | omega | (simp; done) | (simp; omega)) _).setCell (by first | omega | (simp; done) | (simp; omega)) _).setCell (by first | omega | (simp; done) | (simp; omega)) _).setCell (by first | omega | (simp; done) | (simp; omega)) _
                        · as_aux_lemma =>
                          have t5 : decide ((p : Int) + 1 < (N : Int)) = false := by simp; omega
                          have t6 : decide (p + 1 < N) = false := by simp; omega
                          have HU : Hid (unp B = (.ok acc, W, H)) := Lib.hid (by rw [HUN.out, HRS2.out, if_neg hpN])
                          obtain ⟨a9, c9, e9, hT9, hg9⟩ := OkT.of_owns HUM.out.own
                          injection e9 with e91 _ e92
                          subst e91 e92
                          have HT9 := Lib.hid hT9; have HG9 := Lib.hid hg9
                          have hu8 := HUM.out.ui
                          have r0 : wr.cell? ⟨q, 0, none⟩ = some (.int .i64 (0)) := hu8.res.cell (i := 0) (by omega)
                          have r1 : wr.cell? ⟨q, 1, none⟩ = some (.int .i64 (0)) := hu8.res.cell (i := 1) (by omega)
                          have r2 : wr.cell? ⟨q, 2, none⟩ = some (.slice none 0 0) := hu8.res.cell (i := 2) (by omega)
                          have f0 := hu8.res.frozen 0; have f1 := hu8.res.frozen 1; have f2 := hu8.res.frozen 2
                          have s0 : wr.cell? ⟨q1, 0, none⟩ = some (.int .i64 (0)) := hu8.flt.cell (i := 0) (by omega)
                          have s1 : wr.cell? ⟨q1, 1, none⟩ = some (.int .i64 (0)) := hu8.flt.cell (i := 1) (by omega)
                          have g0 := hu8.flt.frozen 0; have g1 := hu8.flt.frozen 1
                          have lr : LtW q wr := hu8.res.lt
                          have lf : LtW q1 wr := hu8.flt.lt
                          have HBF := Lib.hid hu8.bel
                          clear hT9 hg9 hu8 HUM fm
                          go_wp2
                          refine bodyPost_ret (v := .tuple #[.agg #[.int .i64 (W), .int .i64 (H), .slice A acc.length cp], .agg #[.int .i64 (0), .int .i64 (0)]]) (by simp [results, Try.results10, go_sem, r0, r1, r2, s0, s1]) rfl ?_
                          unfold UnpPost
                          rw [HU.out]
                          have ho := HO.out; have hoa := ho.a; have hob := ho.b; have hoc := ho.c; have hod := ho.d
                          refine ⟨⟨A, cp, rfl, ?_⟩, ?_⟩
                          · exact okT_set (okT_set (okT_set (okT_set (okT_set HT9.out fun b o e => by have := HG9.out b o e; omega) fun b o e => by have := HG9.out b o e; omega) fun b o e => by have := HG9.out b o e; omega) fun b o e => by have := HG9.out b o e; omega) fun b o e => by have := HG9.out b o e; omega
                          · rw [HQE.out]
                            exact ((((HBF.out.setCell (by first | omega | (simp; done) | (simp; omega)) _).setCell (by first | omega | (simp; done) | (simp; omega)) _).setCell (by first | omega | (simp; done) | (simp; omega)) _).setCell (by first | omega | (simp; done) | (simp; omega)) _).setCell (by first | omega | (simp; done) | (simp; omega)) _
                      · as_aux_lemma =>
                        have t3 : ((x : Int) != (ck : Int)) = true := by simp; omega
                        have t4 : (x != ck) = true := by simp; omega
                        have HU : Hid (unp B = (.bad p, W, H)) := Lib.hid (by rw [HUN.out, HRS.out, if_pos (.inr hxc)])
                        clear hxc HRS
                        (refine wpE_take (i := 13) rfl (by kernel_rfl) (fun _ _ _ _ h => h) (fun K hK => ?_); go_simp; first | (refine hK _ ?_; clear hK K) | (apply Exists.intro; refine ⟨fun _ _ => ?_, hK _ ?_⟩; fail; clear hK K)); (refine wpE_take (i := 14) rfl (by kernel_rfl) (fun _ _ _ _ h => h) (fun K hK => ?_); go_simp; first | (refine hK _ ?_; clear hK K) | (apply Exists.intro; refine ⟨fun _ _ => ?_, hK _ ?_⟩; fail; clear hK K))
                        refine wpE_done (by kernel_rfl) (fun E d => ?_)
                        have hb9 : Below wr.heap.size wr (extW wz E d) := bExtW hbz2 hbz2.size
                        clear hcb HCB hsl hix hbz hIz hbz2
                        have HUI := Lib.hid (HUM.out.ui.grow (hb9) HUM.out.ui.at_.lt hq1 hq2)
                        clear HUM a0 fa la m0 m1 m2 fm lm
                        generalize extW wz E d = wx at *
                        clear hb9
                        go_wp2_with fail
                        refine (rbad_any q2 (p : Int) _ (HUI.out.at_.cell (i := 0) (by omega)) HUI.out.at_.lt).mono ?_
                        rintro r w8 ⟨rfl, hb8⟩
                        have hu8 := HUI.out.grow hb8 HUI.out.at_.lt hq1 hq2
                        have r0 : w8.cell? ⟨q, 0, none⟩ = some (.int .i64 (0)) := hu8.res.cell (i := 0) (by omega)
                        have r1 : w8.cell? ⟨q, 1, none⟩ = some (.int .i64 (0)) := hu8.res.cell (i := 1) (by omega)
                        have r2 : w8.cell? ⟨q, 2, none⟩ = some (.slice none 0 0) := hu8.res.cell (i := 2) (by omega)
                        have f0 := hu8.res.frozen 0; have f1 := hu8.res.frozen 1; have f2 := hu8.res.frozen 2
                        have s0 : w8.cell? ⟨q1, 0, none⟩ = some (.int .i64 (0)) := hu8.flt.cell (i := 0) (by omega)
                        have s1 : w8.cell? ⟨q1, 1, none⟩ = some (.int .i64 (0)) := hu8.flt.cell (i := 1) (by omega)
                        have g0 := hu8.flt.frozen 0; have g1 := hu8.flt.frozen 1
                        have lr : LtW q w8 := hu8.res.lt
                        have lf : LtW q1 w8 := hu8.flt.lt
                        have HBF := Lib.hid hu8.bel
                        clear hb8 hu8 HUI
                        go_wp2
                        refine bodyPost_ret (v := .tuple #[.agg #[.int .i64 (0), .int .i64 (0), .slice none 0 0], .agg #[.int .i64 (2), .int .i64 ((p : Int))]]) (by simp [results, Try.results10, go_sem, r0, r1, r2, s0, s1]) rfl ?_
                        unfold UnpPost
                        rw [HU.out]
                        refine ⟨rfl, ?_⟩
                        rw [HQE.out]
                        exact ((((HBF.out.setCell (by first | omega | (simp; done) | (simp; omega)) _).setCell (by first | omega | (simp; done) | (simp; omega)) _).setCell (by first | omega | (simp; done) | (simp; omega)) _).setCell (by first | omega | (simp; done) | (simp; omega)) _).setCell (by first | omega | (simp; done) | (simp; omega)) _
end Go.Proofs.Ytpmecoojhjopcaa
