/- Lemmas and contracts of functions (what each call returns, and that it changes nothing that was there) that the proof of a law of this seat uses; each lemma states its own conditions. -/
import Derived.Test.YtdaacjaibfcacaaB37
import Derived.Test.YtdaacjaibfcacaaB42
import Derived.Laws.Bits64b
import Derived.Laws.CopyOwn
import Derived.Deep.RegionLaw
namespace Go.Proofs.Ytdaacjaibfcacaa
open Go.RowKit
set_option linter.unusedVariables false
set_option linter.unusedSimpArgs false
theorem maskM (a : Nat) (ha : a < 4294967296) : bits .and .u64 (a : Int) 4294967295 = (a : Int) := by
  have h := bits_and_u64_nat a 4294967295 (by omega) (by omega)
  have e : a &&& 4294967295 = a % 4294967296 := Nat.and_two_pow_sub_one_eq_mod a 32
  rw [e, Nat.mod_eq_of_lt ha] at h
  exact h
set_option maxRecDepth 100000 in
set_option maxHeartbeats 8000000 in
theorem mul64_one (M : Nat) (w : World) (hM : M ≤ 1000000) :
    Calls Try.prog 123 #[.int .u64 1, .int .u64 M] w fun e w' => e = .returned (.tuple #[.int .u64 0, .int .u64 M]) ∧ w' = w := by
  have h1 := maskM M (by omega)
  have h2 : bits .and .u64 1 4294967295 = 1 := maskM 1 (by omega)
  have h5 : bits .and .u64 0 4294967295 = 0 := maskM 0 (by omega)
  have h6 : IntKind.u64.wrap 0 = 0 := by decide +kernel
  have h3 : IntKind.u64.wrap (M : Int) = (M : Int) := by rw [IntKind.wrap_u64]; omega
  have h4 : (M : Int) / 4294967296 = 0 := by omega
  go_enter Try.func123, Try.ntmps123
  go_wp2
  go_ret2
  exact ⟨rfl, rfl⟩
set_option maxRecDepth 100000 in
set_option maxHeartbeats 8000000 in
theorem mul_one (M : Nat) (w : World) (hM : M ≤ 1000000) :
    Calls Try.prog 116 #[.int .u64 1, .int .u64 M] w fun e w' => e = .returned (.tuple #[.int .u64 0, .int .u64 M]) ∧ w' = w := by
  have HM := Lib.hid (fun w => mul64_one M w hM)
  go_enter Try.func116, Try.ntmps116
  go_wp2_with fail
  refine (HM.out _).mono ?_
  rintro e w' ⟨rfl, rfl⟩
  go_wp2
  go_ret2
  exact ⟨rfl, rfl⟩
theorem splice_rep {α : Type} (z : α) (M off k : Nat) (h : off + k ≤ M) : splice (List.replicate M z) off (List.replicate k z) = List.replicate M z := by
  unfold splice
  rw [List.take_replicate, List.drop_replicate, List.length_replicate, Nat.min_eq_left (by omega), List.replicate_append_replicate, List.replicate_append_replicate]
  congr 1
  omega
theorem made_rep (z : Value) (n : Nat) : madeCells #[z] n = (List.replicate n z).toArray := by
  apply Array.toList_inj.1
  rw [toList_madeCells_one]
theorem infoInt1 : (Try.prog.info? 3).map (·.size) = some 1 := by kernel_rfl
set_option maxRecDepth 100000 in
set_option maxHeartbeats 8000000 in
theorem repeat_ok (M C : Nat) (b : Nat) (w : World) (hM : 1 ≤ M) (hM6 : M ≤ 1000000) (hc : w.cell? ⟨b, 0, none⟩ = some (.int .i64 0)) :
    Calls Try.prog 92 #[.slice (some ⟨b, 0, none⟩) 1 C, .int .i64 (M)] w fun e w' => e = .returned (.slice (some ⟨w.heap.size, 0, none⟩) M M) ∧ w'.rowIs w.heap.size 3 M (fun _ => .int .i64 0) ∧ Below w.heap.size w w' := by
  have HM := Lib.hid (fun w => mul_one M w hM6)
  have hmk := makeRow okI8 rfl M (by omega) (by omega)
  have hlb : LtW b w := World.block_lt_of_cell? _ _ hc
  have h1 : decide ((M : Int) < 0) = false := by simp
  have h2 : IntKind.u64.wrap (M : Int) = (M : Int) := by rw [IntKind.wrap_u64]; omega
  have h3 : IntKind.i64.wrap (M : Int) = (M : Int) := IntWalk.i64_in _ (by omega)
  have h4 : decide ((M : Int) > 9223372036854775807) = false := by simp; omega
  have h5 : decide ((9223372036854775807 : Int) < (M : Int)) = false := by simp; omega
  go_enter Try.func92, Try.ntmps92
  go_wp2_with fail
  refine (HM.out _).mono ?_
  rintro e w' ⟨rfl, rfl⟩
  have hg0 : (w'.alloc (.cells (madeCells #[.int .i64 0] M) 3)).heap[w'.heap.size]? = some (.cells (List.replicate M (Value.int .i64 0)).toArray 3 (0, 0)) := by
    rw [← made_rep]; exact heap_alloc_new w' _
  have hc2 : (w'.alloc (.cells (madeCells #[.int .i64 0] M) 3)).cell? ⟨b, 0, none⟩ = some (.int .i64 0) := by rw [cell?_alloc_LtW _ _ _ hlb]; exact hc
  have hB0 : Below w'.heap.size w' (w'.alloc (.cells (madeCells #[.int .i64 0] M) 3)) := (Below.refl _ _).alloc (Nat.le_refl _) _
  go_wp2_with (with_reducible refine wpList_copy_splice rfl (.tmp 31) (.tmp 32) 34 34 rfl 3 Try.underlying34 infoInt1 (some ⟨w'.heap.size, 0, none⟩) (some ⟨b, 0, none⟩) M M 1 C rfl rfl w'.heap.size 0 (List.replicate M (Value.int .i64 0)) 3 hg0 (List.replicate 1 (Value.int .i64 0)) ?a1 ?a2 ?a3 ?a4 w'.heap.size w' hB0 (Nat.le_refl _) ?_)
  case a1 => exact (Nat.min_eq_left hM).symm
  case a2 =>
    intro j v hj
    cases j with
    | zero => simp at hj; subst hj; exact hc
    | succ k => simp at hj
  case a3 => simp; omega
  case a4 => intro v hv; simp at hv; subst hv; rfl
  intro w3 hg3 hb3
  have hg4 : w3.heap[w'.heap.size]? = some (.cells (List.replicate M (Value.int .i64 0)).toArray 3 (0, 0)) := by
    have h6 := hg3.out
    rw [show ([.int .i64 0] : List Value) = List.replicate 1 (.int .i64 0) from rfl, splice_rep _ _ _ _ (by omega)] at h6
    exact h6
  clear hg3
  clear hg0 hc2 hB0 hmk
  obtain ⟨g, hgg⟩ : ∃ g, w'.heap.size = g := ⟨_, rfl⟩
  rw [hgg] at hg4 hb3 ⊢
  have HGG := Lib.hid hgg
  clear hgg
  have HG4 := Lib.hid hg4
  have HB3 := Lib.hid hb3
  clear hg4 hb3 hc hlb
  go_wp2_with fail
  go_loopw [8] (fun nv wr => ∃ (n : Nat), 1 ≤ n ∧ n ≤ M ∧ nv = .int .i64 n ∧ Hid (wr.heap[g]? = some (.cells (List.replicate M (Value.int .i64 0)).toArray 3 (0, 0)) ∧ Below g w' wr)) (fun nv _ => M - (intOf nv).toNat)
  case atStart => exact ⟨1, by omega, hM, rfl, Lib.hid ⟨HG4.out, HB3.out⟩⟩
  case round =>
    clear HG4 HB3
    obtain ⟨n, hn1, hn, rfl, HW⟩ := hrel
    by_cases hnM : n < M
    · have dn : decide ((n : Int) < (M : Int)) = true := by simpa using hnM
      have hgw := HW.out.1
      have hbw := HW.out.2
      obtain ⟨k, hk⟩ : ∃ k, Nat.min n (M - n) = k := ⟨_, rfl⟩
      have hk1 : 1 ≤ k ∧ k ≤ n ∧ n + k ≤ M := by
        rw [← hk]
        have h1 : Nat.min n (M - n) ≤ n := Nat.min_le_left _ _
        have h2 : Nat.min n (M - n) ≤ M - n := Nat.min_le_right _ _
        have h3 : 1 ≤ Nat.min n (M - n) := Nat.le_min.2 ⟨hn1, by omega⟩
        omega
      have vk : IntKind.i64.wrap ((n : Int) + (k : Int)) = (n : Int) + (k : Int) := IntWalk.i64_in _ (by omega)
      go_wp2_with fail
      have hsrc : ∀ (j : Nat) (v : Value), (List.replicate k (Value.int .i64 0))[j]? = some v → wr.cell? ⟨g, j, none⟩ = some v := fun j v hj => by
        rw [List.getElem?_replicate] at hj
        split at hj
        · rename_i hjk
          injection hj with hj
          subst hj
          simp [World.cell?, hgw, show j < M by omega]
        · cases hj
      refine wp_region_HS (Below g w') (by kernel_rfl) ?_
      (refine anyH_takeS (i := 0) rfl (by kernel_rfl) (fun _ _ _ _ h => h) hbw.drew (fun K hK => ?_); go_simp; refine ⟨_, fun _ _ => rfl, hK _ ?_⟩; clear hK K); (refine anyH_takeS (i := 1) rfl (by kernel_rfl) (fun _ _ _ _ h => h) hbw.drew (fun K hK => ?_); go_simp; refine ⟨_, fun _ _ => rfl, hK _ ?_⟩; clear hK K); (refine anyH_takeS (i := 2) rfl (by kernel_rfl) (fun _ _ _ _ h => h) hbw.drew (fun K hK => ?_); go_simp; refine ⟨_, fun _ _ => rfl, hK _ ?_⟩; clear hK K); (refine anyH_takeS (i := 3) rfl (by kernel_rfl) (fun _ _ _ _ h => h) hbw.drew (fun K hK => ?_); go_simp; refine ⟨_, fun _ _ => rfl, hK _ ?_⟩; clear hK K); (refine anyH_takeS (i := 4) rfl (by kernel_rfl) (fun _ _ _ _ h => h) hbw.drew (fun K hK => ?_); go_simp; refine ⟨_, fun _ _ => rfl, hK _ ?_⟩; clear hK K); (refine anyH_takeS (i := 5) rfl (by kernel_rfl) (fun _ _ _ _ h => h) hbw.drew (fun K hK => ?_); go_simp; refine ⟨_, fun _ _ => rfl, hK _ ?_⟩; clear hK K); (refine anyH_takeS (i := 6) rfl (by kernel_rfl) (fun _ _ _ _ h => h) hbw.drew (fun K hK => ?_); go_simp; refine ⟨_, fun _ _ => rfl, hK _ ?_⟩; clear hK K)
      refine anyH_one (i := 7) (by kernel_rfl) ?_
      refine wpOp_list (i := 7) rfl rfl (wpList_copy_splice rfl (.tmp 41) (.tmp 44) 34 34 rfl 3 Try.underlying34 infoInt1 (some ⟨g, n, none⟩) (some ⟨g, 0, none⟩) (M - n) (M - n) n M ?b1 ?b2 g n (List.replicate M (Value.int .i64 0)) 3 hgw (List.replicate k (Value.int .i64 0)) ?b3 ?b4 ?b5 ?b6 g w' hbw.drew (Nat.le_refl _) ?b7)
      case b1 => go_simp; omega
      case b2 => go_simp
      case b3 => rw [List.length_replicate]; exact hk.symm
      case b4 => exact fun _ => ⟨rfl, _, rfl, fun j v hj => by rw [Addr.add_lit, Nat.zero_add]; exact hsrc j v hj⟩
      case b5 => rw [List.length_replicate, List.length_replicate]; omega
      case b6 => intro v hv; rw [List.mem_replicate] at hv; rw [hv.2]; rfl
      case b7 =>
        intro w4 hg4 hb4
        have hg5 : w4.heap[g]? = some (.cells (List.replicate M (Value.int .i64 0)).toArray 3 (0, 0)) := by
          have h6 := hg4.out
          rw [splice_rep _ _ _ _ (by omega)] at h6
          exact h6
        have HN := Lib.hid (show w4.heap[g]? = some (.cells (List.replicate M (Value.int .i64 0)).toArray 3 (0, 0)) ∧ Below g w' w4 from ⟨hg5, hb4⟩)
        rw [List.length_replicate]
        refine ⟨hb4, ?_⟩
        clear hg4 hg5 hsrc hgw HW
        (refine anyH_takeS (i := 8) rfl (by kernel_rfl) (fun _ _ _ _ h => h) hb4 (fun K hK => ?_); go_simp; refine ⟨_, fun _ _ => rfl, hK _ ?_⟩; clear hK K); (refine anyH_takeS (i := 9) rfl (by kernel_rfl) (fun _ _ _ _ h => h) hb4 (fun K hK => ?_); go_simp; refine ⟨_, fun _ _ => rfl, hK _ ?_⟩; clear hK K)
        refine wpAnyH_done (by kernel_rfl) ?_ _
        clear hb4 hbw hk
        go_wp2
        go_roundw
        case rel => exact ⟨n + k, by omega, by omega, by push_cast; rfl, HN⟩
        case measure => simp [intOf]; omega
    · obtain rfl : n = M := by omega
      have dn : decide ((n : Int) < (n : Int)) = false := by simp
      have hrow : wr.rowIs g 3 n (fun _ => .int .i64 0) := ⟨_, HW.out.1, by simp, fun i hi => by simp [hi]⟩
      have HR := Lib.hid hrow
      have HBW := Lib.hid HW.out.2
      clear hrow HW
      go_wp2
      go_ret
      rw [HGG.out]
      exact ⟨rfl, HR.out, HBW.out⟩
end Go.Proofs.Ytdaacjaibfcacaa

namespace Go.Proofs.Ytdaacjaibfcacaa
open Go.RowKit
set_option linter.unusedVariables false
set_option linter.unusedSimpArgs false
open Z (torN place pnt Mv To lin okT nrm keepB colP idm md redM movdL)
def chtF (g w h : Int) (v : Value) : Nat → Value := fun j => if j = 0 then .int .i64 g else if j = 1 then .int .i64 w else if j = 2 then .int .i64 h else v
theorem chtF_alloc (w : World) (g a b : Int) (A : Option Addr) (k c : Nat) : (w.alloc (.cells #[.int .i64 g, .int .i64 a, .int .i64 b, .slice A k c] 36)).rowIs w.heap.size 36 4 (chtF g a b (.slice A k c)) := by
  refine World.rowIs_alloc w #[.int .i64 g, .int .i64 a, .int .i64 b, .slice A k c] 36 _ ?_
  intro i hi
  have hi3 : i = 0 ∨ i = 1 ∨ i = 2 ∨ i = 3 := by simp at hi; omega
  rcases hi3 with rfl | rfl | rfl | rfl <;> rfl
/-- A chart on its torus, and what is wrong. -/
def MdPost (g N M : Int) (m : Nat) (L : List Int) (e : Int) (w : World) (r : Ending) (w' : World) : Prop := (∃ A C, r = .returned (.tuple #[.agg #[.int .i64 (g), .int .i64 (N), .int .i64 (M), .slice A m C], .int .i64 (e)]) ∧ IsInts w' A m L) ∧ Below w.heap.size w w'
theorem ints_nil (w : World) : IsInts w none 0 [] := ⟨rfl, fun h => absurd h (by omega)⟩
set_option maxRecDepth 100000 in
set_option maxHeartbeats 8000000 in
theorem Moved_bad (G W H : Int) (a : Option Addr) (n c : Nat) (cs : List Int) (t : Int) (f : Bool) (ox oy : Int) (w : World) (hI : IsInts w a n cs) (e : Int) (hT : TorBad e (.agg #[.int .i64 (G), .int .i64 (W), .int .i64 (H), .slice a n c]) a n cs) :
    Calls Try.prog 45 #[.agg #[.int .i64 (G), .int .i64 (W), .int .i64 (H), .slice a n c], .agg #[.int .i64 (t), .bool (f), .int .i64 (ox), .int .i64 (oy)]] w (MdPost 0 0 0 0 [] e w) ∧ Calls Try.prog 46 #[.agg #[.int .i64 (G), .int .i64 (W), .int .i64 (H), .slice a n c], .agg #[.int .i64 (t), .bool (f), .int .i64 (ox), .int .i64 (oy)]] w (MdPost 0 0 0 0 [] e w) := by
  have hb : (e != 0) = true := by simpa using hT.1
  have HL := Lib.hid (fun w hI => laid_bad G W H a n c cs w hI e hT.1 hT.2.1)
  have HR := Lib.hid hT.2.2
  have HI := Lib.hid hI
  clear hI hT
  constructor
  · go_enter Try.func45, Try.ntmps45
    (go_wp2_with fail; refine (HL.out _ (HI.out.below (by repeat (first | exact Below.refl _ _ | refine Below.drew ?_ | refine below_drewN ?_ _ | refine Below.alloc ?_ (by first | exact Nat.le_refl _ | (simp; done) | (simp; omega) | omega) _ | refine Below.setCell ?_ (by first | exact Nat.le_refl _ | (simp; done) | (simp; omega) | omega) _ | refine bExtW ?_ (by first | exact Nat.le_refl _ | (simp; done) | (simp; omega) | omega) | refine Below.trans ?_ (Below.mono (by assumption) (by first | exact Nat.le_refl _ | (simp; done) | (simp; omega) | omega)))))).mono ?_; rintro r w1 ⟨rfl, hb⟩; obtain ⟨E, d, rfl⟩ := bExt hb; clear hb)
    go_wp2
    refine bodyPost_ret (v := .tuple #[.agg #[.int .i64 (0), .int .i64 (0), .int .i64 (0), .slice none 0 0], .int .i64 (e)]) (by simp [results, Try.results45, go_sem]) rfl ⟨⟨none, 0, rfl, ints_nil _⟩, (by repeat (first | exact Below.refl _ _ | refine Below.drew ?_ | refine below_drewN ?_ _ | refine Below.alloc ?_ (by first | exact Nat.le_refl _ | (simp; done) | (simp; omega) | omega) _ | refine Below.setCell ?_ (by first | exact Nat.le_refl _ | (simp; done) | (simp; omega) | omega) _ | refine bExtW ?_ (by first | exact Nat.le_refl _ | (simp; done) | (simp; omega) | omega) | refine Below.trans ?_ (Below.mono (by assumption) (by first | exact Nat.le_refl _ | (simp; done) | (simp; omega) | omega))))⟩
  · go_enter Try.func46, Try.ntmps46
    (go_wp2_with fail; refine (HR.out _ (HI.out.below (by repeat (first | exact Below.refl _ _ | refine Below.drew ?_ | refine below_drewN ?_ _ | refine Below.alloc ?_ (by first | exact Nat.le_refl _ | (simp; done) | (simp; omega) | omega) _ | refine Below.setCell ?_ (by first | exact Nat.le_refl _ | (simp; done) | (simp; omega) | omega) _ | refine bExtW ?_ (by first | exact Nat.le_refl _ | (simp; done) | (simp; omega) | omega) | refine Below.trans ?_ (Below.mono (by assumption) (by first | exact Nat.le_refl _ | (simp; done) | (simp; omega) | omega)))))).mono ?_; rintro r w1 ⟨rfl, hb⟩; obtain ⟨E, d, rfl⟩ := bExt hb; clear hb)
    go_wp2
    refine bodyPost_ret (v := .tuple #[.agg #[.int .i64 (0), .int .i64 (0), .int .i64 (0), .slice none 0 0], .int .i64 (e)]) (by simp [results, Try.results46, go_sem]) rfl ⟨⟨none, 0, rfl, ints_nil _⟩, (by repeat (first | exact Below.refl _ _ | refine Below.drew ?_ | refine below_drewN ?_ _ | refine Below.alloc ?_ (by first | exact Nat.le_refl _ | (simp; done) | (simp; omega) | omega) _ | refine Below.setCell ?_ (by first | exact Nat.le_refl _ | (simp; done) | (simp; omega) | omega) _ | refine bExtW ?_ (by first | exact Nat.le_refl _ | (simp; done) | (simp; omega) | omega) | refine Below.trans ?_ (Below.mono (by assumption) (by first | exact Nat.le_refl _ | (simp; done) | (simp; omega) | omega))))⟩
set_option maxRecDepth 100000 in
set_option maxHeartbeats 8000000 in
theorem Moved_wrong (G W H n N : Nat) (a : Option Addr) (c : Nat) (cs : List Int) (t : Int) (f : Bool) (ox oy : Int) (w : World) (hI : IsInts w a n cs) (h : ChOk G W H n cs) (hN : torN W H = N) (h24 : N ≤ 24) (ht : (-9223372036854775808 ≤ t ∧ t ≤ 9223372036854775807)) (h0 : (-9223372036854775808 ≤ ox ∧ ox ≤ 9223372036854775807)) (h1 : (-9223372036854775808 ≤ oy ∧ oy ≤ 9223372036854775807)) (he : wE G t ox oy ≠ 0) :
    Calls Try.prog 45 #[.agg #[.int .i64 (G), .int .i64 (W), .int .i64 (H), .slice a n c], .agg #[.int .i64 (t), .bool (f), .int .i64 (ox), .int .i64 (oy)]] w (MdPost 0 0 0 0 [] (wE G t ox oy) w) ∧ Calls Try.prog 46 #[.agg #[.int .i64 (G), .int .i64 (W), .int .i64 (H), .slice a n c], .agg #[.int .i64 (t), .bool (f), .int .i64 (ox), .int .i64 (oy)]] w (MdPost 0 0 0 0 [] (wE G t ox oy) w) := by
  obtain ⟨M, hM⟩ : ∃ M, N * N = M := ⟨_, rfl⟩
  have hgw : (-9223372036854775808 ≤ (G : Int) ∧ (G : Int) ≤ 9223372036854775807) := by have := h.g; omega
  have HL := Lib.hid (fun w hI => laid_ok G W H n N M a c cs w hI h hN h24 hM)
  have HT := Lib.hid (torOk (a := a) (c := c) h hN h24).2
  have HW := Lib.hid (fun w => Wrong_any G t ox oy f w hgw ht h0 h1)
  have HWR := Lib.hid (fun w => rWrong_any G t ox oy f w hgw ht h0 h1)
  have hb : (wE G t ox oy != 0) = true := by simpa using he
  have HI := Lib.hid hI
  generalize wE G t ox oy = e at *
  clear hI hN hM h he ht h0 h1 hgw
  constructor
  · go_enter Try.func45, Try.ntmps45
    go_wp2_with fail
    refine (HL.out _ (HI.out.below (by repeat (first | exact Below.refl _ _ | refine Below.drew ?_ | refine below_drewN ?_ _ | refine Below.alloc ?_ (by first | exact Nat.le_refl _ | (simp; done) | (simp; omega) | omega) _ | refine Below.setCell ?_ (by first | exact Nat.le_refl _ | (simp; done) | (simp; omega) | omega) _ | refine bExtW ?_ (by first | exact Nat.le_refl _ | (simp; done) | (simp; omega) | omega) | refine Below.trans ?_ (Below.mono (by assumption) (by first | exact Nat.le_refl _ | (simp; done) | (simp; omega) | omega)))))).mono ?_
    rintro r w2 ⟨⟨A, C, rfl, hA⟩, hb2⟩
    obtain ⟨E, d, rfl⟩ := bExt hb2
    clear hA hb2
    (go_wp2_with fail; refine (HW.out _).mono ?_; rintro r w1 ⟨rfl, hb⟩; obtain ⟨E, d, rfl⟩ := bExt hb; clear hb)
    go_wp2
    refine bodyPost_ret (v := .tuple #[.agg #[.int .i64 (0), .int .i64 (0), .int .i64 (0), .slice none 0 0], .int .i64 (e)]) (by simp [results, Try.results45, go_sem]) rfl ⟨⟨none, 0, rfl, ints_nil _⟩, (by repeat (first | exact Below.refl _ _ | refine Below.drew ?_ | refine below_drewN ?_ _ | refine Below.alloc ?_ (by first | exact Nat.le_refl _ | (simp; done) | (simp; omega) | omega) _ | refine Below.setCell ?_ (by first | exact Nat.le_refl _ | (simp; done) | (simp; omega) | omega) _ | refine bExtW ?_ (by first | exact Nat.le_refl _ | (simp; done) | (simp; omega) | omega) | refine Below.trans ?_ (Below.mono (by assumption) (by first | exact Nat.le_refl _ | (simp; done) | (simp; omega) | omega))))⟩
  · go_enter Try.func46, Try.ntmps46
    (go_wp2_with fail; refine (HT.out _ (HI.out.below (by repeat (first | exact Below.refl _ _ | refine Below.drew ?_ | refine below_drewN ?_ _ | refine Below.alloc ?_ (by first | exact Nat.le_refl _ | (simp; done) | (simp; omega) | omega) _ | refine Below.setCell ?_ (by first | exact Nat.le_refl _ | (simp; done) | (simp; omega) | omega) _ | refine bExtW ?_ (by first | exact Nat.le_refl _ | (simp; done) | (simp; omega) | omega) | refine Below.trans ?_ (Below.mono (by assumption) (by first | exact Nat.le_refl _ | (simp; done) | (simp; omega) | omega)))))).mono ?_; rintro r w1 ⟨rfl, hb⟩; obtain ⟨E, d, rfl⟩ := bExt hb; clear hb)
    (go_wp2_with fail; refine (HWR.out _).mono ?_; rintro r w1 ⟨rfl, hb⟩; obtain ⟨E, d, rfl⟩ := bExt hb; clear hb)
    go_wp2
    refine bodyPost_ret (v := .tuple #[.agg #[.int .i64 (0), .int .i64 (0), .int .i64 (0), .slice none 0 0], .int .i64 (e)]) (by simp [results, Try.results46, go_sem]) rfl ⟨⟨none, 0, rfl, ints_nil _⟩, (by repeat (first | exact Below.refl _ _ | refine Below.drew ?_ | refine below_drewN ?_ _ | refine Below.alloc ?_ (by first | exact Nat.le_refl _ | (simp; done) | (simp; omega) | omega) _ | refine Below.setCell ?_ (by first | exact Nat.le_refl _ | (simp; done) | (simp; omega) | omega) _ | refine bExtW ?_ (by first | exact Nat.le_refl _ | (simp; done) | (simp; omega) | omega) | refine Below.trans ?_ (Below.mono (by assumption) (by first | exact Nat.le_refl _ | (simp; done) | (simp; omega) | omega))))⟩
theorem movdL_succ {W H n : Nat} {cs : List Int} {g : Int} (m : Mv) (k : Nat) : movdL W H cs g n m (k + 1) = (movdL W H cs g n m k).set (place n (To g m (pnt n k))) (colP W H cs (pnt n k)) := rfl
theorem movdL_zero {W H n : Nat} {cs : List Int} {g : Int} (m : Mv) : movdL W H cs g n m 0 = List.replicate (n * n) 0 := rfl
/-- What lies in memory while a pattern is moved: the chart that is made, its cells. -/
structure MS (ob gb : Nat) (W0 : World) (g N : Int) (M : Nat) (L : List Int) (w : World) : Prop where
  o : w.rowIs ob 36 4 (chtF g N N (.slice (some ⟨gb, 0, none⟩) M M))
  c : w.rowIs gb 3 M (fun j => .int .i64 (L.getD j 0))
  ll : L.length = M
  lo : W0.heap.size ≤ gb
  bel : Below W0.heap.size W0 w
theorem MS.grow {ob gb M : Nat} {W0 w w' : World} {g N : Int} {L : List Int} (h : MS ob gb W0 g N M L w) (hb : Below w.heap.size w w') : MS ob gb W0 g N M L w' :=
  ⟨rowBelow h.o hb h.o.lt, rowBelow h.c hb h.c.lt, h.ll, h.lo, h.bel.trans (hb.mono h.bel.size)⟩
theorem MS.put {ob gb M : Nat} {W0 w : World} {g N : Int} {L : List Int} (h : MS ob gb W0 g N M L w) {i : Nat} (hi : i < M) (v : Int) : MS ob gb W0 g N M (L.set i v) (w.setCell ⟨gb, i, none⟩ (.int .i64 v)) :=
  ⟨h.o.setOther (a := ⟨gb, i, none⟩) (row_ne h.o h.c (by decide)) _, (h.c.set i _).congr fun j hj => by
    show (if j = i then Value.int .i64 v else .int .i64 (L.getD j 0)) = .int .i64 ((L.set i v).getD j 0)
    rw [getD_set L i j v (by rw [h.ll]; exact hi)]
    split <;> rfl, by rw [List.length_set]; exact h.ll, h.lo, h.bel.setCell (p := ⟨gb, i, none⟩) h.lo _⟩
theorem MS.ints {ob gb M : Nat} {W0 w : World} {g N : Int} {L : List Int} (h : MS ob gb W0 g N M L w) : IsInts w (some ⟨gb, 0, none⟩) M L :=
  ⟨h.ll, fun _ => ⟨gb, 0, rfl, h.c.lt, fun j hj => by rw [Nat.zero_add]; exact h.c.cell hj⟩⟩
end Go.Proofs.Ytdaacjaibfcacaa
