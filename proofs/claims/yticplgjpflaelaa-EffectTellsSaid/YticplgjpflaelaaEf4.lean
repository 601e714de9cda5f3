/- Lemmas and contracts of functions (what each call returns, and that it changes nothing that was there) that the proof of a law of this seat uses; each lemma states its own conditions. -/
import Derived.Test.YticplgjpflaelaaEf3
import Derived.Lib.AppendZeros
namespace Go.Proofs.Yticplgjpflaelaa
open Go.RowKit
set_option linter.unusedVariables false
set_option linter.unusedSimpArgs false
/-- slices.Grow of nil. -/
def GrowPost (w : World) (r : Ending) (w' : World) : Prop := ∃ C, r = .returned (.slice (some ⟨w.heap.size, 0, none⟩) 0 C) ∧ w'.ownsRow w.heap.size 3 1 (.slice (some ⟨w.heap.size, 0, none⟩) 0 C) 0 [] ∧ Below w.heap.size w w'
theorem own_zeros (w : World) (n : Nat) (hn : n ≤ 1000) : (w.drew.alloc (.cells (Builtin.zeroCells (Value.cells (.int .i64 0)) n ++ Builtin.zeroCells (Value.cells (.int .i64 0)) (grownCap w n 0 3 - n)) 3)).ownsRow w.heap.size 3 1 (.slice (some ⟨w.heap.size, 0, none⟩) 0 (grownCap w n 0 3)) 0 [] := by
  have hge := grownCap_ge w n 0 3
  have hcm := grownCap_le_maxLen w n 0 3 (by unfold maxLen; omega)
  refine own_mk rfl (Nat.le_refl _) (Nat.zero_le _) hcm (heap_alloc_new w.drew _) ?_ rfl
  rw [Array.size_append, size_zeroCells, size_zeroCells]
  show n * 1 + (grownCap w n 0 3 - n) * 1 = _
  omega
theorem slice_nil0 : ∀ w, (Instr.slice 37 (.slice none 0 0) none (some (.int .i64 (0))) none).run Try.prog w = .ok (.slice none 0 0) w := by
  intro w
  rw [run_slice_h (P := Try.prog) w 37 none 0 0 (by kernel_rfl) .i64 0 (by omega) (by omega)]
  have hsz : (sizeOf (Try.prog.elem 37)).run Try.prog w = .ok 1 w := by go_simp
  rw [hsz]
  rfl
theorem slice_to0 (g n c : Nat) : ∀ w, (Instr.slice 37 (.slice (some ⟨g, 0, none⟩) n c) none (some (.int .i64 (0))) none).run Try.prog w = .ok (.slice (some ⟨g, 0, none⟩) 0 c) w := by
  intro w
  rw [run_slice_h (P := Try.prog) w 37 (some ⟨g, 0, none⟩) n c (by kernel_rfl) .i64 0 (by omega) (by omega)]
  have hsz : (sizeOf (Try.prog.elem 37)).run Try.prog w = .ok 1 w := by go_simp
  rw [hsz]
  simp [Result.andThen, sliced, Addr.add_lit]
set_option maxRecDepth 100000 in
set_option maxHeartbeats 8000000 in
theorem grow_nil (n : Nat) (w : World) (h0 : 1 ≤ n) (hn : n ≤ 1000) : Calls Try.prog 88 #[.slice none 0 0, .int .i64 (n)] w (GrowPost w) := by
  have hi : ∃ i, Try.prog.info? 3 = some i ∧ i.zero = some (.int .i64 0) ∧ i.size = 1 ∧ i.bytes = 8 := by
    obtain ⟨i0, hi, hz0, hz1, hz2⟩ := info_parts okI8.2.1
    exact ⟨i0, hi, hz0, hz1, hz2⟩
  obtain ⟨i0, hi, hz0, hz1, hz2⟩ := hi
  obtain ⟨capF, wzF, hrz, hpr⟩ : ∃ (capF : World → Nat) (wzF : World → World), (∀ (w : World) (ty : TypeId), (Builtin.append_ #[37, 3] ty #[.slice none 0 0, .int .i64 (n : Int)]).run Try.prog w = .ok (.slice (some ⟨w.heap.size, 0, none⟩) n (capF w)) (wzF w)) ∧
      ∀ w : World, (wzF w).ownsRow w.heap.size 3 1 (.slice (some ⟨w.heap.size, 0, none⟩) 0 (capF w)) 0 [] ∧ Below w.heap.size w (wzF w) :=
    ⟨fun w => grownCap w n 0 3, fun w => w.drew.alloc (.cells (Builtin.zeroCells (Value.cells (.int .i64 0)) n ++ Builtin.zeroCells (Value.cells (.int .i64 0)) (grownCap w n 0 3 - n)) 3),
      fun w ty => Go.Lib.run_append_nil_zeros w 37 3 ty 3 i0 (.int .i64 0) .i64 .i64 Try.underlying37 Try.underlying3 hi hz0 n h0 (by omega) (by omega) (by rw [hz2]; omega),
      fun w => ⟨own_zeros w n hn, (Below.refl _ _).drew.alloc (Nat.le_refl _) _⟩⟩
  have HRZ := Lib.hid hrz
  have HPR := Lib.hid (hpr w)
  clear hrz hpr
  have hsn := slice_nil0
  have hst := slice_to0
  clear hi hz0 hz1 hz2
  go_enter Try.func88, Try.ntmps88
  go_wp2_with (at_builtin; refine Go.Lib.wpList_append_run _ rfl (.tmp 20) (.tmp 21) 37 3 rfl _ _ rfl rfl _ _ (HRZ.out _ _) ?_)
  go_wp2
  go_ret
  exact ⟨_, rfl, HPR.out.1, HPR.out.2⟩
set_option maxRecDepth 100000 in
set_option maxHeartbeats 8000000 in
theorem concat_two (b : Nat) (a1 : Option Addr) (n1 c1 : Nat) (l1 : List Int) (a2 : Option Addr) (n2 c2 : Nat) (l2 : List Int) (w : World) (h0 : w.cell? ⟨b, 0, none⟩ = some (.slice a1 n1 c1)) (h1 : w.cell? ⟨b, 1, none⟩ = some (.slice a2 n2 c2)) (lb : b < w.heap.size)
    (hI1 : IsInts w a1 n1 l1) (hI2 : IsInts w a2 n2 l2) (hz1 : a1 = none → c1 = 0) (hz2 : a2 = none → c2 = 0) (hn : 1 ≤ n1 + n2) (hn1 : n1 ≤ 400) (hn2 : n2 ≤ 400) :
    Calls Try.prog 82 #[.slice (some ⟨b, 0, none⟩) 2 2] w (IPost (l1 ++ l2) w) := by
  have HI1 := Lib.hid hI1; have HI2 := Lib.hid hI2; have HZ1 := Lib.hid hz1; have HZ2 := Lib.hid hz2
  have HG := Lib.hid (fun w => grow_nil (n1 + n2) w hn (by omega))
  have H0 := Lib.hid h0; have H1 := Lib.hid h1
  have lb' : LtW b w := lb
  clear hI1 hI2 hz1 hz2
  go_enter Try.func82, Try.ntmps82
  go_wp2_with fail
  go_loopw [3, 11] (fun sv iv wr => ∃ k : Nat, k ≤ 2 ∧ iv = .int .i64 k ∧ sv = .int .i64 ((if k = 0 then 0 else if k = 1 then n1 else n1 + n2 : Nat)) ∧ wr = w) (fun _ iv _ => 2 - (intOf iv).toNat)
  case atStart => exact ⟨0, by omega, rfl, rfl, rfl⟩
  case round =>
    obtain ⟨k, hk, rfl, rfl, rfl⟩ := hrel
    have hk3 : k = 0 ∨ k = 1 ∨ k = 2 := by omega
    rcases hk3 with rfl | rfl | rfl
    · go_wp2
      go_roundw
      case rel => exact ⟨1, by omega, by go_num, by simp, by first | rfl | trivial⟩
      case measure => simp [intOf]
    · go_wp2
      go_roundw
      case rel => exact ⟨2, by omega, by go_num, by simp, by first | rfl | trivial⟩
      case measure => simp [intOf]
    · go_wp2_with fail
      obtain ⟨wo, hwo⟩ : ∃ wo : World, wo = wr := ⟨_, rfl⟩
      subst hwo
      refine (HG.out _).mono ?_
      rintro r w1 ⟨C, rfl, ho, hb⟩
      have HI1' := Lib.hid (HI1.out.below hb); have HI2' := Lib.hid (HI2.out.below hb)
      have d0 := bCs hb H0.out
      have d1 := bCs hb H1.out
      have hs1 := hb.size
      have lb1 : LtW b w1 := Nat.lt_of_lt_of_le lb hs1
      have HO := Lib.hid ho; have HB := Lib.hid hb
      clear ho hb h0 h1
      go_wp2_with fail
      go_loopw [6, 27] (fun nv iv w2 => ∃ (k : Nat) (A : Option Addr) (cp : Nat), k ≤ 2 ∧ iv = .int .i64 k ∧ nv = .slice A (if k = 0 then 0 else if k = 1 then n1 else n1 + n2) cp ∧ w2.ownsRow wo.heap.size 3 1 (.slice A (if k = 0 then 0 else if k = 1 then n1 else n1 + n2) cp) (if k = 0 then 0 else if k = 1 then n1 else n1 + n2) ((if k = 0 then [] else if k = 1 then l1 else l1 ++ l2).map i64v) ∧ Below wo.heap.size wo w2) (fun _ iv _ => 2 - (intOf iv).toNat)
      case atStart => exact ⟨0, _, C, by omega, rfl, rfl, HO.out, HB.out⟩
      case round =>
        obtain ⟨k, A, cp, hk, rfl, rfl, hown, hbel⟩ := hrel
        have c0 := bCs hbel H0.out
        have c1' := bCs hbel H1.out
        have hsw := hbel.size
        have lbw : LtW b wr := Nat.lt_of_lt_of_le lb hsw
        have HOW := Lib.hid hown; have HBE := Lib.hid hbel
        clear hown hbel d0 d1 lb1 lb'
        have hk3 : k = 0 ∨ k = 1 ∨ k = 2 := by omega
        rcases hk3 with rfl | rfl | rfl
        · simp only [if_pos, if_true] at HOW ⊢
          go_wp2_with (at_builtin; refine wpAppV okI8 rfl (.tmp 31) (.tmp 32) rfl wo.heap.size _ 0 [] a1 n1 c1 (l1.map i64v) rfl HOW.out rfl HZ1.out (by rw [List.length_map]; exact HI1.out.1) (ints_cells (HI1.out.below HBE.out)) (ints_one l1) (by omega) (by omega) hsw ?_)
          intro v' w2 hown2 hg2 hat2
          have hb2 := belowGrown hg2 hsw (fun k hk => (HOW.out.lt k hk).1)
          obtain ⟨A', cp', rfl⟩ := own_form hown2
          have HO2 := Lib.hid hown2; have HB2 := Lib.hid (HBE.out.trans hb2)
          clear hown2 hg2 hat2 hb2
          go_wp2
          go_roundw
          case rel => exact ⟨1, A', cp', by omega, by go_num, by simp, by have := HO2.out; simpa using this, HB2.out⟩
          case measure => simp [intOf]
        · simp only [show ¬ (1 = 0) by omega, if_true, if_false] at HOW ⊢
          go_wp2_with (at_builtin; refine wpAppV okI8 rfl (.tmp 31) (.tmp 32) rfl wo.heap.size _ n1 (l1.map i64v) a2 n2 c2 (l2.map i64v) rfl HOW.out rfl HZ2.out (by rw [List.length_map]; exact HI2.out.1) (ints_cells (HI2.out.below HBE.out)) (ints_one l2) (by omega) (by omega) hsw ?_)
          intro v' w2 hown2 hg2 hat2
          have hb2 := belowGrown hg2 hsw (fun k hk => (HOW.out.lt k hk).1)
          obtain ⟨A', cp', rfl⟩ := own_form hown2
          have HO2 := Lib.hid hown2; have HB2 := Lib.hid (HBE.out.trans hb2)
          clear hown2 hg2 hat2 hb2
          go_wp2
          go_roundw
          case rel => exact ⟨2, A', cp', by omega, by go_num, by simp, by have := HO2.out; simpa [List.map_append] using this, HB2.out⟩
          case measure => simp [intOf]
        · simp only [show ¬ (2 = 0) by omega, show ¬ (2 = 1) by omega, if_false] at HOW ⊢
          have HL : Hid ((l1 ++ l2).length = n1 + n2) := Lib.hid (by rw [List.length_append, HI1.out.1, HI2.out.1])
          go_wp2
          go_ret
          unfold IPost
          rw [HL.out]
          exact ⟨A, cp, rfl, HOW.out, HBE.out⟩
end Go.Proofs.Yticplgjpflaelaa
