/- Lemmas and contracts of functions (what each call returns, and that it changes nothing that was there) that the proof of a law of this seat uses; each lemma states its own conditions. -/
import Derived.Test.YtpmecoojhjopcaaCdM
import Derived.Test.YtpmecoojhjopcaaQ1
namespace Go.Proofs.Ytpmecoojhjopcaa
open Go.RowKit
set_option linter.unusedVariables false
set_option linter.unusedSimpArgs false

/-- A list of bytes in memory. -/
def IsB8 (w : World) (a : Option Addr) (n : Nat) (l : List Nat) : Prop :=
  l.length = n ∧ (0 < n → ∃ b o, a = some ⟨b, o, none⟩ ∧ b < w.heap.size ∧ ∀ j, j < n → w.cell? ⟨b, o + j, none⟩ = some (.int .u8 (l.getD j 0 : Nat)))
theorem IsB8.below {w w' : World} {a : Option Addr} {n : Nat} {l : List Nat} (h : IsB8 w a n l) (hb : Below w.heap.size w w') : IsB8 w' a n l := by
  refine ⟨h.1, fun hn => ?_⟩
  obtain ⟨b, o, h1, h2, h3⟩ := h.2 hn
  exact ⟨b, o, h1, Nat.lt_of_lt_of_le h2 hb.size, fun j hj => bCs hb (h3 j hj)⟩
theorem u8_nat (n : Nat) : IntKind.u8.wrap (n : Int) = ((n % 256 : Nat) : Int) := by rw [IntKind.wrap_u8]; omega
theorem take_sum {l : List Nat} {k : Nat} (hk : k < l.length) : (l.take (k+1)).sum = (l.take k).sum + l.getD k 0 := by
  rw [List.take_add_one, List.sum_append]; simp [List.getD, hk]
set_option maxRecDepth 100000 in
set_option maxHeartbeats 8000000 in
theorem sum_any (a : Option Addr) (n c : Nat) (l : List Nat) (w : World) (hi : IsB8 w a n l) (hn : n ≤ 9223372036854775807) (hl : ∀ x ∈ l, x < 256) :
    Calls Try.prog 23 #[.slice a n c] w fun e w' => e = .returned (.int .u8 ((l.sum % 256 : Nat))) ∧ Below w.heap.size w w' := by
  have HI := Lib.hid hi; have HL := Lib.hid hi.1; have HB := Lib.hid hl
  clear hi hl
  go_enter Try.func23, Try.ntmps23
  go_wp2_with fail
  go_loopw [8, 3] (fun i m wr => ∃ k : Nat, k ≤ n ∧ i = .int .i64 k ∧ m = .int .u8 (((l.take k).sum % 256 : Nat)) ∧ Below w.heap.size w wr) (fun i _ _ => n - (intOf i).toNat)
  case atStart => exact ⟨0, Nat.zero_le _, rfl, rfl, Below.refl _ _⟩
  case round =>
    obtain ⟨k, hk, rfl, rfl, hbel⟩ := hrel
    have HBL := Lib.hid hbel
    by_cases hkn : k < n
    · obtain ⟨b, o, rfl, hb, hc⟩ := (HI.out.below hbel).2 (by omega)
      have c0 := hc k hkn
      have lb : LtW b wr := hb
      have hx : l.getD k 0 < 256 := HB.out _ (getD_memN (by rw [HL.out]; exact hkn))
      have HS := Lib.hid (take_sum (l := l) (k := k) (by rw [HL.out]; exact hkn))
      obtain ⟨x, hxe⟩ : ∃ x, l.getD k 0 = x := ⟨_, rfl⟩
      rw [hxe] at c0 hx HS
      obtain ⟨s, hs⟩ : ∃ s, (l.take k).sum % 256 = s := ⟨_, rfl⟩
      have hs2 : s < 256 := by omega
      have HSE := Lib.hid hs
      rw [hs]
      have v1 : IntKind.u8.wrap ((s : Int) + (x : Int)) = (((s + x) % 256 : Nat) : Int) := by rw [← Int.natCast_add, u8_nat]
      clear hc hb hxe hs hbel
      go_wp2
      go_roundw
      case rel => exact ⟨k + 1, by omega, by go_num, by rw [HS.out, Nat.add_mod, HSE.out, Nat.mod_eq_of_lt hx]; rfl, HBL.out⟩
      case measure => simp [intOf]; omega
    · obtain rfl : n = k := by omega
      have HT : Hid (l.take n = l) := Lib.hid (List.take_of_length_le (by rw [HL.out]; exact Nat.le_refl _))
      go_wp2
      go_ret
      exact ⟨by rw [HT.out]; rfl, HBL.out⟩
theorem or8 : ∀ b0 b1 b2 b3 b4 b5 b6 b7 : Bool, ∀ k : Fin 8, [b0, b1, b2, b3, b4, b5, b6, b7].getD k.val false = false →
    (128 * b0.toNat + 64 * b1.toNat + 32 * b2.toNat + 16 * b3.toNat + 8 * b4.toNat + 4 * b5.toNat + 2 * b6.toNat + b7.toNat) ||| (128 / 2 ^ k.val) =
      128 * (b0 || k.val == 0).toNat + 64 * (b1 || k.val == 1).toNat + 32 * (b2 || k.val == 2).toNat + 16 * (b3 || k.val == 3).toNat + 8 * (b4 || k.val == 4).toNat + 4 * (b5 || k.val == 5).toNat + 2 * (b6 || k.val == 6).toNat + (b7 || k.val == 7).toNat := by decide +kernel
theorem byt_congr {f g : Nat → Bool} {j : Nat} (h : ∀ k, k < 8 → f (8*j+k) = g (8*j+k)) : byt f j = byt g j := by
  unfold byt
  have h0 := h 0 (by omega)
  rw [Nat.add_zero] at h0
  rw [h0, h 1 (by omega), h 2 (by omega), h 3 (by omega), h 4 (by omega), h 5 (by omega), h 6 (by omega), h 7 (by omega)]
theorem byt_or {f g : Nat → Bool} {j k : Nat} (hk : k < 8) (hf : f (8*j+k) = false) (hg : ∀ i, g i = (f i || i == 8*j+k)) : byt f j ||| (128 / 2 ^ k) = byt g j := by
  have h := or8 (f (8*j)) (f (8*j+1)) (f (8*j+2)) (f (8*j+3)) (f (8*j+4)) (f (8*j+5)) (f (8*j+6)) (f (8*j+7)) ⟨k, hk⟩
  have hk8 : k = 0 ∨ k = 1 ∨ k = 2 ∨ k = 3 ∨ k = 4 ∨ k = 5 ∨ k = 6 ∨ k = 7 := by omega
  have e : ∀ i, i < 8 → (8*j+i == 8*j+k) = (k == i) := fun i _ => by
    by_cases h : k = i
    · subst h; simp
    · rw [beq_eq_false_iff_ne.2 (by omega), beq_eq_false_iff_ne.2 h]
  refine Eq.trans (h ?_) ?_
  · rcases hk8 with rfl | rfl | rfl | rfl | rfl | rfl | rfl | rfl <;> exact hf
  · unfold byt
    have e0 := e 0 (by omega)
    rw [Nat.add_zero] at e0
    rw [hg, hg, hg, hg, hg, hg, hg, hg, e0, e 1 (by omega), e 2 (by omega), e 3 (by omega), e 4 (by omega), e 5 (by omega), e 6 (by omega), e 7 (by omega)]
theorem BelowX.extB {base mb : Nat} {W w : World} (h : BelowX base mb W w) (E : Array Obj) (d : Nat) : BelowX base mb W (extW w E d) :=
  have hb : Below w.heap.size w (extW w E d) := bExtW (Below.refl _ _) (Nat.le_refl _)
  ⟨hb.os.trans h.os, hb.tape.trans h.tape, hb.output.trans h.output, Nat.le_trans h.size hb.size, fun k hk hkm => (hb.block k (Nat.lt_of_lt_of_le hk h.size)).trans (h.block k hk hkm)⟩
def BytesPost (L : List Nat) (w : World) (r : Ending) (w' : World) : Prop := ∃ g, r = .returned (.slice (some ⟨g, 0, none⟩) L.length L.length) ∧ IsB8 w' (some ⟨g, 0, none⟩) L.length L ∧ Below w.heap.size w w' ∧ w.heap.size ≤ g
theorem okB8 : ElemOk 46 5 1 1 (.int .u8 0) := ⟨Try.underlying46, by kernel_rfl, rfl, by omega⟩
set_option maxRecDepth 100000 in
set_option maxHeartbeats 8000000 in
theorem punched_any (a : Option Addr) (n c : Nat) (r : List Bool) (w : World) (hi : IsBools w a n r) (hn : n ≤ 64) :
    Calls Try.prog 22 #[.slice a n c] w (BytesPost (punchL r) w) := by
  have hm : (n + 7) / 8 ≤ 8 := by omega
  have hmk := makeRow okB8 rfl ((n + 7) / 8) (by omega) (by omega)
  have HI := Lib.hid hi; have HL := Lib.hid hi.1
  have HM : Hid ((n + 7) / 8 * 8 ≤ n + 7 ∧ n + 7 < (n + 7) / 8 * 8 + 8) := Lib.hid (by omega)
  have v0 : IntKind.i64.wrap ((n : Int) + 7) = (n : Int) + 7 := IntWalk.i64_in _ (by omega)
  have v1 : IntKind.i64.wrap (((n : Int) + 7).tdiv 8) = (((n + 7) / 8 : Nat) : Int) := by rw [IntWalk.i64_quo _ _ (by omega)]; omega
  have v2 : ((n : Int) + 7).tdiv 8 = (((n + 7) / 8 : Nat) : Int) := by rw [Int.tdiv_eq_ediv_of_nonneg (by omega)]; omega
  have v3 : ((n : Int) + 7) / 8 = (((n + 7) / 8 : Nat) : Int) := by omega
  clear hi
  obtain ⟨m, hme⟩ : ∃ m, (n + 7) / 8 = m := ⟨_, rfl⟩
  rw [hme] at hm hmk HM v1 v2 v3
  have HME := Lib.hid hme
  clear hme
  go_enter Try.func22, Try.ntmps22
  go_wp2_with fail
  have hrow0 := World.rowIs_made w (.int .u8 0) m 5
  have hb1 : Below w.heap.size w (w.alloc (.cells (madeCells #[.int .u8 0] m) 5)) := (by repeat (first | exact Below.refl _ _ | refine Below.drew ?_ | refine below_drewN ?_ _ | refine Below.alloc ?_ (by first | exact Nat.le_refl _ | (simp; done) | (simp; omega) | omega) _ | refine Below.setCell ?_ (by first | exact Nat.le_refl _ | (simp; done) | (simp; omega) | omega) _ | refine bExtW ?_ (by first | exact Nat.le_refl _ | (simp; done) | (simp; omega) | omega) | refine Below.trans ?_ (Below.mono (by assumption) (by first | exact Nat.le_refl _ | (simp; done) | (simp; omega) | omega))))
  have hs1 : (w.alloc (.cells (madeCells #[.int .u8 0] m) 5)).heap.size = w.heap.size + 1 := by simp
  generalize w.alloc (.cells (madeCells #[.int .u8 0] m) 5) = W1 at *
  generalize hgb : w.heap.size = gb at *
  have HGB := Lib.hid hgb
  clear hgb
  obtain ⟨base, hbase⟩ : ∃ b, b = W1.heap.size := ⟨_, rfl⟩
  have hord : gb < base := by omega
  have HBS := Lib.hid hbase; have HROW0 := Lib.hid hrow0
  have hB0 : Hid (∀ w', BelowX base gb W1 w' → Below w.heap.size w w') := Lib.hid fun w' h => by
    rw [HGB.out]
    exact hb1.trans ((h.below hbase.symm (Nat.le_refl _) hord).mono (by omega))
  clear hrow0 hb1 hs1 hbase
  go_loopw [13] (fun i wr => ∃ k : Nat, k ≤ n ∧ i = .int .i64 k ∧ wr.rowIs gb 5 m (fun j => .int .u8 ((byt (fun i => decide (i < k) && r.getD i false) j : Nat))) ∧ BelowX base gb W1 wr) (fun i _ => n - (intOf i).toNat)
  case atStart => exact ⟨0, Nat.zero_le _, rfl, HROW0.out.congr fun j hj => by simp [byt], BelowX.refl (by have := HBS.out; omega)⟩
  case round =>
    obtain ⟨k, hk, rfl, hrow, hbx⟩ := hrel
    have hbw := hB0.out _ hbx
    have HBW := Lib.hid hbw
    by_cases hkn : k < n
    · obtain ⟨b, o, rfl, hbl, hc⟩ := (HI.out.below hbw).2 (by omega)
      have c0 := hc k hkn
      have lb : LtW b wr := hbl
      have hkm : k / 8 < m := by have := HM.out; omega
      have cg := hrow.cell hkm
      have fg := hrow.frozen (k / 8)
      have lg : LtW gb wr := hrow.lt
      obtain ⟨v, hv⟩ : ∃ v, byt (fun i => decide (i < k) && r.getD i false) (k / 8) = v := ⟨_, rfl⟩
      have hvl : v < 256 := by rw [← hv]; exact byt_lt _ _
      simp only [hv] at cg
      have HV := Lib.hid hv
      obtain ⟨bit, hbit⟩ : ∃ bit, r.getD k false = bit := ⟨_, rfl⟩
      rw [hbit] at c0
      have HBIT := Lib.hid hbit
      have HROW := Lib.hid hrow; have HBX := Lib.hid hbx
      clear hc hbl hrow hbx hbw hv hbit
      cases bit with
      | false =>
        go_wp2
        go_roundw
        case rel =>
          refine ⟨k + 1, by omega, by go_num, HROW.out.congr fun j hj => ?_, HBX.out⟩
          rw [byt_congr (f := fun i => decide (i < k) && r.getD i false) (g := fun i => decide (i < k + 1) && r.getD i false) fun i _ => ?_]
          show (decide (8 * j + i < k) && r.getD (8 * j + i) false) = (decide (8 * j + i < k + 1) && r.getD (8 * j + i) false)
          by_cases e : 8 * j + i = k
          · rw [e, HBIT.out]; simp
          · rw [show decide (8 * j + i < k) = decide (8 * j + i < k + 1) by congr 1; apply propext; omega]
        case measure => simp [intOf]; omega
      | true =>
        obtain ⟨qk, hqk⟩ : ∃ qk, k / 8 = qk := ⟨_, rfl⟩
        obtain ⟨rk, hrk⟩ : ∃ rk, k % 8 = rk := ⟨_, rfl⟩
        have hk8 : rk < 8 := by rw [← hrk]; exact Nat.mod_lt _ (by omega)
        have hdm : k = 8 * qk + rk := by omega
        have d1 : IntKind.i64.wrap ((k : Int).tdiv 8) = (qk : Int) := by rw [IntWalk.i64_quo _ _ (by omega)]; omega
        have d2 : (k : Int).tdiv 8 = (qk : Int) := by rw [Int.tdiv_eq_ediv_of_nonneg (by omega)]; omega
        have d3 : (k : Int) / 8 = (qk : Int) := by omega
        have d9 : IntKind.i64.wrap (qk : Int) = (qk : Int) := IntWalk.i64_in _ (by omega)
        have d10 : IntKind.i64.wrap (rk : Int) = (rk : Int) := IntWalk.i64_in _ (by omega)
        have d4 : (k : Int).tmod 8 = (rk : Int) := by rw [Int.tmod_eq_emod_of_nonneg (by omega)]; omega
        have d5 : (k : Int) % 8 = (rk : Int) := by omega
        obtain ⟨pw, hpw⟩ : ∃ pw, 128 / 2 ^ rk = pw := ⟨_, rfl⟩
        have hpl : pw < 256 := by rw [← hpw]; exact Nat.lt_of_le_of_lt (Nat.div_le_self _ _) (by omega)
        have d6 : (128 : Int) / 2 ^ min rk 8 = (pw : Int) := by
          rw [Nat.min_eq_left (by omega), ← hpw]
          simp
        have d8 : (128 : Int) / 2 ^ rk = (pw : Int) := by rw [← hpw]; simp
        obtain ⟨nv, hnv⟩ : ∃ nv, v ||| pw = nv := ⟨_, rfl⟩
        have d7 : bits .or .u8 (v : Int) (pw : Int) = (nv : Int) := by rw [← hnv]; exact (bits_nat .u8 8 (by decide) wraps_u8 v _ hvl hpl).2
        have HNV : Hid (nv = byt (fun i => decide (i < k + 1) && r.getD i false) qk) := Lib.hid (by
          rw [← hnv, ← hpw, ← HV.out, hqk]
          refine byt_or hk8 ?_ fun i => ?_
          · rw [← hdm]; simp
          · show (decide (i < k + 1) && r.getD i false) = ((decide (i < k) && r.getD i false) || (i == 8 * qk + rk))
            rw [← hdm]
            by_cases e : i = k
            · subst e; rw [HBIT.out]; simp
            · rw [beq_eq_false_iff_ne.2 e, Bool.or_false, show decide (i < k + 1) = decide (i < k) by congr 1; apply propext; omega])
        rw [hqk] at cg fg hkm
        have HQK := Lib.hid hqk
        clear hqk hrk hpw hnv hdm
        go_wp2_with fail
        (refine wp_region_ext_tail 10 (by kernel_rfl) (by kernel_rfl) ?_; simp only [List.take_succ_cons, List.take_zero, List.drop_succ_cons, List.drop_zero]; (repeat (first | ((with_reducible refine ext_step (fun K hK => ?_)); go_simp; first | (refine hK _ ?_; clear hK K) | (apply Exists.intro; refine ⟨fun _ _ => ?_, hK _ ?_⟩; fail; clear hK K)))); refine wpQuiet_nil ?_; intro E d)
        go_wp2
        go_roundw
        case rel =>
          refine ⟨k + 1, by omega, by go_num, (rowBelow (HROW.out.set qk (.int .u8 (nv : Nat))) (bExtW (Below.refl _ _) (Nat.le_refl _)) (by rw [World.size_setCell]; exact HROW.out.lt)).congr fun j hj => ?_, (HBX.out.set qk _).extB _ _⟩
          by_cases e : j = qk
          · rw [if_pos e, e, HNV.out]
          · rw [if_neg e]
            refine congrArg (fun x : Nat => Value.int .u8 (x : Int)) (byt_congr fun i hi => ?_)
            have h8 : 8 * j + i ≠ k := fun h => by have := HQK.out; omega
            show (decide (8 * j + i < k) && r.getD (8 * j + i) false) = (decide (8 * j + i < k + 1) && r.getD (8 * j + i) false)
            rw [show decide (8 * j + i < k) = decide (8 * j + i < k + 1) by congr 1; apply propext; omega]
        case measure => simp [intOf]; omega
    · obtain rfl : n = k := by omega
      have hPL : (punchL r).length = m := by rw [punchL_len, HL.out, HME.out]
      have HP : Hid (IsB8 wr (some ⟨gb, 0, none⟩) m (punchL r)) := Lib.hid ⟨hPL, fun _ => ⟨gb, 0, rfl, hrow.lt, fun j hj => by
        rw [Nat.zero_add, hrow.cell hj]
        rw [punchL_get (by rw [HL.out, HME.out]; exact hj)]
        refine congrArg (fun x : Nat => some (Value.int .u8 (x : Int))) (byt_congr fun i hi => ?_)
        show (decide (8 * j + i < n) && r.getD (8 * j + i) false) = r.getD (8 * j + i) false
        by_cases e : 8 * j + i < n
        · rw [decide_eq_true e, Bool.true_and]
        · have : r.getD (8 * j + i) false = false := by
            rw [List.getD_eq_getElem?_getD, List.getElem?_eq_none (by rw [HL.out]; omega)]; rfl
          rw [this, Bool.and_false]⟩⟩
      have HPLL := Lib.hid hPL
      clear hrow hbx hPL hbw
      go_wp2
      go_ret
      unfold BytesPost
      rw [HPLL.out]
      exact ⟨gb, rfl, HP.out, HBW.out, by rw [HGB.out]; exact Nat.le_refl _⟩
end Go.Proofs.Ytpmecoojhjopcaa
