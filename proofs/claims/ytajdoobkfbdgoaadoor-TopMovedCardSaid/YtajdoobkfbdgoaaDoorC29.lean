/- Lemmas on which the law of this seat rests; each states its own conditions. -/
import Derived.Test.YtajdoobkfbdgoaaDoorC28
import Derived.Test.YtajdoobkfbdgoaaDoorC20
import Derived.Test.YtajdoobkfbdgoaaDoorC27
import Derived.Test.YtajdoobkfbdgoaaDoorC03
import Derived.ProofKit
import Derived.OpenShut
import Derived.ShutString
import Derived.ChangeOld
import Derived.Below
import Derived.Lib.SmallJoins
import Derived.Deep.Strs
import Derived.Test.YtajdoobkfbdgoaaDoorC04
import Derived.Deep.Grids
set_option linter.unusedVariables false
set_option linter.unusedSimpArgs false
namespace Go.Proofs.YtajdoobkfbdgoaaDoor
section
open Go.RowKit
theorem bat_below {T e : TypeId} {B b : Nat} {p : Value} {bs : List Value} {w w' : World} (h : Lib.BuilderAt T e B b p bs w) (hb : Below w.heap.size w w') : Lib.BuilderAt T e B b p bs w' := by
 have hl := h.lt
 obtain ⟨h1, v, h2, h3, h4⟩ := h
 exact ⟨h1, v, (hb.block b hl).trans h2, ownBelow h3 hb, h4⟩
theorem lfCh90 {P : Prop} (h : P := by
 clear HBW hB4 hb4 k1 k2 k3 lk HBB
 have v1 : IntKind.i64.wrap ((yn : Int) - 1) = (yn : Int) - 1 := IntWalk.i64_in _ (by omega)
 go_wp2
 go_roundw
 case rel => exact ⟨k + 1, (yn : Int) - 1, by omega, by have := HY.out; omega, by go_num, HBX⟩
 case measure => have := HYN.out; simp [intOf] <;> omega) : P := h
theorem lfCh91 {P : Prop} (h : P := by
 clear hB3 hB4 hb4 hbl3
 go_wp2
 go_roundw
 case rel => exact ⟨x + 1, by omega, by go_num, by rw [HRU.out]; exact HBW⟩
 case measure => simp [intOf]; omega) : P := h
set_option maxRecDepth 100000 in
set_option maxHeartbeats 8000000 in
theorem chPrint_ok (G W H n : Nat) (a : Option Addr) (c : Nat) (cs : List Int) (w : World) (hI : IsInts w a n cs) (hG : G = 4 ∨ G = 6) (hW1 : 0 < W) (hW : W ≤ 64) (hH1 : 0 < H) (hH : H ≤ 64) (hn : n = W * H) (hCR : ∀ x ∈ cs, 0 ≤ x ∧ x < 62) :
  Calls Tryd.prog 15 #[.agg #[.int .i64 (G), .int .i64 (W), .int .i64 (H), .slice a n c]] w fun e w' => e = .returned (.tuple #[.string (printB G W H cs), .int .i64 (0)]) ∧ Below w.heap.size w w' := by
 have hn4 : n ≤ 4096 := by rw [hn]; exact Nat.mul_le_mul hW hH
 have he : chE G W H n cs = 0 := chE_ok (by omega) (by omega) hW (by omega) hH hn hCR
 have HR := Lib.hid (fun w hI => chWrong_any G W H a n c cs w hI (by omega) (by omega) (by omega) (by omega))
 rw [he] at HR
 have HL := Lib.hid (fun (x y : Nat) (hx : x < W) (hy : y < H) => (cell_col hx hy hCR hI.1 hn).2)
 have HI := Lib.hid hI
 clear he
 have hW4 : (4 * W + 1) * H ≤ 257 * 64 := Nat.mul_le_mul (by omega) hH
 have HCELL : Hid (∀ wr : World, Below w.heap.size w wr → ∀ x y, x < W → y < H → ∃ b o : Nat, a = some ⟨b, o, none⟩ ∧ b < wr.heap.size ∧ wr.cell? ⟨b, o + (y * W + x), none⟩ = some (.int .i64 (colK W cs y x)) ∧ y * W + x < n) := Lib.hid fun wr hb x y hx hy => by
  have hp : y * W + x < n := by
   have h1 : (y + 1) * W ≤ H * W := Nat.mul_le_mul_right W (by omega)
   have h2 : (y + 1) * W = y * W + W := Nat.succ_mul y W
   rw [hn, Nat.mul_comm W H]; omega
  obtain ⟨b, o, e1, h2, h3⟩ := (hI.below hb).2 (by omega)
  refine ⟨b, o, e1, h2, ?_, hp⟩
  rw [h3 _ hp]
  have hpl : y * W + x < cs.length := by rw [hI.1]; exact hp
  have h4 := hCR _ (List.getElem_mem hpl)
  have h5 : cs.getD (y * W + x) 0 = cs[y * W + x] := by rw [List.getD_eq_getElem?_getD, List.getElem?_eq_getElem hpl]; rfl
  unfold colK
  rw [h5, Int.toNat_of_nonneg h4.1]
 clear hI hCR hn
 have HPR : Hid (∀ G, printB G W H cs = ⟨(hdL G ++ topL W H cs H).toArray⟩) := Lib.hid fun G => by
  have h1 := print_L (G := G) (fun y x hy hx => HL.out x y hx hy)
  rw [← h1]
 rcases hG with rfl | rfl
 ·skip
  go_enter Tryd.func15, Tryd.ntmps15
  (go_wp2_with fail; refine (HR.out _ (HI.out.below blw)).mono ?_; rintro r w1 ⟨rfl, hb⟩; obtain ⟨E, d, rfl⟩ := bExt hb; clear hb)
  obtain ⟨W1, hW1⟩ : ∃ W1, W1 = extW (w.alloc (.cells #[.int .i64 ((4 : Int)), .int .i64 (W), .int .i64 (H), .slice a n c] 25)) E d := ⟨_, rfl⟩
  rw [← hW1]
  have HB1 : Hid (Below w.heap.size w W1) := Lib.hid (by rw [hW1]; exact blw)
  have hsz1 : w.heap.size + 1 ≤ W1.heap.size := by rw [hW1, size_extW, World.size_alloc]; omega
  have cb0 : W1.cell? ⟨w.heap.size, 0, none⟩ = some (.int .i64 ((4 : Int))) := by rw [hW1]; simp [go_sem]
  have cb1 : W1.cell? ⟨w.heap.size, 1, none⟩ = some (.int .i64 (W)) := by rw [hW1]; simp [go_sem]
  have cb2 : W1.cell? ⟨w.heap.size, 2, none⟩ = some (.int .i64 (H)) := by rw [hW1]; simp [go_sem]
  have cb3 : W1.cell? ⟨w.heap.size, 3, none⟩ = some (.slice a n c) := by rw [hW1]; simp [go_sem]
  have lb : LtW w.heap.size W1 := by unfold LtW; omega
  clear hW1
  go_wp2_with fail
  refine (bld_str W1.heap.size W1.heap.size [] ⟨#[226, 150, 161, 10]⟩ _ (Lib.fresh_isBuilder _ _ W1) (by decide) (by simp)).mono ?_
  rintro r w2 ⟨rfl, hB2, hb2⟩
  have HBW : Hid (Lib.BuilderAt 103 5 W1.heap.size W1.heap.size (.pointer (some ⟨W1.heap.size, 0, none⟩)) (Lib.byteCells (hdL 4 ++ topL W H cs 0)) w2 ∧ Below W1.heap.size W1 w2) := Lib.hid ⟨hB2, ((Below.refl _ _).alloc (Nat.le_refl _) _).trans hb2⟩
  clear hB2 hb2
  have hs1 : w.heap.size < W1.heap.size := by omega
  have k1 := bCs HBW.out.2 cb1
  have k2 := bCs HBW.out.2 cb2
  have k3 := bCs HBW.out.2 cb3
  have lk : LtW w.heap.size w2 := Nat.lt_of_lt_of_le hs1 HBW.out.2.size
  have hsw : W1.heap.size ≤ (w2).heap.size := HBW.out.2.size
  have HBB : Hid (Below w.heap.size w w2) := Lib.hid (HB1.out.trans (HBW.out.2.mono (by omega)))
  go_wp2_with fail
  go_loopw [6] (fun yv wr => ∃ (k : Nat) (y : Int), k ≤ H ∧ y = (H : Int) - 1 - k ∧ yv = .int .i64 y ∧ Hid (Lib.BuilderAt 103 5 W1.heap.size W1.heap.size (.pointer (some ⟨W1.heap.size, 0, none⟩)) (Lib.byteCells (hdL 4 ++ topL W H cs k)) wr ∧ Below W1.heap.size W1 wr)) (fun yv _ => (intOf yv + 1).toNat)
  case atStart => exact ⟨0, (H : Int) - 1, by omega, by omega, by go_num, HBW⟩
  case round =>
   clear HBW HBB k1 k2 k3 lk hsw
   obtain ⟨k, y, hk, hy, rfl, HBW⟩ := hrel
   have hs1 : w.heap.size < W1.heap.size := by omega
   have k1 := bCs HBW.out.2 cb1
   have k2 := bCs HBW.out.2 cb2
   have k3 := bCs HBW.out.2 cb3
   have lk : LtW w.heap.size wr := Nat.lt_of_lt_of_le hs1 HBW.out.2.size
   have hsw : W1.heap.size ≤ (wr).heap.size := HBW.out.2.size
   have HBB : Hid (Below w.heap.size w wr) := Lib.hid (HB1.out.trans (HBW.out.2.mono (by omega)))
   by_cases hkH : k < H
   ·obtain ⟨yn, rfl⟩ : ∃ yn : Nat, y = yn := ⟨y.toNat, by omega⟩
    have HYN : Hid (yn = H - 1 - k) := Lib.hid (by omega)
    have hynH : yn < H := by omega
    have HY := Lib.hid hy
    clear hy
    have d0 : decide ((yn : Int) ≥ 0) = true := by simp
    go_wp2_with fail
    obtain ⟨wo, rfl⟩ : ∃ wo : World, wo = wr := ⟨_, rfl⟩
    go_loopw [27] (fun xv wr => ∃ (x : Nat), x ≤ W ∧ xv = .int .i64 x ∧ Hid (Lib.BuilderAt 103 5 W1.heap.size W1.heap.size (.pointer (some ⟨W1.heap.size, 0, none⟩)) (Lib.byteCells ((hdL 4 ++ topL W H cs k) ++ rowU W cs yn x)) wr ∧ Below W1.heap.size W1 wr)) (fun xv _ => W - (intOf xv).toNat)
    case atStart => exact ⟨0, by omega, rfl, by simpa [rowU] using HBW⟩
    case round =>
     clear HBW HBB k1 k2 k3 lk hsw
     obtain ⟨x, hx, rfl, HBW⟩ := hrel
     have hs1 : w.heap.size < W1.heap.size := by omega
     have k1 := bCs HBW.out.2 cb1
     have k2 := bCs HBW.out.2 cb2
     have k3 := bCs HBW.out.2 cb3
     have lk : LtW w.heap.size wr := Nat.lt_of_lt_of_le hs1 HBW.out.2.size
     have hsw : W1.heap.size ≤ (wr).heap.size := HBW.out.2.size
     have HBB : Hid (Below w.heap.size w wr) := Lib.hid (HB1.out.trans (HBW.out.2.mono (by omega)))
     by_cases hxW : x < W
     ·obtain ⟨b, o, ha, hb, hc, hp⟩ := HCELL.out wr HBB.out x yn hxW hynH
      subst ha
      have hq := HL.out x yn hxW hynH
      have HRU : Hid (rowU W cs yn (x + 1) = rowU W cs yn x ++ Lib.encodeRune (signK (colK W cs yn x))) := Lib.hid rfl
      have hl1 := topL_len (W := W) (H := H) (cs := cs) k
      have hl2 := rowU_len (W := W) (cs := cs) (y := yn) x
      have hl3 : (4 * W + 1) * k ≤ 257 * 64 := Nat.mul_le_mul (by omega) (by omega)
      have hl4 : (hdL 4).length = 4 := by decide
      have HLEN : Hid ((Lib.byteCells ((hdL 4 ++ topL W H cs k) ++ rowU W cs yn x)).length ≤ 1000000) := Lib.hid (by rw [Lib.byteCells_length, List.length_append, List.length_append]; omega)
      have HSG := Lib.hid (sign_lt hq)
      clear hl1 hl2 hl3 hl4 HCELL HL HPR HR
      generalize rowU W cs yn x = ru at *
      generalize colK W cs yn x = q at *
      obtain ⟨M, hM⟩ : ∃ M, yn * W = M := ⟨_, rfl⟩
      obtain ⟨p, hpp⟩ : ∃ p, M + x = p := ⟨_, rfl⟩
      have hMi : (yn : Int) * (W : Int) = (M : Int) := by rw [← hM]; push_cast; rfl
      have hMp : (M : Int) + (x : Int) = (p : Int) := by rw [← hpp]; push_cast; rfl
      rw [hM, hpp] at hc hp
      have vM : IntKind.i64.wrap (M : Int) = (M : Int) := IntWalk.i64_in _ (by omega)
      have vp : IntKind.i64.wrap (p : Int) = (p : Int) := IntWalk.i64_in _ (by omega)
      have lbb : LtW b wr := hb
      clear hM hpp hb hW4
      go_wp2_with fail
      refine (sign_ok q _ hq).mono ?_
      rintro r w3 ⟨rfl, hb3⟩
      have hB3 := bat_below HBW.out.1 hb3
      have hbl3 : Below W1.heap.size W1 w3 := HBW.out.2.trans (hb3.mono hsw)
      clear HBW hb3 k1 k2 k3 lk hc lbb
      go_wp2_with fail
      refine (bld_rune W1.heap.size W1.heap.size _ (signK q) (by omega) (by have := HSG.out; omega) w3 (.inr hB3) HLEN.out hbl3.size).mono ?_
      rintro r w4 ⟨rfl, hB4, hb4⟩
      rw [← Lib.byteCells_encodeRune, ← Lib.byteCells_append] at hB4
      have HBW : Hid (Lib.BuilderAt 103 5 W1.heap.size W1.heap.size (.pointer (some ⟨W1.heap.size, 0, none⟩)) (Lib.byteCells ((hdL 4 ++ topL W H cs k) ++ (ru ++ Lib.encodeRune (signK q)))) w4 ∧ Below W1.heap.size W1 w4) := Lib.hid ⟨by rw [← List.append_assoc]; exact hB4, hbl3.trans hb4⟩
      exact lfCh91
     ·obtain rfl : x = W := by omega
      have dx : decide ((x : Int) < (x : Int)) = false := by simp
      have hl1 := topL_len (W := x) (H := H) (cs := cs) k
      have hl2 := rowU_len (W := x) (cs := cs) (y := yn) x
      have hl3 : (4 * x + 1) * k ≤ 257 * 64 := Nat.mul_le_mul (by omega) (by omega)
      have hl4 : (hdL 4).length = 4 := by decide
      have HLEN : Hid ((Lib.byteCells ((hdL 4 ++ topL x H cs k) ++ rowU x cs yn x)).length ≤ 1000000) := Lib.hid (by rw [Lib.byteCells_length, List.length_append, List.length_append]; omega)
      have HTU : Hid (topL x H cs (k + 1) = topL x H cs k ++ rowU x cs yn x ++ [10]) := Lib.hid (by simp only [topL]; rw [HYN.out])
      clear hl1 hl2 hl3 hl4 HCELL HL HPR HR hW4
      go_wp2_with fail
      refine (bld_byte W1.heap.size W1.heap.size _ 10 (by omega) _ (.inr HBW.out.1) HLEN.out hsw).mono ?_
      rintro r w4 ⟨rfl, hB4, hb4⟩
      have HBX : Hid (Lib.BuilderAt 103 5 W1.heap.size W1.heap.size (.pointer (some ⟨W1.heap.size, 0, none⟩)) (Lib.byteCells (hdL 4 ++ topL x H cs (k + 1))) w4 ∧ Below W1.heap.size W1 w4) := Lib.hid ⟨by
       rw [HTU.out, ← List.append_assoc, ← List.append_assoc, Lib.byteCells_append _ [10]]; exact hB4, HBW.out.2.trans hb4⟩
      exact lfCh90
   ·obtain rfl : k = H := by omega
    obtain rfl : y = -1 := by omega
    have HS := Lib.hid (bld_string W1.heap.size W1.heap.size (hdL 4 ++ topL W k cs k) wr (.inr HBW.out.1) (by rw [show hdL 4 = [226, 150, 161, 10] from by decide]; simp))
    clear HCELL HL HR hW4 k1 k2 k3 lk
    go_wp2_with fail
    refine HS.out.mono ?_
    rintro r w4 ⟨rfl, hb4⟩
    have HBX : Hid (Below w.heap.size w w4) := Lib.hid (HBB.out.trans (hb4.mono (by omega)))
    clear HBW HBB hb4 HS
    go_wp2
    go_ret2
    exact ⟨by rw [HPR.out 4]; rfl, HBX.out⟩
 ·skip
  go_enter Tryd.func15, Tryd.ntmps15
  (go_wp2_with fail; refine (HR.out _ (HI.out.below blw)).mono ?_; rintro r w1 ⟨rfl, hb⟩; obtain ⟨E, d, rfl⟩ := bExt hb; clear hb)
  obtain ⟨W1, hW1⟩ : ∃ W1, W1 = extW (w.alloc (.cells #[.int .i64 ((6 : Int)), .int .i64 (W), .int .i64 (H), .slice a n c] 25)) E d := ⟨_, rfl⟩
  rw [← hW1]
  have HB1 : Hid (Below w.heap.size w W1) := Lib.hid (by rw [hW1]; exact blw)
  have hsz1 : w.heap.size + 1 ≤ W1.heap.size := by rw [hW1, size_extW, World.size_alloc]; omega
  have cb0 : W1.cell? ⟨w.heap.size, 0, none⟩ = some (.int .i64 ((6 : Int))) := by rw [hW1]; simp [go_sem]
  have cb1 : W1.cell? ⟨w.heap.size, 1, none⟩ = some (.int .i64 (W)) := by rw [hW1]; simp [go_sem]
  have cb2 : W1.cell? ⟨w.heap.size, 2, none⟩ = some (.int .i64 (H)) := by rw [hW1]; simp [go_sem]
  have cb3 : W1.cell? ⟨w.heap.size, 3, none⟩ = some (.slice a n c) := by rw [hW1]; simp [go_sem]
  have lb : LtW w.heap.size W1 := by unfold LtW; omega
  clear hW1
  go_wp2_with fail
  refine (bld_str W1.heap.size W1.heap.size [] ⟨#[226, 150, 179, 10]⟩ _ (Lib.fresh_isBuilder _ _ W1) (by decide) (by simp)).mono ?_
  rintro r w2 ⟨rfl, hB2, hb2⟩
  have HBW : Hid (Lib.BuilderAt 103 5 W1.heap.size W1.heap.size (.pointer (some ⟨W1.heap.size, 0, none⟩)) (Lib.byteCells (hdL 6 ++ topL W H cs 0)) w2 ∧ Below W1.heap.size W1 w2) := Lib.hid ⟨hB2, ((Below.refl _ _).alloc (Nat.le_refl _) _).trans hb2⟩
  clear hB2 hb2
  have hs1 : w.heap.size < W1.heap.size := by omega
  have k1 := bCs HBW.out.2 cb1
  have k2 := bCs HBW.out.2 cb2
  have k3 := bCs HBW.out.2 cb3
  have lk : LtW w.heap.size w2 := Nat.lt_of_lt_of_le hs1 HBW.out.2.size
  have hsw : W1.heap.size ≤ (w2).heap.size := HBW.out.2.size
  have HBB : Hid (Below w.heap.size w w2) := Lib.hid (HB1.out.trans (HBW.out.2.mono (by omega)))
  go_wp2_with fail
  go_loopw [6] (fun yv wr => ∃ (k : Nat) (y : Int), k ≤ H ∧ y = (H : Int) - 1 - k ∧ yv = .int .i64 y ∧ Hid (Lib.BuilderAt 103 5 W1.heap.size W1.heap.size (.pointer (some ⟨W1.heap.size, 0, none⟩)) (Lib.byteCells (hdL 6 ++ topL W H cs k)) wr ∧ Below W1.heap.size W1 wr)) (fun yv _ => (intOf yv + 1).toNat)
  case atStart => exact ⟨0, (H : Int) - 1, by omega, by omega, by go_num, HBW⟩
  case round =>
   clear HBW HBB k1 k2 k3 lk hsw
   obtain ⟨k, y, hk, hy, rfl, HBW⟩ := hrel
   have hs1 : w.heap.size < W1.heap.size := by omega
   have k1 := bCs HBW.out.2 cb1
   have k2 := bCs HBW.out.2 cb2
   have k3 := bCs HBW.out.2 cb3
   have lk : LtW w.heap.size wr := Nat.lt_of_lt_of_le hs1 HBW.out.2.size
   have hsw : W1.heap.size ≤ (wr).heap.size := HBW.out.2.size
   have HBB : Hid (Below w.heap.size w wr) := Lib.hid (HB1.out.trans (HBW.out.2.mono (by omega)))
   by_cases hkH : k < H
   ·obtain ⟨yn, rfl⟩ : ∃ yn : Nat, y = yn := ⟨y.toNat, by omega⟩
    have HYN : Hid (yn = H - 1 - k) := Lib.hid (by omega)
    have hynH : yn < H := by omega
    have HY := Lib.hid hy
    clear hy
    have d0 : decide ((yn : Int) ≥ 0) = true := by simp
    go_wp2_with fail
    obtain ⟨wo, rfl⟩ : ∃ wo : World, wo = wr := ⟨_, rfl⟩
    go_loopw [27] (fun xv wr => ∃ (x : Nat), x ≤ W ∧ xv = .int .i64 x ∧ Hid (Lib.BuilderAt 103 5 W1.heap.size W1.heap.size (.pointer (some ⟨W1.heap.size, 0, none⟩)) (Lib.byteCells ((hdL 6 ++ topL W H cs k) ++ rowU W cs yn x)) wr ∧ Below W1.heap.size W1 wr)) (fun xv _ => W - (intOf xv).toNat)
    case atStart => exact ⟨0, by omega, rfl, by simpa [rowU] using HBW⟩
    case round =>
     clear HBW HBB k1 k2 k3 lk hsw
     obtain ⟨x, hx, rfl, HBW⟩ := hrel
     have hs1 : w.heap.size < W1.heap.size := by omega
     have k1 := bCs HBW.out.2 cb1
     have k2 := bCs HBW.out.2 cb2
     have k3 := bCs HBW.out.2 cb3
     have lk : LtW w.heap.size wr := Nat.lt_of_lt_of_le hs1 HBW.out.2.size
     have hsw : W1.heap.size ≤ (wr).heap.size := HBW.out.2.size
     have HBB : Hid (Below w.heap.size w wr) := Lib.hid (HB1.out.trans (HBW.out.2.mono (by omega)))
     by_cases hxW : x < W
     ·obtain ⟨b, o, ha, hb, hc, hp⟩ := HCELL.out wr HBB.out x yn hxW hynH
      subst ha
      have hq := HL.out x yn hxW hynH
      have HRU : Hid (rowU W cs yn (x + 1) = rowU W cs yn x ++ Lib.encodeRune (signK (colK W cs yn x))) := Lib.hid rfl
      have hl1 := topL_len (W := W) (H := H) (cs := cs) k
      have hl2 := rowU_len (W := W) (cs := cs) (y := yn) x
      have hl3 : (4 * W + 1) * k ≤ 257 * 64 := Nat.mul_le_mul (by omega) (by omega)
      have hl4 : (hdL 6).length = 4 := by decide
      have HLEN : Hid ((Lib.byteCells ((hdL 6 ++ topL W H cs k) ++ rowU W cs yn x)).length ≤ 1000000) := Lib.hid (by rw [Lib.byteCells_length, List.length_append, List.length_append]; omega)
      have HSG := Lib.hid (sign_lt hq)
      clear hl1 hl2 hl3 hl4 HCELL HL HPR HR
      generalize rowU W cs yn x = ru at *
      generalize colK W cs yn x = q at *
      obtain ⟨M, hM⟩ : ∃ M, yn * W = M := ⟨_, rfl⟩
      obtain ⟨p, hpp⟩ : ∃ p, M + x = p := ⟨_, rfl⟩
      have hMi : (yn : Int) * (W : Int) = (M : Int) := by rw [← hM]; push_cast; rfl
      have hMp : (M : Int) + (x : Int) = (p : Int) := by rw [← hpp]; push_cast; rfl
      rw [hM, hpp] at hc hp
      have vM : IntKind.i64.wrap (M : Int) = (M : Int) := IntWalk.i64_in _ (by omega)
      have vp : IntKind.i64.wrap (p : Int) = (p : Int) := IntWalk.i64_in _ (by omega)
      have lbb : LtW b wr := hb
      clear hM hpp hb hW4
      go_wp2_with fail
      refine (sign_ok q _ hq).mono ?_
      rintro r w3 ⟨rfl, hb3⟩
      have hB3 := bat_below HBW.out.1 hb3
      have hbl3 : Below W1.heap.size W1 w3 := HBW.out.2.trans (hb3.mono hsw)
      clear HBW hb3 k1 k2 k3 lk hc lbb
      go_wp2_with fail
      refine (bld_rune W1.heap.size W1.heap.size _ (signK q) (by omega) (by have := HSG.out; omega) w3 (.inr hB3) HLEN.out hbl3.size).mono ?_
      rintro r w4 ⟨rfl, hB4, hb4⟩
      rw [← Lib.byteCells_encodeRune, ← Lib.byteCells_append] at hB4
      have HBW : Hid (Lib.BuilderAt 103 5 W1.heap.size W1.heap.size (.pointer (some ⟨W1.heap.size, 0, none⟩)) (Lib.byteCells ((hdL 6 ++ topL W H cs k) ++ (ru ++ Lib.encodeRune (signK q)))) w4 ∧ Below W1.heap.size W1 w4) := Lib.hid ⟨by rw [← List.append_assoc]; exact hB4, hbl3.trans hb4⟩
      exact lfCh91
     ·obtain rfl : x = W := by omega
      have dx : decide ((x : Int) < (x : Int)) = false := by simp
      have hl1 := topL_len (W := x) (H := H) (cs := cs) k
      have hl2 := rowU_len (W := x) (cs := cs) (y := yn) x
      have hl3 : (4 * x + 1) * k ≤ 257 * 64 := Nat.mul_le_mul (by omega) (by omega)
      have hl4 : (hdL 6).length = 4 := by decide
      have HLEN : Hid ((Lib.byteCells ((hdL 6 ++ topL x H cs k) ++ rowU x cs yn x)).length ≤ 1000000) := Lib.hid (by rw [Lib.byteCells_length, List.length_append, List.length_append]; omega)
      have HTU : Hid (topL x H cs (k + 1) = topL x H cs k ++ rowU x cs yn x ++ [10]) := Lib.hid (by simp only [topL]; rw [HYN.out])
      clear hl1 hl2 hl3 hl4 HCELL HL HPR HR hW4
      go_wp2_with fail
      refine (bld_byte W1.heap.size W1.heap.size _ 10 (by omega) _ (.inr HBW.out.1) HLEN.out hsw).mono ?_
      rintro r w4 ⟨rfl, hB4, hb4⟩
      have HBX : Hid (Lib.BuilderAt 103 5 W1.heap.size W1.heap.size (.pointer (some ⟨W1.heap.size, 0, none⟩)) (Lib.byteCells (hdL 6 ++ topL x H cs (k + 1))) w4 ∧ Below W1.heap.size W1 w4) := Lib.hid ⟨by
       rw [HTU.out, ← List.append_assoc, ← List.append_assoc, Lib.byteCells_append _ [10]]; exact hB4, HBW.out.2.trans hb4⟩
      exact lfCh90
   ·obtain rfl : k = H := by omega
    obtain rfl : y = -1 := by omega
    have HS := Lib.hid (bld_string W1.heap.size W1.heap.size (hdL 6 ++ topL W k cs k) wr (.inr HBW.out.1) (by rw [show hdL 6 = [226, 150, 179, 10] from by decide]; simp))
    clear HCELL HL HR hW4 k1 k2 k3 lk
    go_wp2_with fail
    refine HS.out.mono ?_
    rintro r w4 ⟨rfl, hb4⟩
    have HBX : Hid (Below w.heap.size w w4) := Lib.hid (HBB.out.trans (hb4.mono (by omega)))
    clear HBW HBB hb4 HS
    go_wp2
    go_ret2
    exact ⟨by rw [HPR.out 6]; rfl, HBX.out⟩
end
section
open Go.RowKit
open By (bytesOf hasAt sgL encN decL colAt rowF RowR readS rowsF RdR hdR)
end
section
open Go.RowKit
open By (bytesOf hasAt sgL encN decL colAt rowF RowR readS rowsF RdR hdR)
end
section
open Go.RowKit
open By (bytesOf hasAt sgL encN decL colAt rowF RowR readS rowsF RdR hdR rowsL printR RowsOk)
theorem bytesOf_app (a b : ByteArray) : By.bytesOf (a ++ b) = By.bytesOf a ++ By.bytesOf b := by
 unfold By.bytesOf
 rw [ByteArray.data_append, Array.toList_append, List.map_append]
def rowC (W : Nat) (cs : List Int) (y : Nat) : List Nat := (List.range W).map (colK W cs y)
def rowsC (W H : Nat) (cs : List Int) : List (List Nat) := ((List.range H).map (rowC W cs)).reverse
theorem rowB_bytes {W : Nat} {cs : List Int} {y : Nat} (h : ∀ x, x < W → colK W cs y x < 62) : ∀ x, x ≤ W → By.bytesOf (rowB W cs y x) = By.rowL ((List.range x).map (colK W cs y))
 | 0, _ => by unfold rowB By.rowL; rfl
 | x + 1, hx => by
  rw [rowB, bytesOf_app, rowB_bytes h x (by omega), sgS_L (h x (by omega)), List.range_succ, List.map_append, List.map_singleton, By.rowL_snoc]
theorem botB_bytes {W H : Nat} {cs : List Int} (h : ∀ y x, y < H → x < W → colK W cs y x < 62) : ∀ y, y ≤ H → By.bytesOf (botB W cs y) = rowsL (rowsC W y cs)
 | 0, _ => by unfold botB rowsC rowsL; rfl
 | y + 1, hy => by
  have e : rowsC W (y + 1) cs = rowC W cs y :: rowsC W y cs := by
   unfold rowsC
   rw [List.range_succ, List.map_append, List.map_singleton, List.reverse_append]
   rfl
  rw [botB, bytesOf_app, bytesOf_app, rowB_bytes (h y · (by omega)) W (Nat.le_refl _), botB_bytes h y (by omega), e, By.rowsL_cons]
  rfl
theorem printB_bytes {G W H : Nat} {cs : List Int} (h : ∀ y x, y < H → x < W → colK W cs y x < 62) : By.bytesOf (printB G W H cs) = printR G (rowsC W H cs) := by
 unfold printB
 rw [bytesOf_app, botB_bytes h H (Nat.le_refl _)]
 unfold By.printR hdB By.hdR
 split <;> rfl
theorem rowsC_ok {W H : Nat} {cs : List Int} (h : ∀ y x, y < H → x < W → colK W cs y x < 62) : RowsOk W (rowsC W H cs) := by
 constructor
 ·intro r hr
  simp only [rowsC, List.mem_reverse, List.mem_map, List.mem_range] at hr
  obtain ⟨y, _, rfl⟩ := hr
  simp [rowC]
 ·intro r hr k hk
  simp only [rowsC, List.mem_reverse, List.mem_map, List.mem_range] at hr
  obtain ⟨y, hy, rfl⟩ := hr
  simp only [rowC, List.mem_map, List.mem_range] at hk
  obtain ⟨x, hx, rfl⟩ := hk
  exact h y x hy hx
theorem rowsC_len (W H : Nat) (cs : List Int) : (rowsC W H cs).length = H := by simp [rowsC]
theorem rowsC_flat {W H : Nat} {cs : List Int} (hl : cs.length = W * H) (hC : ∀ x ∈ cs, 0 ≤ x) : natI (rowsC W H cs).reverse.flatten = cs := by
 have key : ∀ h, h ≤ H → natI ((List.range h).map (rowC W cs)).flatten = cs.take (h * W) := by
  intro h
  induction h with
  | zero => intro _; simp [natI]
  | succ h ih =>
   intro hh
   have hb : h * W + W ≤ cs.length := by
    have h1 : (h + 1) * W ≤ H * W := Nat.mul_le_mul_right W hh
    rw [Nat.succ_mul] at h1
    rw [hl, Nat.mul_comm W H]; exact h1
   have e1 : natI (rowC W cs h) = (cs.drop (h * W)).take W := by
    apply List.ext_getElem
    ·simp [natI, rowC]; omega
    ·intro x h1 h2
     have hx : x < W := by simp [natI, rowC] at h1; exact h1
     have h3 : h * W + x < cs.length := by omega
     have h4 := hC _ (List.getElem_mem h3)
     simp only [natI, rowC, List.getElem_map, List.getElem_range, List.getElem_take, List.getElem_drop]
     unfold colK
     rw [List.getD_eq_getElem?_getD, List.getElem?_eq_getElem h3, Option.getD_some]
     omega
   rw [List.range_succ, List.map_append, List.map_singleton, List.flatten_append, List.flatten_singleton]
   have e2 : ∀ a b : List Nat, natI (a ++ b) = natI a ++ natI b := fun a b => by simp [natI]
   rw [e2, ih (by omega), e1, Nat.succ_mul, List.take_add]
 unfold rowsC
 rw [List.reverse_reverse, key H (Nat.le_refl _), List.take_of_length_le (by rw [hl, Nat.mul_comm]; exact Nat.le_refl _)]
theorem rowL_le (r : List Nat) : (By.rowL r).length ≤ 3 * r.length := by
 induction r with
 | nil => simp [By.rowL]
 | cons k r ih =>
  rw [By.rowL_cons, List.length_append, List.length_cons]
  have := (By.sgL_len k).2
  omega
theorem printR_le {G W : Nat} {rows : List (List Nat)} (hW : W ≤ 64) (h : ∀ r ∈ rows, r.length = W) (hr : rows.length ≤ 64) : (printR G rows).length ≤ 65536 := by
 have h1 : ∀ L : List (List Nat), (∀ r ∈ L, r.length = W) → (rowsL L).length ≤ 193 * L.length := by
  intro L
  induction L with
  | nil => intro _; simp [By.rowsL]
  | cons r L ih =>
   intro hL
   rw [By.rowsL_cons, List.length_append, List.length_append, List.length_singleton, List.length_cons]
   have h2 := rowL_le r
   have h3 := hL r (by simp)
   have h4 := ih fun r' h' => hL r' (by simp [h'])
   omega
 have h2 := h1 rows h
 have h3 : (hdR G).length = 3 := by unfold By.hdR; split <;> rfl
 unfold By.printR
 rw [List.length_append, List.length_append, h3, List.length_singleton]
 omega
end
section
open Go.RowKit
open Cl Lo
open By (readS)
open Z (torN place pnt Mv To lin okT nrm keepB colP idm md redM both inv stK Sid Upw movesL turnsF waysF kindP alongB movd movdL)
def stp (x y : Int) : Mv := ⟨0, false, (x, y)⟩
theorem stp_ok {G W H n : Nat} {cs : List Int} (h : ChOk G W H n cs) (x y : Int) : okT (G : Int) (stp x y) := by
 have := h.g
 unfold okT stp
 simp only
 omega
theorem colP_atT {W H : Nat} {cs : List Int} {x y : Nat} (hx : x < W) (hy : y < H) : colP W H cs ((x : Int), (y : Int)) = cs.getD (y * W + x) 0 := by
 unfold colP
 simp only
 rw [show ((y : Int) % (H : Int)).toNat = y by rw [Int.emod_eq_of_lt (by omega) (by omega)]; omega, show ((x : Int) % (W : Int)).toNat = x by rw [Int.emod_eq_of_lt (by omega) (by omega)]; omega]
theorem rsB_get (cs : List Int) (k : Nat) : (rsB cs).getD k false = !decide (cs.getD k 0 = 0) := by
 unfold rsB
 rw [List.getD_eq_getElem?_getD, List.getElem?_map, List.getD_eq_getElem?_getD]
 cases cs[k]? <;> simp
theorem laid_moved {G W H n N M : Nat} {cs : List Int} (h : ChOk G W H n cs) (hN : torN W H = N) (h0 : 0 < N) (hM : N * N = M) (px py : Int) :
  LaidB W H N (((-px) % (W : Int)).toNat) (((-py) % (H : Int)).toNat) (rsB cs) (rsB (movdL W H cs G N (stp px py) M)) := by
 have hw := h.w1
 have hh := h.h1
 have hg : Z.G (G : Int) := by have := h.g; show (G : Int) = 4 ∨ (G : Int) = 6; omega
 have hm := stp_ok h px py
 have hc := moved_col h hN h0 hM hm
 intro y x hy hx
 rw [rsB_get, rsB_get]
 have e1 := colP_atT (cs := movdL W H cs G N (stp px py) M) hx hy
 rw [← e1, hc]
 have e2 : ((x : Int), (y : Int)) = To G (stp px py) ((x : Int) - px, (y : Int) - py) := by
  unfold To stp lin Z.mir Z.tn Z.add
  simp
 rw [e2, Z.movd_at hg hm]
 unfold colP
 simp only
 have ew : (((x : Int) - px) % (W : Int)).toNat = (x + ((-px) % (W : Int)).toNat) % W := by
  have h1 : 0 ≤ (-px) % (W : Int) := Int.emod_nonneg _ (by omega)
  have h2 : ((x + ((-px) % (W : Int)).toNat : Nat) : Int) = (x : Int) + (-px) % (W : Int) := by omega
  have h3 : (((x + ((-px) % (W : Int)).toNat) % W : Nat) : Int) = ((x : Int) - px) % (W : Int) := by
   rw [Int.natCast_emod, h2, Int.add_emod_emod]
   rfl
  omega
 have eh : (((y : Int) - py) % (H : Int)).toNat = (y + ((-py) % (H : Int)).toNat) % H := by
  have h1 : 0 ≤ (-py) % (H : Int) := Int.emod_nonneg _ (by omega)
  have h2 : ((y + ((-py) % (H : Int)).toNat : Nat) : Int) = (y : Int) + (-py) % (H : Int) := by omega
  have h3 : (((y + ((-py) % (H : Int)).toNat) % H : Nat) : Int) = ((y : Int) - py) % (H : Int) := by
   rw [Int.natCast_emod, h2, Int.add_emod_emod]
   rfl
  omega
 rw [ew, eh]
theorem firstsP_lenT (g : Int) (n : Nat) (L : List Mv) : (firstsP g n L (n * n)).length = ((Z.torusL n).filter (Z.firstB g n L)).length := by
 unfold firstsP Z.torusL
 rw [List.length_map, List.filter_map, List.length_map]
 rfl
theorem points_moved {G W H n N M : Nat} {cs : List Int} (h : ChOk G W H n cs) (hN : torN W H = N) (h0 : 0 < N) (hM : N * N = M) (px py : Int) :
  (firstsP G N (movesL N N (movdL W H cs G N (stp px py) M) G N) (N * N)).length = (firstsP G N (movesL W H cs G N) (N * N)).length := by
 have hg : Z.G (G : Int) := by have := h.g; show (G : Int) = 4 ∨ (G : Int) = 6; omega
 have hm := stp_ok h px py
 have hd := Z.torN_dvd W H
 rw [hN] at hd
 have g1 := Z.movesL_grp (cs := cs) (g := (G : Int)) h0 hd.1 hd.2
 have g2 := Z.movesL_grp (cs := movdL W H cs G N (stp px py) M) (g := (G : Int)) h0 (Nat.dvd_refl N) (Nat.dvd_refl N)
 rw [moved_col h hN h0 hM hm] at g2
 rw [firstsP_lenT, firstsP_lenT]
 exact (Z.firsts_movedT hg h0 (Z.colP_per cs hd.1 hd.2) hm g1 g2).symm
theorem kind_moved {G W H n N M : Nat} {cs : List Int} {K : Int} (h : ChOk G W H n cs) (hN : torN W H = N) (h24 : N ≤ 24) (h0 : 0 < N) (hM : N * N = M) (px py : Int) (hK : KindIs G W H cs K) : KindIs G N N (movdL W H cs G N (stp px py) M) K := by
 have hg : Z.G (G : Int) := by have := h.g; show (G : Int) = 4 ∨ (G : Int) = 6; omega
 have hm := stp_ok h px py
 refine hK.same h (h.moved h24 h0 hM (stp px py)) (by rw [Z.torN_self h0]; exact h24) ?_
 rw [moved_col h hN h0 hM hm]
 exact Z.sig_moved hg hm
end
section
open Go.RowKit
open Cl Lo
open By (readS)
open Z (torN place pnt Mv To lin okT nrm keepB colP idm md redM both inv stK Sid Upw movesL turnsF waysF kindP alongB movd movdL)
theorem make_print {G W H n N : Nat} {cs : List Int} {K : Int} (h : ChOk G W H n cs) (hl : cs.length = n) (hN : torN W H = N) (h24 : N ≤ 24) (hK : KindIs G W H cs K) : ∃ (l1 l2 l6 : List Int) (l5 : List Bool) (cd : ByteArray),
  ∀ w, Tabs w → Calls Tryd.prog 7 #[.string (printB G W H cs)] w (MkU (nmB K) ((firstsP G N (movesL W H cs G N) (N * N)).length : Nat) W H ((ends W H (rsB cs)).length * (picks W H (rsB cs)).length) (lift (W + H) (abM W H (rsB cs))).length (ends W H (rsB cs)).length (picks W H (rsB cs)).length l1 l2 l5 l6 ((((lift (W + H) (abM W H (rsB cs))).length : Nat) : Int) == 0) (longV true H W (turnL W H (rsB cs))) (longV false W H (rsB cs)) cd 0 0 w) := by
 have hg := h.g
 have hC := h.cr
 have w1 := h.w1; have w2 := h.w2; have k1 := h.h1; have k2 := h.h2
 have hk := h.hn
 have hcol : ∀ y x, y < H → x < W → colK W cs y x < 62 := fun y x hy hx => (cell_col hx hy hC hl hk).2
 have hbytes := printB_bytes (G := G) hcol
 have hok := rowsC_ok hcol
 have hle := printR_le (G := G) w2 hok.w (by rw [rowsC_len]; exact k2)
 have hrd := By.read_print hg w1 w2 hok (by rw [rowsC_len]; exact k1) (by rw [rowsC_len]; exact k2) (by rw [← hbytes]; exact By.bytesOf_lt _) hle
 have hsz : (printB G W H cs).size ≤ 9223372036854775807 := by
  have := By.bytesOf_len (printB G W H cs)
  rw [hbytes] at this
  omega
 have hfl := rowsC_flat (hl.trans hk) (fun x hx => (hC x hx).1)
 have hwd : ((rowsC W H cs).headD []).length = W := by
  have h9 := rowsC_len W H cs
  cases hr : rowsC W H cs with
  | nil => rw [hr] at h9; simp at h9; omega
  | cons r rs => exact hok.w r (by rw [hr]; simp)
 have hlen : (rowsC W H cs).reverse.flatten.length = n := by
  have := congrArg List.length hfl
  rw [natI, List.length_map, hl] at this
  exact this
 obtain ⟨b1, b17⟩ := hK.bd h
 rw [← hbytes] at hrd
 exact ⟨_, _, _, _, _, fun w hT => hMake_ok (printB G W H cs) G (rowsC W H cs) w hT hsz hrd W H n N cs hwd (rowsC_len W H cs) hlen hfl hN h24 K (nmB K) _ _ _ _ _ _ _ _ _ _ _ (Lib.hid fun a c w hI => Kind_is hI h hK) (Lib.hid fun w => name_okT K b1 b17 w) rfl rfl rfl rfl rfl rfl rfl rfl rfl rfl rfl⟩
set_option maxRecDepth 100000 in
set_option maxHeartbeats 8000000 in
theorem moved_bad (G W H px py : Int) (a : Option Addr) (n c : Nat) (cs : List Int) (e : Int) (w : World) (he : e ≠ 0)
  (HAL : Hid (∀ w, Tabs w → Calls Tryd.prog 5 #[] w fun e w' => e = .returned (.bool true) ∧ Below w.heap.size w w'))
  (HT : Hid (Tabs w)) (HI : Hid (IsInts w a n cs))
  (HMV : Hid (∀ w, IsInts w a n cs → Calls Tryd.prog 14 #[.agg #[.int .i64 (G), .int .i64 (W), .int .i64 (H), .slice a n c], .agg #[.int .i64 (0), .bool (false), .int .i64 (px), .int .i64 (py)]] w (MdPost 0 0 0 0 [] e w))) :
  Calls Tryd.prog 4 #[.agg #[.int .i64 (G), .int .i64 (W), .int .i64 (H), .slice a n c], .agg #[.int .i64 (px), .int .i64 (py)]] w fun r w' => r = .returned (.bool true) ∧ Below w.heap.size w w' := by
 have hb0 : (e != 0) = true := by simpa using he
 clear he
 go_enter Tryd.func4, Tryd.ntmps4
 (go_wp2_with fail; refine (HAL.out _ (HT.out.below blw)).mono ?_; rintro r w1 ⟨rfl, hb⟩; obtain ⟨E, d, rfl⟩ := bExt hb; clear hb)
 go_wp2_with fail
 refine (HMV.out _ (HI.out.below blw)).mono ?_
 rintro r w1 ⟨⟨A, C, rfl, _⟩, hb⟩
 obtain ⟨E, d, rfl⟩ := bExt hb
 clear hb
 go_wp2
 go_ret
 exact ⟨rfl, blw⟩
set_option maxRecDepth 100000 in
set_option maxHeartbeats 8000000 in
theorem moved_okT (G W H N M : Nat) (px py : Int) (a : Option Addr) (n c : Nat) (cs cs' : List Int) (s1 s2 : ByteArray) (w : World)
  (kn : ByteArray) (dl : Nat) (n1 n2 n5 n6 m1 m2 m5 m6 e q : Nat) (l1 l2 l6 k1 k2 k6 : List Int) (l5 k5 : List Bool) (hg : Bool) (dn al : Int) (cd cd' : ByteArray)
  (HAL : Hid (∀ w, Tabs w → Calls Tryd.prog 5 #[] w fun e w' => e = .returned (.bool true) ∧ Below w.heap.size w w'))
  (HT : Hid (Tabs w)) (HI : Hid (IsInts w a n cs))
  (HMV : Hid (∀ w, IsInts w a n cs → Calls Tryd.prog 14 #[.agg #[.int .i64 (G), .int .i64 (W), .int .i64 (H), .slice a n c], .agg #[.int .i64 (0), .bool (false), .int .i64 (px), .int .i64 (py)]] w (MdPost G N N M cs' 0 w)))
  (HP1 : Hid (∀ w, IsInts w a n cs → Calls Tryd.prog 15 #[.agg #[.int .i64 (G), .int .i64 (W), .int .i64 (H), .slice a n c]] w fun r w' => r = .returned (.tuple #[.string s1, .int .i64 (0)]) ∧ Below w.heap.size w w'))
  (HP2 : Hid (∀ A C w, IsInts w A M cs' → Calls Tryd.prog 15 #[.agg #[.int .i64 (G), .int .i64 (N), .int .i64 (N), .slice A M C]] w fun r w' => r = .returned (.tuple #[.string s2, .int .i64 (0)]) ∧ Below w.heap.size w w'))
  (HM1 : Hid (∀ w, Tabs w → Calls Tryd.prog 7 #[.string s1] w (MkU kn dl n1 n2 n5 n6 e q l1 l2 l5 l6 hg dn al cd 0 0 w)))
  (HM2 : Hid (∀ w, Tabs w → Calls Tryd.prog 7 #[.string s2] w (MkU kn dl m1 m2 m5 m6 e q k1 k2 k5 k6 hg dn al cd' 0 0 w))) :
  Calls Tryd.prog 4 #[.agg #[.int .i64 (G), .int .i64 (W), .int .i64 (H), .slice a n c], .agg #[.int .i64 (px), .int .i64 (py)]] w fun r w' => r = .returned (.bool true) ∧ Below w.heap.size w w' := by
 have e1 : (hg == hg) = true := by simp
 have e2 : (dn == dn) = true := by simp
 have e3 : (al == al) = true := by simp
 have e4 : ((e : Int) == (e : Int)) = true := by simp
 have e5 : ((q : Int) == (q : Int)) = true := by simp
 have e6 : ((dl : Int) == (dl : Int)) = true := by simp
 go_enter Tryd.func4, Tryd.ntmps4
 (go_wp2_with fail; refine (HAL.out _ (HT.out.below blw)).mono ?_; rintro r w1 ⟨rfl, hb⟩; obtain ⟨E, d, rfl⟩ := bExt hb; clear hb)
 go_wp2_with fail
 refine (HMV.out _ (HI.out.below blw)).mono ?_
 rintro r w1 ⟨⟨A, C, rfl, hI⟩, hb⟩
 obtain ⟨E1, d1, rfl⟩ := bExt hb
 have HI1 := Lib.hid hI
 clear hI hb
 (go_wp2_with fail; refine (HP1.out _ (HI.out.below blw)).mono ?_; rintro r w1 ⟨rfl, hb⟩; obtain ⟨E, d, rfl⟩ := bExt hb; clear hb)
 (go_wp2_with fail; refine (HP2.out _ _ _ (HI1.out.below blw)).mono ?_; rintro r w1 ⟨rfl, hb⟩; obtain ⟨E, d, rfl⟩ := bExt hb; clear hb)
 go_wp2_with fail
 refine (HM1.out _ (HT.out.below blw)).mono ?_
 rintro r w2 ⟨A1, c1, A2, c2, A5, c5, A6, c6, rfl, i1, i2, i5, i6, hb⟩
 obtain ⟨E2, d2, rfl⟩ := bExt hb
 clear hb i1 i2 i5 i6
 go_wp2_with fail
 refine (HM2.out _ (HT.out.below blw)).mono ?_
 rintro r w2 ⟨B1, b1, B2, b2, B5, b5, B6, b6, rfl, i1, i2, i5, i6, hb⟩
 obtain ⟨E3, d3, rfl⟩ := bExt hb
 clear hb i1 i2 i5 i6
 go_wp2
 go_ret
 refine ⟨rfl, ?_⟩
 exact blw
theorem moved_walkT (G W H px py : Int) (a : Option Addr) (n c : Nat) (cs : List Int) (w : World) (hI : IsInts w a n cs) (h0 : (-9223372036854775808 ≤ G ∧ G ≤ 9223372036854775807)) (h1 : (-9223372036854775808 ≤ W ∧ W ≤ 9223372036854775807)) (h2 : (-9223372036854775808 ≤ H ∧ H ≤ 9223372036854775807)) (h3 : n ≤ 9223372036854775807) (hx : (-9223372036854775808 ≤ px ∧ px ≤ 9223372036854775807)) (hy : (-9223372036854775808 ≤ py ∧ py ≤ 9223372036854775807)) (hT : Tabs w) :
  Calls Tryd.prog 4 #[.agg #[.int .i64 (G), .int .i64 (W), .int .i64 (H), .slice a n c], .agg #[.int .i64 (px), .int .i64 (py)]] w fun r w' => r = .returned (.bool true) ∧ Below w.heap.size w w' := by
 rcases chart_casesT G W H a n c cs h0 h1 h2 h3 with ⟨e, hb⟩ | ⟨G', W', H', N, rfl, rfl, rfl, h, hN, hp, h24⟩
 ·exact moved_bad G W H px py a n c cs e w hb.1 (Lib.hid fun w h => alive_top w h) (Lib.hid hT) (Lib.hid hI) (Lib.hid fun w hI => Moved_badT G W H a n c cs 0 false px py w hI e hb)
 ·by_cases he : wE G' 0 px py = 0
  ·have hmd := fun (w : World) (hI : IsInts w a n cs) => Moved_ok G' W' H' n N 0 (N * N) false px py a c cs w hI h hN h24 hp rfl hx hy he
   obtain ⟨K, hK⟩ := KindIs.ex h (by omega)
   have hK' := kind_moved h hN h24 hp rfl px py hK
   have h' := h.moved h24 hp rfl (stp px py)
   have hlb := laid_moved h hN hp rfl px py
   have hd := Z.torN_dvd W' H'
   rw [hN] at hd
   have hl' : (movdL W' H' cs G' N (stp px py) (N * N)).length = N * N := Z.movdL_len _ _
   obtain ⟨l1, l2, l6, l5, cd, hm1⟩ := make_print h hI.1 hN h24 hK
   obtain ⟨k1, k2, k6, k5, cd', hm2⟩ := make_print h' hl' (Z.torN_self hp) h24 hK'
   rw [points_moved h hN hp rfl px py, hlb.ends hd.1 hd.2 h.w1 h.h1 hp, hlb.picks hd.1 hd.2 h.w1 h.h1 hp, hlb.long hd.1 hd.2 h.w1 h.h1 hp, (hlb.turn h.w1 h.h1).long hd.2 hd.1 h.h1 h.w1 hp] at hm2
   have hlift : ((((lift (N + N) (abM N N (rsB (movdL W' H' cs G' N (stp px py) (N * N))))).length : Nat) : Int) == 0) = ((((lift (W' + H') (abM W' H' (rsB cs))).length : Nat) : Int) == 0) := by
    have := hlb.lift hd.1 hd.2 h.w1 h.h1 hp
    rw [Bool.eq_iff_iff]
    simp only [beq_iff_eq, Int.natCast_eq_zero, List.length_eq_zero_iff]
    exact this
   rw [hlift] at hm2
   exact moved_okT G' W' H' N (N * N) px py a n c cs _ _ _ w _ _ _ _ _ _ _ _ _ _ _ _ _ _ _ _ _ _ _ _ _ _ _ _ _ (Lib.hid fun w h => alive_top w h) (Lib.hid hT) (Lib.hid hI) (Lib.hid hmd) (Lib.hid fun w hI => chPrint_ok G' W' H' n a c cs w hI h.g h.w1 h.w2 h.h1 h.h2 h.hn h.cr) (Lib.hid fun A C w hI => chPrint_ok G' N N (N * N) A C _ w hI h'.g h'.w1 h'.w2 h'.h1 h'.h2 h'.hn h'.cr) (Lib.hid hm1) (Lib.hid hm2)
  ·exact moved_bad G' W' H' px py a n c cs _ w he (Lib.hid fun w h => alive_top w h) (Lib.hid hT) (Lib.hid hI) (Lib.hid fun w hI => Moved_wrongT G' W' H' n N a c cs 0 false px py w hI h hN h24 (by omega) hx hy he)
end
section
open Go.ChangeShapes Go.WideShapes Go.ChangeAt Go.RowKit Go.Joins
open Go.ChangeMaps (open_string shut_string)
set_option maxRecDepth 100000
theorem int_wf {x : Int} (h : (Lit.int .i64 x).wf = true) : (-9223372036854775808 ≤ x ∧ x ≤ 9223372036854775807) := by
 simpa [Lit.wf, IntKind.min, IntKind.max, IntKind.signed, IntKind.bits] using h
section
variable {H : Type} {enc : TypeId × Value → H} {W : World} {base b0 : Nat} {spare : Addr → Bool} {held : Bool} {v : Value} {d : DataW H} {p : List MemPlace}
theorem cellsPoint : Tryd.prog.cellsOf 52 = 2 := by kernel_rfl
theorem pt_arg (hv : Value.okWide Tryd.prog W .any b0 52 v) (h : DataW.Trod enc Tryd.prog W 0 (fun _ => true) true 52 v d p) : ∃ x y, v = .agg #[.int .i64 (x), .int .i64 (y)] ∧ (-9223372036854775808 ≤ x ∧ x ≤ 9223372036854775807) ∧ (-9223372036854775808 ≤ y ∧ y ≤ 9223372036854775807) := by
 obtain ⟨c0, c1, z0, z1, m, e, _, _, hy0, hy1⟩ := open_agg2 Tryd.underlying52 (by kernel_rfl) cellsPoint hv h
 obtain ⟨x, e0, _, wa⟩ := DataW.trod_int Tryd.underlying3 hy0
 obtain ⟨y, e1, _, wb⟩ := DataW.trod_int Tryd.underlying3 hy1
 simp at e0 e1
 subst e0 e1
 exact ⟨x, y, e, int_wf wa, int_wf wb⟩
end
end
section
open Go.ChangeShapes Go.WideShapes Go.ChangeAt Go.RowKit Go.Joins
section
variable {H : Type} {enc : TypeId × Value → H} {W : World} {base b0 : Nat} {spare : Addr → Bool} {held : Bool} {v : Value} {d : DataW H} {p : List MemPlace}
end
end
section
open Go.ChangeShapes Go.WideShapes Go.ChangeAt Go.RowKit Go.Joins
section
variable {H : Type} {enc : TypeId × Value → H} {W : World} {base b0 : Nat} {spare : Addr → Bool} {held : Bool} {v : Value} {d : DataW H} {p : List MemPlace}
end
end
section
open Go.ChangeShapes Go.WideShapes Go.ChangeAt Go.RowKit Go.Joins
set_option maxRecDepth 100000
section
variable {H : Type} {enc : TypeId × Value → H} {W : World} {base b0 : Nat} {spare : Addr → Bool} {held : Bool} {v : Value} {d : DataW H} {p : List MemPlace}
theorem intsZ_cells {fuel : Nat} {cs : List Value} {x : DataW H × List MemPlace} (h : DataW.trod enc Tryd.prog W 0 (fun _ => true) true fuel 23 cs = some x) :
  ∃ a n c z, cs = [.slice a n c] ∧ IsInts W a n z ∧ n ≤ 9223372036854775807 ∧ (a = none → c = 0) := by
 rcases open_ints Tryd.underlying23 Tryd.underlying3 (by kernel_rfl) h with ⟨hcs, _⟩ | ⟨x, l, c, zs, hcs, _, hl, hm, hz, _, hcell, hwz⟩
 ·exact ⟨none, 0, 0, [], hcs, ⟨rfl, fun h => by omega⟩, by omega, fun _ => rfl⟩
 ·simp only [if_true] at hz
  unfold maxLen at hm
  refine ⟨some x, l, c, zs.take l, hcs, ⟨by rw [List.length_take]; omega, fun hn => ?_⟩, by omega, fun e => by cases e⟩
  obtain ⟨b, off, spot⟩ := x
  have h0 := hcell 0 (by omega)
  have hspot : spot = none := by simpa [Addr.add] using World.cell?_spot h0
  subst hspot
  refine ⟨b, off, rfl, World.block_lt_of_cell? W _ h0, fun j hj => ?_⟩
  have := hcell j (by omega)
  rw [Addr.add_lit] at this
  rw [this, List.getD_eq_getElem?_getD, List.getD_eq_getElem?_getD, List.getElem?_take, if_pos hj]
theorem cellsIntsE : Tryd.prog.cellsOf 23 = 1 := by kernel_rfl
theorem cellsIntE : Tryd.prog.cellsOf 3 = 1 := by kernel_rfl
theorem cellsChart : Tryd.prog.cellsOf 25 = 4 := by kernel_rfl
theorem chart_argE (hv : Value.okWide Tryd.prog W .any b0 25 v) (h : DataW.Trod enc Tryd.prog W 0 (fun _ => true) true 25 v d p) :
  ∃ g w h a n c cs, v = .agg #[.int .i64 g, .int .i64 w, .int .i64 h, .slice a n c] ∧ (-9223372036854775808 ≤ g ∧ g ≤ 9223372036854775807) ∧ (-9223372036854775808 ≤ w ∧ w ≤ 9223372036854775807) ∧ (-9223372036854775808 ≤ h ∧ h ≤ 9223372036854775807) ∧ n ≤ 9223372036854775807 ∧ IsInts W a n cs := by
 obtain ⟨cs, rfl, hsz⟩ := okWide_struct Tryd.underlying25 hv
 obtain ⟨c0, c1, c2, c3, rfl⟩ : ∃ c0 c1 c2 c3, cs = #[c0, c1, c2, c3] := by
  rw [cellsChart] at hsz
  match cs, hsz with
  | ⟨[c0, c1, c2, c3]⟩, _ => exact ⟨c0, c1, c2, c3, rfl⟩
 obtain ⟨fuel, hf⟩ := h
 obtain ⟨z0, z1, z2, z3, n, _, _, h0, h1, h2, h3⟩ := trod_struct4 Tryd.underlying25 hf
 simp only [cellsIntE, cellsIntsE, Value.cells] at h0 h1 h2 h3
 obtain ⟨x, e0, _, wa⟩ := DataW.trod_int Tryd.underlying3 h0
 obtain ⟨y, e1, _, wb⟩ := DataW.trod_int Tryd.underlying3 h1
 obtain ⟨z, e2, _, wc⟩ := DataW.trod_int Tryd.underlying3 h2
 obtain ⟨a, l, c, cs, e3, g2, g3, _⟩ := intsZ_cells h3
 simp at e0 e1 e2 e3
 subst e0 e1 e2 e3
 exact ⟨x, y, z, a, l, c, cs, rfl, int_wf wa, int_wf wb, int_wf wc, g3, g2⟩
end
end
end Go.Proofs.YtajdoobkfbdgoaaDoor
