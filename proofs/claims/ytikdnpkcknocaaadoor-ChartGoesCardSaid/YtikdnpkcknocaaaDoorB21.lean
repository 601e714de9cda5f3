/- Lemmas and contracts of functions (what each call returns, and that it changes nothing that was there) that the proof of a law of this seat uses; each lemma states its own conditions. -/
import Derived.Test.YtikdnpkcknocaaaDoorB20
namespace Go.Proofs.YtikdnpkcknocaaaDoor
open Go.RowKit
set_option linter.unusedVariables false
set_option linter.unusedSimpArgs false
theorem bat_below {T e : TypeId} {B b : Nat} {p : Value} {bs : List Value} {w w' : World} (h : Lib.BuilderAt T e B b p bs w) (hb : Below w.heap.size w w') : Lib.BuilderAt T e B b p bs w' := by
  have hl := h.lt
  obtain ⟨h1, v, h2, h3, h4⟩ := h
  exact ⟨h1, v, (hb.block b hl).trans h2, ownBelow h3 hb, h4⟩
set_option maxRecDepth 100000 in
set_option maxHeartbeats 8000000 in
theorem chPrint_ok (G W H n : Nat) (a : Option Addr) (c : Nat) (cs : List Int) (w : World) (hI : IsInts w a n cs) (hG : G = 4 ∨ G = 6) (hW1 : 0 < W) (hW : W ≤ 64) (hH1 : 0 < H) (hH : H ≤ 64) (hn : n = W * H) (hCR : ∀ x ∈ cs, 0 ≤ x ∧ x < 62) :
    Calls Tryd.prog 15 #[.agg #[.int .i64 (G), .int .i64 (W), .int .i64 (H), .slice a n c]] w fun e w' => e = .returned (.tuple #[.string (printB G W H cs), .int .i64 (0)]) ∧ Below w.heap.size w w' := by
  have hn4 : n ≤ 4096 := by rw [hn]; exact Nat.mul_le_mul hW hH
  have he : chE G W H n cs = 0 := chE_ok (by omega) (by omega) hW (by omega) hH hn hCR
  have HR := Lib.hid (fun w hI => chWrong_any G W H a n c cs w hI (by omega) (by omega) (by omega) (by omega))
  rw [he] at HR
  have HL := Lib.hid (fun (x y : Nat) (hx : x < W) (hy : y < H) => (cell_col hx hy hCR hI.1 hn).2)
  have HI := Lib.hid hI
  clear he
  have hW4 : (4 * W + 1) * H ≤ 257 * 64 := Nat.mul_le_mul (by omega) hH
  have HCELL : Hid (∀ wr : World, Below w.heap.size w wr → ∀ x y, x < W → y < H → ∃ b o : Nat, a = some ⟨b, o, none⟩ ∧ b < wr.heap.size ∧ wr.cell? ⟨b, o + (y * W + x), none⟩ = some (.int .i64 (colK W cs y x)) ∧ y * W + x < n) := Lib.hid fun wr hb x y hx hy => by
    have hp : y * W + x < n := by
      have h1 : (y + 1) * W ≤ H * W := Nat.mul_le_mul_right W (by omega)
      have h2 : (y + 1) * W = y * W + W := Nat.succ_mul y W
      rw [hn, Nat.mul_comm W H]; omega
    obtain ⟨b, o, e1, h2, h3⟩ := (hI.below hb).2 (by omega)
    refine ⟨b, o, e1, h2, ?_, hp⟩
    rw [h3 _ hp]
    have hpl : y * W + x < cs.length := by rw [hI.1]; exact hp
    have h4 := hCR _ (List.getElem_mem hpl)
    have h5 : cs.getD (y * W + x) 0 = cs[y * W + x] := by rw [List.getD_eq_getElem?_getD, List.getElem?_eq_getElem hpl]; rfl
    unfold colK
    rw [h5, Int.toNat_of_nonneg h4.1]
  clear hI hCR hn
  have HPR : Hid (∀ G, printB G W H cs = ⟨(hdL G ++ topL W H cs H).toArray⟩) := Lib.hid fun G => by
    have h1 := print_L (G := G) (fun y x hy hx => HL.out x y hx hy)
    rw [← h1]
  rcases hG with rfl | rfl
  · skip
    go_enter Tryd.func15, Tryd.ntmps15
    (go_wp2_with fail; refine (HR.out _ (HI.out.below (by repeat (first | exact Below.refl _ _ | refine Below.drew ?_ | refine below_drewN ?_ _ | refine Below.alloc ?_ (by first | exact Nat.le_refl _ | (simp; done) | (simp; omega) | omega) _ | refine Below.setCell ?_ (by first | exact Nat.le_refl _ | (simp; done) | (simp; omega) | omega) _ | refine bExtW ?_ (by first | exact Nat.le_refl _ | (simp; done) | (simp; omega) | omega) | refine Below.trans ?_ (Below.mono (by assumption) (by first | exact Nat.le_refl _ | (simp; done) | (simp; omega) | omega)))))).mono ?_; rintro r w1 ⟨rfl, hb⟩; obtain ⟨E, d, rfl⟩ := bExt hb; clear hb)
    obtain ⟨W1, hW1⟩ : ∃ W1, W1 = extW (w.alloc (.cells #[.int .i64 ((4 : Int)), .int .i64 (W), .int .i64 (H), .slice a n c] 27)) E d := ⟨_, rfl⟩
    rw [← hW1]
    have HB1 : Hid (Below w.heap.size w W1) := Lib.hid (by rw [hW1]; exact (by repeat (first | exact Below.refl _ _ | refine Below.drew ?_ | refine below_drewN ?_ _ | refine Below.alloc ?_ (by first | exact Nat.le_refl _ | (simp; done) | (simp; omega) | omega) _ | refine Below.setCell ?_ (by first | exact Nat.le_refl _ | (simp; done) | (simp; omega) | omega) _ | refine bExtW ?_ (by first | exact Nat.le_refl _ | (simp; done) | (simp; omega) | omega) | refine Below.trans ?_ (Below.mono (by assumption) (by first | exact Nat.le_refl _ | (simp; done) | (simp; omega) | omega)))))
    have hsz1 : w.heap.size + 1 ≤ W1.heap.size := by rw [hW1, size_extW, World.size_alloc]; omega
    have cb0 : W1.cell? ⟨w.heap.size, 0, none⟩ = some (.int .i64 ((4 : Int))) := by rw [hW1]; simp [go_sem]
    have cb1 : W1.cell? ⟨w.heap.size, 1, none⟩ = some (.int .i64 (W)) := by rw [hW1]; simp [go_sem]
    have cb2 : W1.cell? ⟨w.heap.size, 2, none⟩ = some (.int .i64 (H)) := by rw [hW1]; simp [go_sem]
    have cb3 : W1.cell? ⟨w.heap.size, 3, none⟩ = some (.slice a n c) := by rw [hW1]; simp [go_sem]
    have lb : LtW w.heap.size W1 := by unfold LtW; omega
    clear hW1
    go_wp2_with fail
    refine (bld_str W1.heap.size W1.heap.size [] ⟨#[226, 150, 161, 10]⟩ _ (Lib.fresh_isBuilder _ _ W1) (by decide) (by simp)).mono ?_
    rintro r w2 ⟨rfl, hB2, hb2⟩
    have HBW : Hid (Lib.BuilderAt 63 5 W1.heap.size W1.heap.size (.pointer (some ⟨W1.heap.size, 0, none⟩)) (Lib.byteCells (hdL 4 ++ topL W H cs 0)) w2 ∧ Below W1.heap.size W1 w2) := Lib.hid ⟨hB2, ((Below.refl _ _).alloc (Nat.le_refl _) _).trans hb2⟩
    clear hB2 hb2
    have hs1 : w.heap.size < W1.heap.size := by omega
    have k1 := bCs HBW.out.2 cb1
    have k2 := bCs HBW.out.2 cb2
    have k3 := bCs HBW.out.2 cb3
    have lk : LtW w.heap.size w2 := Nat.lt_of_lt_of_le hs1 HBW.out.2.size
    have hsw : W1.heap.size ≤ (w2).heap.size := HBW.out.2.size
    have HBB : Hid (Below w.heap.size w w2) := Lib.hid (HB1.out.trans (HBW.out.2.mono (by omega)))
    go_wp2_with fail
    go_loopw [6] (fun yv wr => ∃ (k : Nat) (y : Int), k ≤ H ∧ y = (H : Int) - 1 - k ∧ yv = .int .i64 y ∧ Hid (Lib.BuilderAt 63 5 W1.heap.size W1.heap.size (.pointer (some ⟨W1.heap.size, 0, none⟩)) (Lib.byteCells (hdL 4 ++ topL W H cs k)) wr ∧ Below W1.heap.size W1 wr)) (fun yv _ => (intOf yv + 1).toNat)
    case atStart => exact ⟨0, (H : Int) - 1, by omega, by omega, by go_num, HBW⟩
    case round =>
      clear HBW HBB k1 k2 k3 lk hsw
      obtain ⟨k, y, hk, hy, rfl, HBW⟩ := hrel
      have hs1 : w.heap.size < W1.heap.size := by omega
      have k1 := bCs HBW.out.2 cb1
      have k2 := bCs HBW.out.2 cb2
      have k3 := bCs HBW.out.2 cb3
      have lk : LtW w.heap.size wr := Nat.lt_of_lt_of_le hs1 HBW.out.2.size
      have hsw : W1.heap.size ≤ (wr).heap.size := HBW.out.2.size
      have HBB : Hid (Below w.heap.size w wr) := Lib.hid (HB1.out.trans (HBW.out.2.mono (by omega)))
      by_cases hkH : k < H
      · obtain ⟨yn, rfl⟩ : ∃ yn : Nat, y = yn := ⟨y.toNat, by omega⟩
        have HYN : Hid (yn = H - 1 - k) := Lib.hid (by omega)
        have hynH : yn < H := by omega
        have HY := Lib.hid hy
        clear hy
        have d0 : decide ((yn : Int) ≥ 0) = true := by simp
        go_wp2_with fail
        obtain ⟨wo, rfl⟩ : ∃ wo : World, wo = wr := ⟨_, rfl⟩
        go_loopw [27] (fun xv wr => ∃ (x : Nat), x ≤ W ∧ xv = .int .i64 x ∧ Hid (Lib.BuilderAt 63 5 W1.heap.size W1.heap.size (.pointer (some ⟨W1.heap.size, 0, none⟩)) (Lib.byteCells ((hdL 4 ++ topL W H cs k) ++ rowU W cs yn x)) wr ∧ Below W1.heap.size W1 wr)) (fun xv _ => W - (intOf xv).toNat)
        case atStart => exact ⟨0, by omega, rfl, by simpa [rowU] using HBW⟩
        case round =>
          clear HBW HBB k1 k2 k3 lk hsw
          obtain ⟨x, hx, rfl, HBW⟩ := hrel
          have hs1 : w.heap.size < W1.heap.size := by omega
          have k1 := bCs HBW.out.2 cb1
          have k2 := bCs HBW.out.2 cb2
          have k3 := bCs HBW.out.2 cb3
          have lk : LtW w.heap.size wr := Nat.lt_of_lt_of_le hs1 HBW.out.2.size
          have hsw : W1.heap.size ≤ (wr).heap.size := HBW.out.2.size
          have HBB : Hid (Below w.heap.size w wr) := Lib.hid (HB1.out.trans (HBW.out.2.mono (by omega)))
          by_cases hxW : x < W
          · obtain ⟨b, o, ha, hb, hc, hp⟩ := HCELL.out wr HBB.out x yn hxW hynH
            subst ha
            have hq := HL.out x yn hxW hynH
            have HRU : Hid (rowU W cs yn (x + 1) = rowU W cs yn x ++ Lib.encodeRune (signK (colK W cs yn x))) := Lib.hid rfl
            have hl1 := topL_len (W := W) (H := H) (cs := cs) k
            have hl2 := rowU_len (W := W) (cs := cs) (y := yn) x
            have hl3 : (4 * W + 1) * k ≤ 257 * 64 := Nat.mul_le_mul (by omega) (by omega)
            have hl4 : (hdL 4).length = 4 := by decide
            have HLEN : Hid ((Lib.byteCells ((hdL 4 ++ topL W H cs k) ++ rowU W cs yn x)).length ≤ 1000000) := Lib.hid (by rw [Lib.byteCells_length, List.length_append, List.length_append]; omega)
            have HSG := Lib.hid (sign_lt hq)
            clear hl1 hl2 hl3 hl4 HCELL HL HPR HR
            generalize rowU W cs yn x = ru at *
            generalize colK W cs yn x = q at *
            obtain ⟨M, hM⟩ : ∃ M, yn * W = M := ⟨_, rfl⟩
            obtain ⟨p, hpp⟩ : ∃ p, M + x = p := ⟨_, rfl⟩
            have hMi : (yn : Int) * (W : Int) = (M : Int) := by rw [← hM]; push_cast; rfl
            have hMp : (M : Int) + (x : Int) = (p : Int) := by rw [← hpp]; push_cast; rfl
            rw [hM, hpp] at hc hp
            have vM : IntKind.i64.wrap (M : Int) = (M : Int) := IntWalk.i64_in _ (by omega)
            have vp : IntKind.i64.wrap (p : Int) = (p : Int) := IntWalk.i64_in _ (by omega)
            have lbb : LtW b wr := hb
            clear hM hpp hb hW4
            go_wp2_with fail
            refine (sign_ok q _ hq).mono ?_
            rintro r w3 ⟨rfl, hb3⟩
            have hB3 := bat_below HBW.out.1 hb3
            have hbl3 : Below W1.heap.size W1 w3 := HBW.out.2.trans (hb3.mono hsw)
            clear HBW hb3 k1 k2 k3 lk hc lbb
            go_wp2_with fail
            refine (bld_rune W1.heap.size W1.heap.size _ (signK q) (by omega) (by have := HSG.out; omega) w3 (.inr hB3) HLEN.out hbl3.size).mono ?_
            rintro r w4 ⟨rfl, hB4, hb4⟩
            rw [← Lib.byteCells_encodeRune, ← Lib.byteCells_append] at hB4
            have HBW : Hid (Lib.BuilderAt 63 5 W1.heap.size W1.heap.size (.pointer (some ⟨W1.heap.size, 0, none⟩)) (Lib.byteCells ((hdL 4 ++ topL W H cs k) ++ (ru ++ Lib.encodeRune (signK q)))) w4 ∧ Below W1.heap.size W1 w4) := Lib.hid ⟨by rw [← List.append_assoc]; exact hB4, hbl3.trans hb4⟩
            clear hB3 hB4 hb4 hbl3
            go_wp2
            go_roundw
            case rel => exact ⟨x + 1, by omega, by go_num, by rw [HRU.out]; exact HBW⟩
            case measure => simp [intOf]; omega
          · obtain rfl : x = W := by omega
            have dx : decide ((x : Int) < (x : Int)) = false := by simp
            have hl1 := topL_len (W := x) (H := H) (cs := cs) k
            have hl2 := rowU_len (W := x) (cs := cs) (y := yn) x
            have hl3 : (4 * x + 1) * k ≤ 257 * 64 := Nat.mul_le_mul (by omega) (by omega)
            have hl4 : (hdL 4).length = 4 := by decide
            have HLEN : Hid ((Lib.byteCells ((hdL 4 ++ topL x H cs k) ++ rowU x cs yn x)).length ≤ 1000000) := Lib.hid (by rw [Lib.byteCells_length, List.length_append, List.length_append]; omega)
            have HTU : Hid (topL x H cs (k + 1) = topL x H cs k ++ rowU x cs yn x ++ [10]) := Lib.hid (by simp only [topL]; rw [HYN.out])
            clear hl1 hl2 hl3 hl4 HCELL HL HPR HR hW4
            go_wp2_with fail
            refine (bld_byte W1.heap.size W1.heap.size _ 10 (by omega) _ (.inr HBW.out.1) HLEN.out hsw).mono ?_
            rintro r w4 ⟨rfl, hB4, hb4⟩
            have HBX : Hid (Lib.BuilderAt 63 5 W1.heap.size W1.heap.size (.pointer (some ⟨W1.heap.size, 0, none⟩)) (Lib.byteCells (hdL 4 ++ topL x H cs (k + 1))) w4 ∧ Below W1.heap.size W1 w4) := Lib.hid ⟨by
              rw [HTU.out, ← List.append_assoc, ← List.append_assoc, Lib.byteCells_append _ [10]]; exact hB4, HBW.out.2.trans hb4⟩
            clear HBW hB4 hb4 k1 k2 k3 lk HBB
            have v1 : IntKind.i64.wrap ((yn : Int) - 1) = (yn : Int) - 1 := IntWalk.i64_in _ (by omega)
            go_wp2
            go_roundw
            case rel => exact ⟨k + 1, (yn : Int) - 1, by omega, by have := HY.out; omega, by go_num, HBX⟩
            case measure => have := HYN.out; simp [intOf] <;> omega
      · obtain rfl : k = H := by omega
        obtain rfl : y = -1 := by omega
        have HS := Lib.hid (bld_string W1.heap.size W1.heap.size (hdL 4 ++ topL W k cs k) wr (.inr HBW.out.1) (by rw [show hdL 4 = [226, 150, 161, 10] from by decide]; simp))
        clear HCELL HL HR hW4 k1 k2 k3 lk
        go_wp2_with fail
        refine HS.out.mono ?_
        rintro r w4 ⟨rfl, hb4⟩
        have HBX : Hid (Below w.heap.size w w4) := Lib.hid (HBB.out.trans (hb4.mono (by omega)))
        clear HBW HBB hb4 HS
        go_wp2
        go_ret2
        exact ⟨by rw [HPR.out 4]; rfl, HBX.out⟩
  · skip
    go_enter Tryd.func15, Tryd.ntmps15
    (go_wp2_with fail; refine (HR.out _ (HI.out.below (by repeat (first | exact Below.refl _ _ | refine Below.drew ?_ | refine below_drewN ?_ _ | refine Below.alloc ?_ (by first | exact Nat.le_refl _ | (simp; done) | (simp; omega) | omega) _ | refine Below.setCell ?_ (by first | exact Nat.le_refl _ | (simp; done) | (simp; omega) | omega) _ | refine bExtW ?_ (by first | exact Nat.le_refl _ | (simp; done) | (simp; omega) | omega) | refine Below.trans ?_ (Below.mono (by assumption) (by first | exact Nat.le_refl _ | (simp; done) | (simp; omega) | omega)))))).mono ?_; rintro r w1 ⟨rfl, hb⟩; obtain ⟨E, d, rfl⟩ := bExt hb; clear hb)
    obtain ⟨W1, hW1⟩ : ∃ W1, W1 = extW (w.alloc (.cells #[.int .i64 ((6 : Int)), .int .i64 (W), .int .i64 (H), .slice a n c] 27)) E d := ⟨_, rfl⟩
    rw [← hW1]
    have HB1 : Hid (Below w.heap.size w W1) := Lib.hid (by rw [hW1]; exact (by repeat (first | exact Below.refl _ _ | refine Below.drew ?_ | refine below_drewN ?_ _ | refine Below.alloc ?_ (by first | exact Nat.le_refl _ | (simp; done) | (simp; omega) | omega) _ | refine Below.setCell ?_ (by first | exact Nat.le_refl _ | (simp; done) | (simp; omega) | omega) _ | refine bExtW ?_ (by first | exact Nat.le_refl _ | (simp; done) | (simp; omega) | omega) | refine Below.trans ?_ (Below.mono (by assumption) (by first | exact Nat.le_refl _ | (simp; done) | (simp; omega) | omega)))))
    have hsz1 : w.heap.size + 1 ≤ W1.heap.size := by rw [hW1, size_extW, World.size_alloc]; omega
    have cb0 : W1.cell? ⟨w.heap.size, 0, none⟩ = some (.int .i64 ((6 : Int))) := by rw [hW1]; simp [go_sem]
    have cb1 : W1.cell? ⟨w.heap.size, 1, none⟩ = some (.int .i64 (W)) := by rw [hW1]; simp [go_sem]
    have cb2 : W1.cell? ⟨w.heap.size, 2, none⟩ = some (.int .i64 (H)) := by rw [hW1]; simp [go_sem]
    have cb3 : W1.cell? ⟨w.heap.size, 3, none⟩ = some (.slice a n c) := by rw [hW1]; simp [go_sem]
    have lb : LtW w.heap.size W1 := by unfold LtW; omega
    clear hW1
    go_wp2_with fail
    refine (bld_str W1.heap.size W1.heap.size [] ⟨#[226, 150, 179, 10]⟩ _ (Lib.fresh_isBuilder _ _ W1) (by decide) (by simp)).mono ?_
    rintro r w2 ⟨rfl, hB2, hb2⟩
    have HBW : Hid (Lib.BuilderAt 63 5 W1.heap.size W1.heap.size (.pointer (some ⟨W1.heap.size, 0, none⟩)) (Lib.byteCells (hdL 6 ++ topL W H cs 0)) w2 ∧ Below W1.heap.size W1 w2) := Lib.hid ⟨hB2, ((Below.refl _ _).alloc (Nat.le_refl _) _).trans hb2⟩
    clear hB2 hb2
    have hs1 : w.heap.size < W1.heap.size := by omega
    have k1 := bCs HBW.out.2 cb1
    have k2 := bCs HBW.out.2 cb2
    have k3 := bCs HBW.out.2 cb3
    have lk : LtW w.heap.size w2 := Nat.lt_of_lt_of_le hs1 HBW.out.2.size
    have hsw : W1.heap.size ≤ (w2).heap.size := HBW.out.2.size
    have HBB : Hid (Below w.heap.size w w2) := Lib.hid (HB1.out.trans (HBW.out.2.mono (by omega)))
    go_wp2_with fail
    go_loopw [6] (fun yv wr => ∃ (k : Nat) (y : Int), k ≤ H ∧ y = (H : Int) - 1 - k ∧ yv = .int .i64 y ∧ Hid (Lib.BuilderAt 63 5 W1.heap.size W1.heap.size (.pointer (some ⟨W1.heap.size, 0, none⟩)) (Lib.byteCells (hdL 6 ++ topL W H cs k)) wr ∧ Below W1.heap.size W1 wr)) (fun yv _ => (intOf yv + 1).toNat)
    case atStart => exact ⟨0, (H : Int) - 1, by omega, by omega, by go_num, HBW⟩
    case round =>
      clear HBW HBB k1 k2 k3 lk hsw
      obtain ⟨k, y, hk, hy, rfl, HBW⟩ := hrel
      have hs1 : w.heap.size < W1.heap.size := by omega
      have k1 := bCs HBW.out.2 cb1
      have k2 := bCs HBW.out.2 cb2
      have k3 := bCs HBW.out.2 cb3
      have lk : LtW w.heap.size wr := Nat.lt_of_lt_of_le hs1 HBW.out.2.size
      have hsw : W1.heap.size ≤ (wr).heap.size := HBW.out.2.size
      have HBB : Hid (Below w.heap.size w wr) := Lib.hid (HB1.out.trans (HBW.out.2.mono (by omega)))
      by_cases hkH : k < H
      · obtain ⟨yn, rfl⟩ : ∃ yn : Nat, y = yn := ⟨y.toNat, by omega⟩
        have HYN : Hid (yn = H - 1 - k) := Lib.hid (by omega)
        have hynH : yn < H := by omega
        have HY := Lib.hid hy
        clear hy
        have d0 : decide ((yn : Int) ≥ 0) = true := by simp
        go_wp2_with fail
        obtain ⟨wo, rfl⟩ : ∃ wo : World, wo = wr := ⟨_, rfl⟩
        go_loopw [27] (fun xv wr => ∃ (x : Nat), x ≤ W ∧ xv = .int .i64 x ∧ Hid (Lib.BuilderAt 63 5 W1.heap.size W1.heap.size (.pointer (some ⟨W1.heap.size, 0, none⟩)) (Lib.byteCells ((hdL 6 ++ topL W H cs k) ++ rowU W cs yn x)) wr ∧ Below W1.heap.size W1 wr)) (fun xv _ => W - (intOf xv).toNat)
        case atStart => exact ⟨0, by omega, rfl, by simpa [rowU] using HBW⟩
        case round =>
          clear HBW HBB k1 k2 k3 lk hsw
          obtain ⟨x, hx, rfl, HBW⟩ := hrel
          have hs1 : w.heap.size < W1.heap.size := by omega
          have k1 := bCs HBW.out.2 cb1
          have k2 := bCs HBW.out.2 cb2
          have k3 := bCs HBW.out.2 cb3
          have lk : LtW w.heap.size wr := Nat.lt_of_lt_of_le hs1 HBW.out.2.size
          have hsw : W1.heap.size ≤ (wr).heap.size := HBW.out.2.size
          have HBB : Hid (Below w.heap.size w wr) := Lib.hid (HB1.out.trans (HBW.out.2.mono (by omega)))
          by_cases hxW : x < W
          · obtain ⟨b, o, ha, hb, hc, hp⟩ := HCELL.out wr HBB.out x yn hxW hynH
            subst ha
            have hq := HL.out x yn hxW hynH
            have HRU : Hid (rowU W cs yn (x + 1) = rowU W cs yn x ++ Lib.encodeRune (signK (colK W cs yn x))) := Lib.hid rfl
            have hl1 := topL_len (W := W) (H := H) (cs := cs) k
            have hl2 := rowU_len (W := W) (cs := cs) (y := yn) x
            have hl3 : (4 * W + 1) * k ≤ 257 * 64 := Nat.mul_le_mul (by omega) (by omega)
            have hl4 : (hdL 6).length = 4 := by decide
            have HLEN : Hid ((Lib.byteCells ((hdL 6 ++ topL W H cs k) ++ rowU W cs yn x)).length ≤ 1000000) := Lib.hid (by rw [Lib.byteCells_length, List.length_append, List.length_append]; omega)
            have HSG := Lib.hid (sign_lt hq)
            clear hl1 hl2 hl3 hl4 HCELL HL HPR HR
            generalize rowU W cs yn x = ru at *
            generalize colK W cs yn x = q at *
            obtain ⟨M, hM⟩ : ∃ M, yn * W = M := ⟨_, rfl⟩
            obtain ⟨p, hpp⟩ : ∃ p, M + x = p := ⟨_, rfl⟩
            have hMi : (yn : Int) * (W : Int) = (M : Int) := by rw [← hM]; push_cast; rfl
            have hMp : (M : Int) + (x : Int) = (p : Int) := by rw [← hpp]; push_cast; rfl
            rw [hM, hpp] at hc hp
            have vM : IntKind.i64.wrap (M : Int) = (M : Int) := IntWalk.i64_in _ (by omega)
            have vp : IntKind.i64.wrap (p : Int) = (p : Int) := IntWalk.i64_in _ (by omega)
            have lbb : LtW b wr := hb
            clear hM hpp hb hW4
            go_wp2_with fail
            refine (sign_ok q _ hq).mono ?_
            rintro r w3 ⟨rfl, hb3⟩
            have hB3 := bat_below HBW.out.1 hb3
            have hbl3 : Below W1.heap.size W1 w3 := HBW.out.2.trans (hb3.mono hsw)
            clear HBW hb3 k1 k2 k3 lk hc lbb
            go_wp2_with fail
            refine (bld_rune W1.heap.size W1.heap.size _ (signK q) (by omega) (by have := HSG.out; omega) w3 (.inr hB3) HLEN.out hbl3.size).mono ?_
            rintro r w4 ⟨rfl, hB4, hb4⟩
            rw [← Lib.byteCells_encodeRune, ← Lib.byteCells_append] at hB4
            have HBW : Hid (Lib.BuilderAt 63 5 W1.heap.size W1.heap.size (.pointer (some ⟨W1.heap.size, 0, none⟩)) (Lib.byteCells ((hdL 6 ++ topL W H cs k) ++ (ru ++ Lib.encodeRune (signK q)))) w4 ∧ Below W1.heap.size W1 w4) := Lib.hid ⟨by rw [← List.append_assoc]; exact hB4, hbl3.trans hb4⟩
            clear hB3 hB4 hb4 hbl3
            go_wp2
            go_roundw
            case rel => exact ⟨x + 1, by omega, by go_num, by rw [HRU.out]; exact HBW⟩
            case measure => simp [intOf]; omega
          · obtain rfl : x = W := by omega
            have dx : decide ((x : Int) < (x : Int)) = false := by simp
            have hl1 := topL_len (W := x) (H := H) (cs := cs) k
            have hl2 := rowU_len (W := x) (cs := cs) (y := yn) x
            have hl3 : (4 * x + 1) * k ≤ 257 * 64 := Nat.mul_le_mul (by omega) (by omega)
            have hl4 : (hdL 6).length = 4 := by decide
            have HLEN : Hid ((Lib.byteCells ((hdL 6 ++ topL x H cs k) ++ rowU x cs yn x)).length ≤ 1000000) := Lib.hid (by rw [Lib.byteCells_length, List.length_append, List.length_append]; omega)
            have HTU : Hid (topL x H cs (k + 1) = topL x H cs k ++ rowU x cs yn x ++ [10]) := Lib.hid (by simp only [topL]; rw [HYN.out])
            clear hl1 hl2 hl3 hl4 HCELL HL HPR HR hW4
            go_wp2_with fail
            refine (bld_byte W1.heap.size W1.heap.size _ 10 (by omega) _ (.inr HBW.out.1) HLEN.out hsw).mono ?_
            rintro r w4 ⟨rfl, hB4, hb4⟩
            have HBX : Hid (Lib.BuilderAt 63 5 W1.heap.size W1.heap.size (.pointer (some ⟨W1.heap.size, 0, none⟩)) (Lib.byteCells (hdL 6 ++ topL x H cs (k + 1))) w4 ∧ Below W1.heap.size W1 w4) := Lib.hid ⟨by
              rw [HTU.out, ← List.append_assoc, ← List.append_assoc, Lib.byteCells_append _ [10]]; exact hB4, HBW.out.2.trans hb4⟩
            clear HBW hB4 hb4 k1 k2 k3 lk HBB
            have v1 : IntKind.i64.wrap ((yn : Int) - 1) = (yn : Int) - 1 := IntWalk.i64_in _ (by omega)
            go_wp2
            go_roundw
            case rel => exact ⟨k + 1, (yn : Int) - 1, by omega, by have := HY.out; omega, by go_num, HBX⟩
            case measure => have := HYN.out; simp [intOf] <;> omega
      · obtain rfl : k = H := by omega
        obtain rfl : y = -1 := by omega
        have HS := Lib.hid (bld_string W1.heap.size W1.heap.size (hdL 6 ++ topL W k cs k) wr (.inr HBW.out.1) (by rw [show hdL 6 = [226, 150, 179, 10] from by decide]; simp))
        clear HCELL HL HR hW4 k1 k2 k3 lk
        go_wp2_with fail
        refine HS.out.mono ?_
        rintro r w4 ⟨rfl, hb4⟩
        have HBX : Hid (Below w.heap.size w w4) := Lib.hid (HBB.out.trans (hb4.mono (by omega)))
        clear HBW HBB hb4 HS
        go_wp2
        go_ret2
        exact ⟨by rw [HPR.out 6]; rfl, HBX.out⟩
end Go.Proofs.YtikdnpkcknocaaaDoor
